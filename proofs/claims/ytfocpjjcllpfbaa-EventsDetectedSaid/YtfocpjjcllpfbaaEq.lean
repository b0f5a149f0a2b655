/- Walks: slices.Equal of pairs of numbers; the self-test of package trace; the trace of steps. -/
import Derived.Test.YtfocpjjcllpfbaaDetR
import Derived.Test.YtfocpjjcllpfbaaStream
namespace Go.Proofs.Ytfocpjjcllpfbaa
open Go.RowKit

def EqRel (A B : List (Int × Int)) (w : World) (v13 : Value) (wr : World) : Prop := ∃ k m : Nat, k ≤ A.length ∧ v13 = .int .i64 k ∧ Hid (wr = w.drewN m)

set_option maxHeartbeats 800000 in
/-- the same list twice -/
theorem eqfrac_same (a b : Option Addr) (n c d : Nat) (A : List (Int × Int)) (w : World) (hn : n = A.length) (hm : n ≤ maxLen) (ha : At w a (prs A)) (hb : At w b (prs A)) :
    Calls Try.prog 22 #[.slice a n c, .slice b n d] w fun e w' => e = .returned (.bool true) ∧ ∃ m, w' = w.drewN m := by
  subst hn
  unfold maxLen at hm
  go_enter Try.func22, Try.ntmps22
  go_wp2_with fail
  go_loopw [13] (EqRel A A w) (fun i _ => A.length - (intOf i).toNat)
  case atStart => exact ⟨0, 0, Nat.zero_le _, rfl, rfl⟩
  case round =>
    obtain ⟨k, m, hk, rfl, hw⟩ := hrel
    by_cases hlt : k < A.length
    · obtain ⟨b1, o1, rfl, h1, h2⟩ := ha.pair hlt
      obtain ⟨b2, o2, rfl, h3, h4⟩ := hb.pair hlt
      have h1' : wr.cell? ⟨b1, o1 + k * 2, none⟩ = some (.int .i64 (A.getD k (0, 0)).1) := by rw [hw.out]; exact h1
      have h2' : wr.cell? ⟨b1, o1 + k * 2 + 1, none⟩ = some (.int .i64 (A.getD k (0, 0)).2) := by rw [hw.out]; exact h2
      have h3' : wr.cell? ⟨b2, o2 + k * 2, none⟩ = some (.int .i64 (A.getD k (0, 0)).1) := by rw [hw.out]; exact h3
      have h4' : wr.cell? ⟨b2, o2 + k * 2 + 1, none⟩ = some (.int .i64 (A.getD k (0, 0)).2) := by rw [hw.out]; exact h4
      have hki : (k : Int) < (A.length : Int) := by omega
      clear h1 h2 h3 h4 ha hb
      generalize A.getD k (0, 0) = q at *
      go_wp2_with fail
      go_quiet (fail)
      go_wp2_with fail
      exact ⟨⟨k + 1, m + _, by omega, by go_num, (by show _ = _; rw [hw.out]; exact drewN_add _ _ _)⟩, by simp [intOf]; omega⟩
    · go_wp2_with fail
      go_ret
      exact ⟨rfl, m, hw.out⟩

set_option maxHeartbeats 800000 in
/-- the same list twice -/
theorem eqevent_same (a b : Option Addr) (n c d : Nat) (A : List (Int × Int)) (w : World) (hn : n = A.length) (hm : n ≤ maxLen) (ha : At w a (prs A)) (hb : At w b (prs A)) :
    Calls Try.prog 23 #[.slice a n c, .slice b n d] w fun e w' => e = .returned (.bool true) ∧ ∃ m, w' = w.drewN m := by
  subst hn
  unfold maxLen at hm
  go_enter Try.func23, Try.ntmps23
  go_wp2_with fail
  go_loopw [13] (EqRel A A w) (fun i _ => A.length - (intOf i).toNat)
  case atStart => exact ⟨0, 0, Nat.zero_le _, rfl, rfl⟩
  case round =>
    obtain ⟨k, m, hk, rfl, hw⟩ := hrel
    by_cases hlt : k < A.length
    · obtain ⟨b1, o1, rfl, h1, h2⟩ := ha.pair hlt
      obtain ⟨b2, o2, rfl, h3, h4⟩ := hb.pair hlt
      have h1' : wr.cell? ⟨b1, o1 + k * 2, none⟩ = some (.int .i64 (A.getD k (0, 0)).1) := by rw [hw.out]; exact h1
      have h2' : wr.cell? ⟨b1, o1 + k * 2 + 1, none⟩ = some (.int .i64 (A.getD k (0, 0)).2) := by rw [hw.out]; exact h2
      have h3' : wr.cell? ⟨b2, o2 + k * 2, none⟩ = some (.int .i64 (A.getD k (0, 0)).1) := by rw [hw.out]; exact h3
      have h4' : wr.cell? ⟨b2, o2 + k * 2 + 1, none⟩ = some (.int .i64 (A.getD k (0, 0)).2) := by rw [hw.out]; exact h4
      have hki : (k : Int) < (A.length : Int) := by omega
      clear h1 h2 h3 h4 ha hb
      generalize A.getD k (0, 0) = q at *
      go_wp2_with fail
      go_quiet (fail)
      go_wp2_with fail
      exact ⟨⟨k + 1, m + _, by omega, by go_num, (by show _ = _; rw [hw.out]; exact drewN_add _ _ _)⟩, by simp [intOf]; omega⟩
    · go_wp2_with fail
      go_ret
      exact ⟨rfl, m, hw.out⟩
end Go.Proofs.Ytfocpjjcllpfbaa
