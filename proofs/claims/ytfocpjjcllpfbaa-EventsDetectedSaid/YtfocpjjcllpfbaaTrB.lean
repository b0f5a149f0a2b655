/- Walks: a trace is looked at (package trace, and the reference). -/
import Derived.Test.YtfocpjjcllpfbaaTrA
import Derived.Test.YtfocpjjcllpfbaaFuncs
namespace Go.Proofs.Ytfocpjjcllpfbaa
open Go.RowKit

def okR (n : Int) : Bool := inB n (-10000) 10000
def traceFault (p : List Int) : Int := if 5000 < p.length then 2 else if p.all okR then 0 else 1

set_option maxHeartbeats 400000 in
theorem isreading_any (n : Int) (w : World) : Calls Try.prog 43 #[.int .i64 n] w fun e w' => e = .returned (.bool (okR n)) ∧ w = w' := by
  go_enter Try.func43, Try.ntmps43
  go_wp2_with fail
  refine (out_any _ _ _ _).mono ?_
  rintro e w1 ⟨rfl, rfl⟩
  go_wp2_with fail
  go_ret
  exact ⟨ret_bool (by simp [okR]), rfl⟩

theorem all_take_succ (p : List Int) (k : Nat) (h : k < p.length) : (p.take (k + 1)).all okR = ((p.take k).all okR && okR (p.getD k 0)) := by
  rw [take_snocD p k h]; simp

set_option maxHeartbeats 800000 in
theorem checktrace_any (a : Option Addr) (n cap : Nat) (p : List Int) (w : World) (hn : n = p.length) (hm : n ≤ maxLen) (h : At w a (ints p)) :
    Calls Try.prog 21 #[.slice a n cap] w fun e w' => e = .returned (.int .i64 (traceFault p)) ∧ w = w' := by
  subst hn
  unfold maxLen at hm
  by_cases hl : 5000 < p.length
  · have H : Hid (traceFault p = 2) := by show traceFault p = 2; rw [traceFault, if_pos hl]
    go_enter Try.func21, Try.ntmps21
    go_wp2
    go_ret
    exact ⟨ret_int H.out.symm, rfl⟩
  · have H : Hid (traceFault p = if p.all okR then 0 else 1) := by show traceFault p = _; rw [traceFault, if_neg hl]
    go_enter Try.func21, Try.ntmps21
    go_wp2
    go_loop [10] (fun i => ∃ k : Nat, k ≤ p.length ∧ Hid ((p.take k).all okR = true) ∧ i = .int .i64 k) (fun i => p.length - (intOf i).toNat)
    case atStart => exact ⟨0, Nat.zero_le _, by exact Lib.hid rfl, rfl⟩
    case round =>
      obtain ⟨k, hk, hf, rfl⟩ := hrel
      by_cases hlt : k < p.length
      · obtain ⟨b, off, rfl, hck⟩ := h.int hlt
        have HS := Lib.hid (all_take_succ p k hlt)
        have HM := Lib.hid (show p.getD k 0 ∈ p by simp [hlt])
        generalize p.getD k 0 = x at hck HS HM
        go_wp2_with fail
        refine (isreading_any _ _).mono ?_
        rintro e w1 ⟨rfl, rfl⟩
        by_cases hx : okR x = true
        · go_wp2_with fail
          go_round
          case rel => exact ⟨k + 1, by omega, (by have := HS.out; rw [hf.out, hx] at this; exact this), by go_num⟩
          case measure => simp [intOf]; omega
        · have hx' : okR x = false := by simpa using hx
          clear hx
          go_wp2_with fail
          go_ret
          exact ⟨ret_int (by rw [H.out, if_neg (by rw [List.all_eq_true]; intro hh; rw [hh x HM.out] at hx'; cases hx')]), rfl⟩
      · go_wp2
        go_ret
        exact ⟨ret_int (by rw [H.out]; have := hf.out; rw [List.take_of_length_le (by omega)] at this; rw [this]; rfl), rfl⟩

set_option maxHeartbeats 400000 in
theorem tracefault1_any (n : Int) (w : World) : Calls Try.prog 45 #[.int .i64 n] w fun e w' => e = .returned (.bool (!okR n)) ∧ w = w' := by
  go_enter Try.func45, Try.ntmps45
  go_wp2_with fail
  refine (in_any _ _ _ _).mono ?_
  rintro e w1 ⟨rfl, rfl⟩
  go_wp2_with fail
  go_ret
  exact ⟨ret_bool (by simp [okR]), rfl⟩

set_option maxHeartbeats 800000 in
theorem tracefault_any (a : Option Addr) (n cap : Nat) (p : List Int) (w : World) (hn : n = p.length) (hm : n ≤ maxLen) (h : At w a (ints p)) :
    Calls Try.prog 14 #[.slice a n cap] w fun e w' => e = .returned (.int .i64 (traceFault p)) ∧ ∃ m, w' = w.drewN m := by
  have HC := Lib.hid (containsInt_any 45 #[] (fun n => !okR n) a n cap p w (enters_fn Try.func45 (by kernel_rfl) (by kernel_rfl)) (fun x _ q => (tracefault1_any x _).mono fun e w' ⟨h1, h2⟩ => ⟨h1, q, h2.symm⟩) hn hm h)
  have HA : Hid (p.any (fun n => !okR n) = !p.all okR) := by show _ = _; rw [List.all_eq_not_any_not]; simp
  subst hn
  unfold maxLen at hm
  clear h
  by_cases hl : 5000 < p.length
  · have H : Hid (traceFault p = 2) := by show traceFault p = 2; rw [traceFault, if_pos hl]
    go_enter Try.func14, Try.ntmps14
    go_wp2
    go_ret
    exact ⟨ret_int H.out.symm, 0, rfl⟩
  · have H : Hid (traceFault p = if p.all okR then 0 else 1) := by show traceFault p = _; rw [traceFault, if_neg hl]
    rw [HA.out] at HC
    clear HA
    go_enter Try.func14, Try.ntmps14
    go_wp2_with fail
    refine HC.out.mono ?_
    clear HC
    rintro e w1 ⟨rfl, m, rfl⟩
    by_cases hx : p.all okR = true
    · have H' : Hid (traceFault p = 0) := by show _ = _; rw [H.out, if_pos hx]
      rw [hx]
      go_wp2_with fail
      go_ret
      exact ⟨ret_int H'.out.symm, m, rfl⟩
    · have hx' : p.all okR = false := by simpa using hx
      have H' : Hid (traceFault p = 1) := by show _ = _; rw [H.out, if_neg hx]
      rw [hx']
      go_wp2_with fail
      go_ret
      exact ⟨ret_int H'.out.symm, m, rfl⟩

/-- both faults -/
def faultOf (p : List Int) (st wd ls nm dn : Int) : Int := firstErr [traceFault p, rulesFault st wd ls nm dn]

set_option maxHeartbeats 800000 in
theorem fault_any (a : Option Addr) (n cap : Nat) (p : List Int) (st wd ls nm dn : Int) (w : World) (hn : n = p.length) (hm : n ≤ maxLen) (h : At w a (ints p)) (hb : nm ≤ 9223372036854775807 ∧ dn ≤ 9223372036854775807) :
    Calls Try.prog 38 #[.slice a n cap, .agg #[.int .i64 st, .int .i64 wd, .int .i64 ls, .int .i64 nm, .int .i64 dn]] w fun e w' => e = .returned (.int .i64 (faultOf p st wd ls nm dn)) ∧ w.grownBy w' none := by
  subst hn
  have h0 := heap_alloc_new w (.cells #[.int .i64 st, .int .i64 wd, .int .i64 ls, .int .i64 nm, .int .i64 dn] 30)
  have hc := cells5 h0
  have hat := h.alloc (.cells #[.int .i64 st, .int .i64 wd, .int .i64 ls, .int .i64 nm, .int .i64 dn] 30)
  go_enter Try.func38, Try.ntmps38
  go_wp2_with fail
  go_region_held3 (fun w' => w'.cell? ⟨w.heap.size, 0, none⟩ = some (.int .i64 st) ∧ w'.cell? ⟨w.heap.size, 1, none⟩ = some (.int .i64 wd) ∧ w'.cell? ⟨w.heap.size, 2, none⟩ = some (.int .i64 ls) ∧ w'.cell? ⟨w.heap.size, 3, none⟩ = some (.int .i64 nm) ∧ w'.cell? ⟨w.heap.size, 4, none⟩ = some (.int .i64 dn)) (go_keep) (first | (go_at_call 21; go_must (refine (checktrace_any _ _ _ p _ rfl hm hat.drew).mono ?_); rintro e w1 ⟨rfl, rfl⟩) | (go_at_call 20; go_must (refine (checkrules_any _ _ _ _ _ _ hb).mono ?_); rintro e w2 ⟨rfl, hg⟩; have hb2 := (hg.block _ (lt_of_block h0) (by simp)).trans h0; have hc := cells5 hb2) | (go_at_call 64; go_must (refine (first_lit [traceFault p, rulesFault st wd ls nm dn] _ _ _ _ _ rfl rfl rfl (by simp)).mono ?_); rintro e w3 ⟨rfl, rfl⟩))
  go_wp2_with fail
  go_ret
  exact ⟨ret_int rfl, grown_alloc_r ((grown_drew_r (World.grownBy_alloc _ _ _)).trans hg) _⟩
end Go.Proofs.Ytfocpjjcllpfbaa
