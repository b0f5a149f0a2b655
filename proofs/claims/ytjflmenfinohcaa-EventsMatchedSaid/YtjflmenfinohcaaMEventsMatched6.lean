/- Parts of the proof, in order. -/
import Derived.Test.YtjflmenfinohcaaMEventsMatched5
import Derived.Test.YtjflmenfinohcaaStep

/- Walks: the events of a trace, as the reference finds them. -/
namespace Go.Proofs.Ytjflmenfinohcaa.Hd
set_option linter.unusedVariables false
set_option linter.unusedSimpArgs false
open Go.RowKit

/-- what the variables of the reference's function hold -/
structure RSt (Br Bx Bu : Nat) (aR : Option Addr) (cR : Nat) (R : List Int) (st wd ls nm dn u : Int) (w : World) : Prop where
  r : w.heap[Br]? = some (.cells #[.int .i64 st, .int .i64 wd, .int .i64 ls, .int .i64 nm, .int .i64 dn] 72 (0, 0))
  x : w.heap[Bx]? = some (.cells #[.slice aR R.length cR] 22 (0, 0))
  u : w.heap[Bu]? = some (.cells #[.int .i64 u] 3 (0, 0))
  at_ : At w aR (ints R)
theorem RSt.kept {Br Bx Bu : Nat} {aR : Option Addr} {cR : Nat} {R : List Int} {st wd ls nm dn u : Int} {w w' : World} {row : Option Nat} {B : Nat} (h : RSt Br Bx Bu aR cR R st wd ls nm dn u w) (hg : w.grownBy w' row)
    (hl : Br < B ∧ Bx < B ∧ Bu < B ∧ ∀ p, aR = some p → p.block < B) (hr : ∀ b, row = some b → B ≤ b) : RSt Br Bx Bu aR cR R st wd ls nm dn u w' :=
  ⟨blk_apart h.r hg (fun k hk => by have := hr k hk; omega), blk_apart h.x hg (fun k hk => by have := hr k hk; omega), blk_apart h.u hg (fun k hk => by have := hr k hk; omega), h.at_.apart hg hl.2.2.2 hr⟩
theorem RSt.drewN {Br Bx Bu : Nat} {aR : Option Addr} {cR : Nat} {R : List Int} {st wd ls nm dn u : Int} {w : World} (h : RSt Br Bx Bu aR cR R st wd ls nm dn u w) (n : Nat) : RSt Br Bx Bu aR cR R st wd ls nm dn u (w.drewN n) := ⟨h.r, h.x, h.u, h.at_⟩

end Go.Proofs.Ytjflmenfinohcaa.Hd

/- Walks: slices.Equal of pairs of numbers; the self-test of package trace; the trace of steps. -/
namespace Go.Proofs.Ytjflmenfinohcaa.Hd
set_option linter.unusedVariables false
set_option linter.unusedSimpArgs false
open Go.RowKit

end Go.Proofs.Ytjflmenfinohcaa.Hd

/- Contracts of package trace and of the reference for every input, and the self-test of the laws. -/
namespace Go.Proofs.Ytjflmenfinohcaa.Hd
set_option linter.unusedVariables false
set_option linter.unusedSimpArgs false
open Go.RowKit

theorem firstErr2 {a b : Int} (h : firstErr [a, b] = 0) : a = 0 ∧ b = 0 := by
  simp only [firstErr] at h
  split at h <;> simp_all

theorem fault0 {p : List Int} {st wd ls nm dn : Int} (h : faultOf p st wd ls nm dn = 0) :
    p.all okR = true ∧ p.length ≤ 5000 ∧ (1 ≤ st ∧ st ≤ 100) ∧ (1 ≤ wd ∧ wd ≤ 100) ∧ (1 ≤ ls ∧ ls ≤ 10000) ∧ (0 ≤ nm ∧ nm ≤ 10000) ∧ (1 ≤ dn ∧ dn ≤ 1000) := by
  obtain ⟨h1, h2⟩ := firstErr2 h
  unfold traceFault at h1
  unfold rulesFault at h2
  (repeat' split at h1) <;> (repeat' split at h2) <;> first | contradiction | skip
  rename_i a b c d e
  exact ⟨by assumption, by omega, by omega, by omega, by omega, by omega, by omega⟩

def evA (p : List Int) (st wd ls nm dn : Int) : List (Int × Int) := evsOf p wd.toNat dn.toNat nm ls st
def evE (p : List Int) (st wd ls nm dn : Int) : List (Int × Int) := if faultOf p st wd ls nm dn = 0 then if 100 < (evA p st wd ls nm dn).length then [] else evA p st wd ls nm dn else []
def evErr (p : List Int) (st wd ls nm dn : Int) : Int := if faultOf p st wd ls nm dn = 0 then if 100 < (evA p st wd ls nm dn).length then 2 else 0 else faultOf p st wd ls nm dn
/-- a row of pairs and an error -/
def RowPost (w : World) (T : TypeId) (E : List (Int × Int)) (er : Int) (e : Ending) (w' : World) : Prop :=
  ∃ a c, e = .returned (.tuple #[.slice a E.length c, .int .i64 er]) ∧ w'.ownsRow w.heap.size T 2 (.slice a E.length c) E.length (prs E) ∧ w.grownBy w' none

theorem Detected_all (a : Option Addr) (n cap : Nat) (p : List Int) (st wd ls nm dn : Int) (w : World) (hn : n = p.length) (hcap : n ≤ cap) (hc2 : cap ≤ maxLen) (h : At w a (ints p)) (hb : nm ≤ 9223372036854775807 ∧ dn ≤ 9223372036854775807) :
    Calls Try.prog 30 #[.slice a n cap, .agg #[.int .i64 st, .int .i64 wd, .int .i64 ls, .int .i64 nm, .int .i64 dn]] w (RowPost w 32 (evE p st wd ls nm dn) (evErr p st wd ls nm dn)) := by
  by_cases hf : faultOf p st wd ls nm dn = 0
  · obtain ⟨ho, hl, h1, h2, h3, h4, h5⟩ := fault0 hf
    obtain ⟨W, rfl⟩ := Int.eq_ofNat_of_zero_le (show 0 ≤ wd by omega)
    obtain ⟨D, rfl⟩ := Int.eq_ofNat_of_zero_le (show 0 ≤ dn by omega)
    refine (Detected_good a n cap p st ls nm W D w hn hcap hc2 (by omega) ho h h1 h3 (by omega) (by omega) h4 hf).mono ?_
    rintro e w' ⟨h8, h9⟩
    have hE : evA p st W ls nm D = evsOf p W D nm ls st := by rw [evA]; simp
    rw [← hE] at h9
    rw [RowPost, evE, evErr, if_pos hf, if_pos hf]
    split at h9
    · rename_i h10
      rw [if_pos h10, if_pos h10]
      exact ⟨none, 0, h9, World.ownsRow_nil _ _ _ _, h8⟩
    · rename_i h10
      rw [if_neg h10, if_neg h10]
      obtain ⟨a', c', h11, h12⟩ := h9
      exact ⟨a', c', h11, h12, h8⟩
  · refine (Detected_bad a n cap p st wd ls nm dn w hn (by omega) h hb hf).mono ?_
    rintro e w' ⟨rfl, h8⟩
    rw [RowPost, evE, evErr, if_neg hf, if_neg hf]
    exact ⟨none, 0, rfl, World.ownsRow_nil _ _ _ _, h8⟩

end Go.Proofs.Ytjflmenfinohcaa.Hd

/- Walk: the self-test of the laws about traces. -/
namespace Go.Proofs.Ytjflmenfinohcaa.Hd
set_option linter.unusedVariables false
set_option linter.unusedSimpArgs false
open Go.RowKit

theorem traced_E : evE [10, 10, 4, 4] 5 2 3 0 1 = [(10, 6)] := by kernel_rfl
theorem traced_err : evErr [10, 10, 4, 4] 5 2 3 0 1 = 0 := by kernel_rfl

set_option maxHeartbeats 800000 in
theorem traced_any (w : World) : Calls Try.prog 17 #[] w fun e w' => e = .returned (.bool true) ∧ w.grownBy w' none := by
  have HX : ∀ W : World, W = w.alloc (.cells #[.int .i64 10, .int .i64 10, .int .i64 4, .int .i64 4] 3) → Hid (Calls Try.prog 30 #[.slice (some ⟨w.heap.size, 0, none⟩) 4 4, .agg #[.int .i64 5, .int .i64 2, .int .i64 3, .int .i64 0, .int .i64 1]] W (RowPost W 32 [(10, 6)] 0)) := by
    intro W hW
    have := Detected_all (some ⟨w.heap.size, 0, none⟩) 4 4 [10, 10, 4, 4] 5 2 3 0 1 W rfl (by omega) (by unfold maxLen; omega) (by subst hW; exact At.lit _ _ _) (by omega)
    rw [traced_E, traced_err] at this
    exact this
  go_enter Try.func17, Try.ntmps17
  go_wp2_with fail
  refine (HX _ rfl).out.mono ?_
  rintro e w' ⟨a, c, rfl, hown, hg⟩
  have hl := own_lt hown
  have hx := own_at hown
  obtain ⟨g, rfl⟩ := own_addr hown (by simp [prs])
  have h1 := (own_cell hown (j := 1) (by simp [prs])).1
  have hg2 := (World.grownBy_alloc w (.cells #[.int .i64 10, .int .i64 10, .int .i64 4, .int .i64 4] 3) none).trans hg
  clear HX hown hg hx
  change w'.cell? _ = some (.int .i64 6) at h1
  go_wp2_with fail
  go_ret
  exact ⟨rfl, hg2⟩
end Go.Proofs.Ytjflmenfinohcaa.Hd
