/- How a list of numbers that came in is met by the walks: the common part of every law's row. -/
import Derived.Test.YtkefgcleaalnnaaGreatRows
import Derived.Test.YtkefgcleaalnnaaGreatLib
import Derived.WalkKit
import Derived.ProofKit
import Derived.OpenShut
import Derived.ShutString
import Derived.ChangeOld
import Derived.Below
namespace Go.Proofs.YtkefgcleaalnnaaGreat
set_option linter.unusedVariables false
set_option linter.unusedSimpArgs false
open Go.ChangeShapes Go.WideShapes Go.ChangeAt Go.RowKit

theorem own : ownKnob Tryz.prog.godebug = none := by kernel_rfl
theorem laidOut : laidOutB Tryz.prog = true := by kernel_rfl

def IsRow (k : IntKind) (w : World) (a : Option Addr) (len cap : Nat) (zs : List Int) : Prop :=
  (a = none ∧ len = 0 ∧ cap = 0 ∧ zs = []) ∨
  ∃ x, a = some x ∧ len ≤ cap ∧ cap ≤ maxLen ∧ zs.length = cap ∧ (∀ i, i < zs.length → w.cell? (x.add i) = some (.int k (zs.getD i 0))) ∧ ∀ n ∈ zs, (Lit.int k n).wf = true

theorem spot_none {w : World} {x : Addr} {v : Value} (h : w.cell? x = some v) : x.spot = none ∧ x.block < w.heap.size := by
  unfold World.cell? at h
  split at h
  · rename_i c t q hx
    split at h
    · cases h
    · rename_i h1
      exact ⟨by cases hs : x.spot <;> simp_all, lt_of_block hx⟩
  · cases h

theorem walk_of {f : Nat} (H : ∀ (a : Option Addr) (n cap : Nat) (L : List Int) (w : World), n = L.length → n ≤ maxLen → At w a (ints L) → (L ≠ [] → ∀ x, a = some x → x.block < w.heap.size) →
    Calls Tryz.prog f #[.slice a n cap] w fun e w' => e = .returned (.bool true) ∧ w.grownBy w' none)
    (a : Option Addr) (len cap : Nat) (zs : List Int) (w : World) (h : IsRow .i64 w a len cap zs) :
    Calls Tryz.prog f #[.slice a len cap] w fun e w' => e = .returned (.bool true) ∧ Below w.heap.size w w' := by
  have hB : ∀ w', w.grownBy w' none → Below w.heap.size w w' := fun w' hg => ⟨hg.os, hg.tape, hg.output, hg.size, fun k hk => hg.block k hk (by simp)⟩
  rcases h with ⟨rfl, rfl, rfl, rfl⟩ | ⟨x, rfl, hl, hm, hz, hcell, -⟩
  · exact (H none 0 0 [] w rfl (Nat.zero_le _) (.inl rfl) (fun h => absurd rfl h)).mono fun e w' ⟨h1, h2⟩ => ⟨h1, hB w' h2⟩
  · refine (H (some x) len cap (zs.take len) w (by simp; omega) (by omega) ?_ ?_).mono fun e w' ⟨h1, h2⟩ => ⟨h1, hB w' h2⟩
    · by_cases h0 : len = 0
      · exact .inl (by simp [h0, ints])
      · obtain ⟨h1, -⟩ := spot_none (hcell 0 (by omega))
        obtain ⟨b, o, sp⟩ := x
        have h2 : sp = none := h1
        subst h2
        refine .inr ⟨b, o, rfl, fun j hj => ?_⟩
        have hj' : j < len := by simp [ints] at hj; omega
        have h3 := hcell j (by omega)
        have h4 : (ints (zs.take len))[j]? = some (.int .i64 (zs.getD j 0)) := by
          have h5 : j < zs.length := by omega
          simp [ints, List.getElem?_take, hj', h5]
        rw [h4]
        have h6 : (⟨b, o, none⟩ : Addr).add j = ⟨b, o + j, none⟩ := by unfold Addr.add; split <;> simp_all
        rw [← h6]
        exact h3
    · intro h0 y hy
      cases hy
      have h1 : 0 < zs.length := by
        rcases Nat.eq_zero_or_pos zs.length with h | h
        · exact absurd (by rw [List.length_eq_zero_iff.1 h]; simp) h0
        · exact h
      obtain ⟨-, h2⟩ := spot_none (hcell 0 h1)
      exact h2
end Go.Proofs.YtkefgcleaalnnaaGreat
