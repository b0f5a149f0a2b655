/- Rows that are read, in blocks of a known type. -/
import Derived.Test.YtkefgcleaalnnaaGreatGrid
namespace Go.Proofs.YtkefgcleaalnnaaGreat
set_option linter.unusedVariables false
set_option linter.unusedSimpArgs false
open Go.RowKit

def AtT (w : World) (T : TypeId) (a : Option Addr) (cs : List Value) : Prop :=
  cs = [] ∨ ∃ b off arr fr, a = some ⟨b, off, none⟩ ∧ w.heap[b]? = some (.cells arr T fr) ∧ ∀ j, j < cs.length → arr[off + j]? = cs[j]?

theorem AtT.at {w : World} {T : TypeId} {a : Option Addr} {cs : List Value} (h : AtT w T a cs) : At w a cs := by
  rcases h with h | ⟨b, off, arr, fr, ha, hb, hc⟩
  · exact .inl h
  · exact .inr ⟨b, off, ha, fun j hj => by simp [World.cell?, hb, hc j hj]⟩
theorem AtT.up {w w' : World} {T : TypeId} {a : Option Addr} {cs : List Value} (h : AtT w T a cs) (hg : w.grownBy w' none) : AtT w' T a cs := by
  rcases h with h | ⟨b, off, arr, fr, ha, hb, hc⟩
  · exact .inl h
  · exact .inr ⟨b, off, arr, fr, ha, blk_up hb hg, hc⟩
theorem AtT.set {w : World} {T T2 : TypeId} {a : Option Addr} {cs : List Value} (h : AtT w T a cs) {b : Nat} {arr : Array Value} {fr : Nat × Nat} (hb : w.heap[b]? = some (.cells arr T2 fr)) (hne : T ≠ T2) (o : Nat) (v : Value) : AtT (w.setCell ⟨b, o, none⟩ v) T a cs := by
  rcases h with h | ⟨b', off, arr', fr', ha, hb', hc⟩
  · exact .inl h
  · refine .inr ⟨b', off, arr', fr', ha, hp_set_ne hb' o v (fun e => ?_), hc⟩
    subst e
    rw [hb] at hb'
    injection hb' with h1
    injection h1 with h2 h3
    exact hne h3.symm
theorem AtT.nil (w : World) (T : TypeId) : AtT w T none [] := .inl rfl
end Go.Proofs.YtkefgcleaalnnaaGreat
