/- Rows that are read, in blocks of a known type. -/
import Derived.Test.YthdaejnepengeaaGreatDoorGrid
namespace Go.Proofs.YthdaejnepengeaaGreatDoor
set_option linter.unusedVariables false
set_option linter.unusedSimpArgs false
open Go.RowKit

/-- the cells from address a on, in a block of elements of type T -/
def AtT (w : World) (T : TypeId) (a : Option Addr) (cs : List Value) : Prop :=
  cs = [] ∨ ∃ b off arr fr, a = some ⟨b, off, none⟩ ∧ w.heap[b]? = some (.cells arr T fr) ∧ ∀ j, j < cs.length → arr[off + j]? = cs[j]?

theorem AtT.at {w : World} {T : TypeId} {a : Option Addr} {cs : List Value} (h : AtT w T a cs) : At w a cs := by
  rcases h with h | ⟨b, off, arr, fr, ha, hb, hc⟩
  · exact .inl h
  · exact .inr ⟨b, off, ha, fun j hj => by simp [World.cell?, hb, hc j hj]⟩
theorem AtT.up {w w' : World} {T : TypeId} {a : Option Addr} {cs : List Value} (h : AtT w T a cs) (hg : w.grownBy w' none) : AtT w' T a cs := by
  rcases h with h | ⟨b, off, arr, fr, ha, hb, hc⟩
  · exact .inl h
  · exact .inr ⟨b, off, arr, fr, ha, blk_up hb hg, hc⟩
/-- a block of another type is written -/
theorem AtT.set {w : World} {T T2 : TypeId} {a : Option Addr} {cs : List Value} (h : AtT w T a cs) {b : Nat} {arr : Array Value} {fr : Nat × Nat} (hb : w.heap[b]? = some (.cells arr T2 fr)) (hne : T ≠ T2) (o : Nat) (v : Value) : AtT (w.setCell ⟨b, o, none⟩ v) T a cs := by
  rcases h with h | ⟨b', off, arr', fr', ha, hb', hc⟩
  · exact .inl h
  · refine .inr ⟨b', off, arr', fr', ha, hp_set_ne hb' o v (fun e => ?_), hc⟩
    subst e
    rw [hb] at hb'
    injection hb' with h1
    injection h1 with h2 h3
    exact hne h3.symm
theorem own_atT {w : World} {base : Nat} {e : TypeId} {size : Nat} {a : Option Addr} {c n : Nat} {xs : List Value} (h : w.ownsRow base e size (.slice a n c) n xs) : AtT w e a xs := by
  by_cases hx : xs = []
  · exact .inl hx
  · rcases h.2 with ⟨hv, hn⟩ | ⟨g, cap, cur, hv, hg, hb, h1, h2, h3, h4⟩
    · have := h.1; subst hn; simp at this; exact absurd this hx
    · cases hv
      refine .inr ⟨g, 0, cur, (0, 0), rfl, hb, fun j hj => ?_⟩
      have h5 := h.cellAt j (by rw [← h.1]; exact hj)
      simp only [World.cell?, hb] at h5
      rw [Nat.zero_add]
      simpa using h5
theorem rowIs_blk {w : World} {b n : Nat} {t : TypeId} {f : Nat → Value} (h : w.rowIs b t n f) : ∃ c, w.heap[b]? = some (.cells c t (0, 0)) := by obtain ⟨c, h1, _⟩ := h; exact ⟨c, h1⟩
theorem AtT.nil (w : World) (T : TypeId) : AtT w T none [] := .inl rfl
end Go.Proofs.YthdaejnepengeaaGreatDoor
