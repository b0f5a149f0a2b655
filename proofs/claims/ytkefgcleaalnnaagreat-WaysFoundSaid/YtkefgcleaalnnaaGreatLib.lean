/- General lemmas: no program in sight. -/
import Derived.WalkKit
import Derived.WalkSpells
import Derived.WalkLawsBesides
import Derived.Deep.DeepFit
import Derived.Handy
import Derived.Lib.Hide
import Derived.Deep.QuietTactic
import Derived.BigQuiet
import Derived.Maps.Range
import Derived.Maps.AppendAt
namespace Go.Proofs.YtkefgcleaalnnaaGreat
set_option linter.unusedVariables false
set_option linter.unusedSimpArgs false
open Go.RowKit

def At (w : World) (a : Option Addr) (cs : List Value) : Prop :=
 cs = [] ∨ ∃ b off, a = some ⟨b, off, none⟩ ∧ ∀ j, j < cs.length → w.cell? ⟨b, off + j, none⟩ = cs[j]?

def ints (xs : List Int) : List Value := xs.map (Value.int .i64)

theorem length_ints (xs : List Int) : (ints xs).length = xs.length := by simp [ints]
theorem ints_get (xs : List Int) (k : Nat) (h : k < xs.length) : (ints xs)[k]? = some (.int .i64 (xs.getD k 0)) := by
 simp [ints, h]

theorem At.int {w : World} {a : Option Addr} {xs : List Int} (h : At w a (ints xs)) {k : Nat} (hk : k < xs.length) :
  ∃ b off, a = some ⟨b, off, none⟩ ∧ w.cell? ⟨b, off + k, none⟩ = some (.int .i64 (xs.getD k 0)) := by
 rcases h with h | ⟨b, off, ha, hc⟩
 ·have := congrArg List.length h; simp [ints] at this; subst this; simp at hk
 ·exact ⟨b, off, ha, by rw [hc k (by rw [length_ints]; exact hk), ints_get xs k hk]⟩

theorem At.grown {w w' : World} {a : Option Addr} {cs : List Value} {x : Option Nat} (h : At w a cs) (hg : w.grownBy w' x) (hx : ∀ p, a = some p → some p.block ≠ x) : At w' a cs := by
 rcases h with h | ⟨b, off, ha, hc⟩
 ·exact .inl h
 ·refine .inr ⟨b, off, ha, fun j hj => ?_⟩
  have h1 := hc j hj
  rw [List.getElem?_eq_getElem hj] at h1 ⊢
  exact hg.cell h1 (show some b ≠ x from hx _ ha)

theorem At.alloc {w : World} {a : Option Addr} {cs : List Value} (h : At w a cs) (o : Obj) : At (w.alloc o) a cs := h.grown (x := none) (World.grownBy_alloc w o none) (by simp)
theorem At.drewN {w : World} {a : Option Addr} {cs : List Value} (h : At w a cs) (n : Nat) : At (w.drewN n) a cs := h
theorem At.drew {w : World} {a : Option Addr} {cs : List Value} (h : At w a cs) : At w.drew a cs := h

theorem At.sub {w : World} {b off : Nat} {cs : List Value} (h : At w (some ⟨b, off, none⟩) cs) (lo m : Nat) : At w (some ⟨b, off + lo, none⟩) ((cs.drop lo).take m) := by
 rcases h with rfl | ⟨b', off', ha, hc⟩
 ·exact .inl (by simp)
 ·cases ha
  refine .inr ⟨b, off + lo, rfl, fun j hj => ?_⟩
  simp only [List.length_take, List.length_drop] at hj
  rw [Nat.add_assoc, hc (lo + j) (by omega), List.getElem?_take, if_pos (by omega), List.getElem?_drop]

theorem At.lit (w : World) (cs : Array Value) (E : TypeId) : At (w.alloc (.cells cs E)) (some ⟨w.heap.size, 0, none⟩) cs.toList := by
 refine .inr ⟨_, 0, rfl, fun j hj => ?_⟩
 have h := heap_alloc_new w (.cells cs E)
 simp only [World.cell?, h]
 simp

theorem own_at {w : World} {base : Nat} {e : TypeId} {size : Nat} {a : Option Addr} {c n : Nat} {xs : List Value} (h : w.ownsRow base e size (.slice a n c) n xs) : At w a xs := by
 by_cases hx : xs = []
 ·exact .inl hx
 ·have hp : 0 < xs.length := List.length_pos_iff.2 hx
  rcases h.2 with ⟨hv, hn⟩ | ⟨g, cap, cur, hv, hg, r⟩
  ·have := h.1; subst hn; simp at this; exact .inl this
  ·cases hv
   refine .inr ⟨g, 0, rfl, fun j hj => ?_⟩
   rw [Nat.zero_add]
   exact h.cellAt j (by rw [← h.1]; exact hj)

theorem own_lt {w : World} {base : Nat} {e : TypeId} {size : Nat} {a : Option Addr} {c n : Nat} {xs : List Value} (h : w.ownsRow base e size (.slice a n c) n xs) : ∀ p, a = some p → base ≤ p.block ∧ p.block < w.heap.size := by
 intro p hp; subst hp; exact h.lt p.block rfl

theorem own_cap {w : World} {base : Nat} {e : TypeId} {size : Nat} {a : Option Addr} {c n : Nat} {xs : List Value} (h : w.ownsRow base e size (.slice a n c) n xs) : n ≤ c ∧ c ≤ maxLen := by
 rcases h.2 with ⟨hv, hn⟩ | ⟨g, cap, cur, hv, hg, _, h1, h2, _⟩
 ·cases hv; exact ⟨Nat.le_refl _, Nat.zero_le _⟩
 ·cases hv; exact ⟨h1, h2⟩

theorem own_cell {w : World} {base : Nat} {e : TypeId} {size g c n : Nat} {xs : List Value} (h : w.ownsRow base e size (.slice (some ⟨g, 0, none⟩) n c) n xs) {j : Nat} (hj : j < xs.length) :
  w.cell? ⟨g, j, none⟩ = xs[j]? ∧ w.frozen? ⟨g, j, none⟩ = false := ⟨h.cellAt j (by rw [← h.1]; exact hj), h.frozenAt j⟩

def blk (a : Option Addr) : Option Nat := a.map (·.block)
theorem ownBlock_slice (a : Option Addr) (n c : Nat) : (Value.slice a n c).ownBlock = blk a := by cases a <;> rfl

theorem At.apart {w w' : World} {a : Option Addr} {cs : List Value} {row : Option Nat} {B : Nat} (h : At w a cs) (hg : w.grownBy w' row) (ha : ∀ p, a = some p → p.block < B) (hr : ∀ b, row = some b → B ≤ b) : At w' a cs :=
 h.grown hg (fun p hp e => by have := ha p hp; have := hr _ e.symm; omega)
theorem grown_refl (w : World) (x : Option Nat) : w.grownBy w x := ⟨rfl, rfl, rfl, Nat.le_refl _, fun _ _ _ => rfl⟩

def Elem (P : Program) (t e : TypeId) (size bytes : Nat) : Prop :=
 P.underlying t = some (.slice e) ∧ ∃ i z, P.info? e = some i ∧ i.zero = some z ∧ i.size = size ∧ i.bytes = bytes ∧ z.cells.size = size ∧ 0 < size

end Go.Proofs.YtkefgcleaalnnaaGreat
