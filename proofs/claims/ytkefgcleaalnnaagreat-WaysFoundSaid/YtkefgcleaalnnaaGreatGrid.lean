/- Tables that a call makes: a slice of slices, each element of two cells, each row in a block of its own. -/
import Derived.Test.YtkefgcleaalnnaaGreatLib2
import Derived.Deep.OwnRows
namespace Go.Proofs.YtkefgcleaalnnaaGreat
set_option linter.unusedVariables false
set_option linter.unusedSimpArgs false
open Go.RowKit

def pairCells (V : Nat → Value × Value) (j : Nat) : Value := if j % 2 = 0 then (V (j / 2)).1 else (V (j / 2)).2
theorem pairCells_0 (V : Nat → Value × Value) (k : Nat) : pairCells V (k * 2) = (V k).1 := by unfold pairCells; rw [if_pos (by omega)]; congr 2; omega
theorem pairCells_1 (V : Nat → Value × Value) (k : Nat) : pairCells V (k * 2 + 1) = (V k).2 := by unfold pairCells; rw [if_neg (by omega)]; congr 2; omega

theorem rowIs_up {w w' : World} {b n : Nat} {t : TypeId} {f : Nat → Value} (h : w.rowIs b t n f) (hg : w.grownBy w' none) : w'.rowIs b t n f := h.of_block (hg.block b h.lt (by simp))

def Grid (w : World) (T1 T2 : TypeId) (lo g : Nat) (R : Nat → Nat) (N M : Nat) (made : Nat → Bool) (V : Nat → Nat → Value × Value) : Prop :=
 w.rowIs g T1 N (fun i => if made i then .slice (some ⟨R i, 0, none⟩) M M else .slice none 0 0) ∧ g < lo ∧
 (∀ i, i < N → made i = true → w.rowIs (R i) T2 (M * 2) (pairCells (V i)) ∧ lo ≤ R i ∧ R i ≠ g) ∧
 (∀ i i', i < N → i' < N → made i = true → made i' = true → R i = R i' → i = i')

section
variable {w : World} {T1 T2 : TypeId} {lo g : Nat} {R : Nat → Nat} {N M : Nat} {made : Nat → Bool} {V : Nat → Nat → Value × Value}

theorem Grid.up {w' : World} (h : Grid w T1 T2 lo g R N M made V) (hg : w.grownBy w' none) : Grid w' T1 T2 lo g R N M made V :=
 ⟨rowIs_up h.1 hg, h.2.1, fun i hi hm => ⟨rowIs_up (h.2.2.1 i hi hm).1 hg, (h.2.2.1 i hi hm).2⟩, h.2.2.2⟩
theorem Grid.outer (h : Grid w T1 T2 lo g R N M made V) {i : Nat} (hi : i < N) (hm : made i = true) : w.cell? ⟨g, i, none⟩ = some (.slice (some ⟨R i, 0, none⟩) M M) := by
 rw [h.1.cell hi, if_pos hm]
theorem Grid.nil (h : Grid w T1 T2 lo g R N M made V) {i : Nat} (hi : i < N) (hm : made i = false) : w.cell? ⟨g, i, none⟩ = some (.slice none 0 0) := by
 rw [h.1.cell hi, hm]; rfl
theorem Grid.cells (h : Grid w T1 T2 lo g R N M made V) {i k : Nat} (hi : i < N) (hm : made i = true) (hk : k < M) :
  w.cell? ⟨R i, k * 2, none⟩ = some (V i k).1 ∧ w.cell? ⟨R i, k * 2 + 1, none⟩ = some (V i k).2 := by
 have h1 := (h.2.2.1 i hi hm).1
 exact ⟨by rw [h1.cell (by omega), pairCells_0], by rw [h1.cell (by omega), pairCells_1]⟩
theorem Grid.glt (h : Grid w T1 T2 lo g R N M made V) : g < w.heap.size := h.1.lt
theorem Grid.rlt (h : Grid w T1 T2 lo g R N M made V) {i : Nat} (hi : i < N) (hm : made i = true) : R i < w.heap.size := (h.2.2.1 i hi hm).1.lt
theorem Grid.setOther (h : Grid w T1 T2 lo g R N M made V) {b : Nat} (hb : b < lo) (hbg : g ≠ b) (o : Nat) (v : Value) : Grid (w.setCell ⟨b, o, none⟩ v) T1 T2 lo g R N M made V :=
 ⟨h.1.setOther hbg v, h.2.1, fun i hi hm => ⟨(h.2.2.1 i hi hm).1.setOther (by have := (h.2.2.1 i hi hm).2.1; simp; omega) v, (h.2.2.1 i hi hm).2⟩, h.2.2.2⟩
theorem Grid.congr {V' : Nat → Nat → Value × Value} {made' : Nat → Bool} (h : Grid w T1 T2 lo g R N M made V) (hm : ∀ i, i < N → made i = made' i) (hV : ∀ i k, i < N → made i = true → k < M → V i k = V' i k) : Grid w T1 T2 lo g R N M made' V' := by
 refine ⟨h.1.congr (fun i hi => by rw [hm i hi]), h.2.1, fun i hi hmi => ?_, fun i i' hi hi' h1 h2 => h.2.2.2 i i' hi hi' ((hm i hi).trans h1) ((hm i' hi').trans h2)⟩
 have h1 := (hm i hi).trans hmi
 obtain ⟨h2, h3⟩ := h.2.2.1 i hi h1
 refine ⟨h2.congr fun j hj => ?_, h3⟩
 unfold pairCells
 rw [hV i (j / 2) hi h1 (by omega)]

theorem Grid.put (h : Grid w T1 T2 lo g R N M made V) {i k : Nat} (hi : i < N) (hm : made i = true) (v1 v2 : Value) :
  Grid ((w.setCell ⟨R i, k * 2, none⟩ v1).setCell ⟨R i, k * 2 + 1, none⟩ v2) T1 T2 lo g R N M made (fun i' k' => if i' = i ∧ k' = k then (v1, v2) else V i' k') := by
 obtain ⟨h1, h2, h3, h4⟩ := h
 obtain ⟨hr, hlo, hne⟩ := h3 i hi hm
 refine ⟨(h1.setOther (a := ⟨R i, k * 2, none⟩) (by simp; omega) v1).setOther (a := ⟨R i, k * 2 + 1, none⟩) (by simp; omega) v2, h2, fun i' hi' hm' => ?_, h4⟩
 obtain ⟨hr', hlo', hne'⟩ := h3 i' hi' hm'
 refine ⟨?_, hlo', hne'⟩
 by_cases e : i' = i
 ·subst e
  refine ((hr.set (k * 2) v1).set (k * 2 + 1) v2).congr fun j hj => ?_
  unfold pairCells
  by_cases e1 : j = k * 2 + 1
  ·subst e1
   have e2 : (k * 2 + 1) / 2 = k := by omega
   have e3 : ¬ (k * 2 + 1) % 2 = 0 := by omega
   simp [e2, e3]
  ·by_cases e4 : j = k * 2
   ·subst e4
    have e2 : (k * 2) / 2 = k := by omega
    have e3 : (k * 2) % 2 = 0 := by omega
    simp [e2, e3]
   ·have e5 : ¬ j / 2 = k := by omega
    simp [e1, e4, e5]
 ·have hx : R i' ≠ R i := fun e2 => e (h4 i' i hi' hi hm' hm e2)
  refine ((hr'.setOther (a := ⟨R i, k * 2, none⟩) hx v1).setOther (a := ⟨R i, k * 2 + 1, none⟩) hx v2).congr fun j hj => ?_
  unfold pairCells
  simp [e]

theorem Grid.alloc (h : Grid w T1 T2 lo g R N M made V) (o : Obj) : Grid (w.alloc o) T1 T2 lo g R N M made V := h.up (World.grownBy_alloc w o none)

theorem Grid.mk (h : Grid w T1 T2 lo g R N M made V) (hlo : lo ≤ w.heap.size) {i : Nat} (hi : i < N) (z1 z2 : Value) :
  Grid ((w.alloc (.cells (madeCells #[z1, z2] (M * 2)) T2)).setCell ⟨g, i, none⟩ (.slice (some ⟨w.heap.size, 0, none⟩) M M)) T1 T2 lo g (fun i' => if i' = i then w.heap.size else R i') N M
   (fun i' => decide (i' = i) || made i') (fun i' k' => if i' = i then (z1, z2) else V i' k') := by
 have hgl := h.glt
 have h0 := h
 obtain ⟨h1, h2, h3, h4⟩ := h.alloc (.cells (madeCells #[z1, z2] (M * 2)) T2)
 have hnew : (w.alloc (.cells (madeCells #[z1, z2] (M * 2)) T2)).rowIs w.heap.size T2 (M * 2) (pairCells fun _ => (z1, z2)) := by
  refine ⟨_, heap_alloc_new _ _, size_madeCells _ _, fun j hj => ?_⟩
  unfold pairCells
  rcases Nat.mod_two_eq_zero_or_one j with e | e <;> simp [madeCells, hj, e]
 refine ⟨(h1.set i _).congr fun j hj => ?_, h2, fun i' hi' hm' => ?_, fun a b ha hb hma hmb he => ?_⟩
 ·by_cases e : j = i <;> simp [e]
 ·by_cases e : i' = i
  ·subst e
   simp only [if_pos]
   exact ⟨hnew.setOther (by simp; omega) _, hlo, by omega⟩
  ·have hm'' : made i' = true := by simpa [e] using hm'
   obtain ⟨r1, r2, r3⟩ := h3 i' hi' hm''
   simp only [if_neg e]
   exact ⟨r1.setOther (by simpa using r3) _, r2, r3⟩
 ·by_cases ea : a = i <;> by_cases eb : b = i
  ·omega
  ·have hmb' : made b = true := by simpa [eb] using hmb
   have := h0.rlt hb hmb'
   simp [ea, eb] at he; omega
  ·have hma' : made a = true := by simpa [ea] using hma
   have := h0.rlt ha hma'
   simp [ea, eb] at he; omega
  ·simp only [if_neg ea, if_neg eb] at he
   exact h4 a b ha hb (by simpa [ea] using hma) (by simpa [eb] using hmb) he
end

theorem Grid.start (w : World) (T1 T2 : TypeId) (lo N M : Nat) (hlo : w.heap.size < lo) (R : Nat → Nat) (V : Nat → Nat → Value × Value) :
  Grid (w.alloc (.cells (madeCells #[.slice none 0 0] N) T1)) T1 T2 lo w.heap.size R N M (fun _ => false) V :=
 ⟨(World.rowIs_made w _ N T1).congr fun _ _ => rfl, hlo, fun _ _ h => by simp at h, fun _ _ _ _ h => by simp at h⟩

end Go.Proofs.YtkefgcleaalnnaaGreat
