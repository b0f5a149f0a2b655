/- What a call has made anew, as an object. -/
import Derived.Test.YtilfcojhdhgmfaaGreatDoorAbsW
namespace Go.Proofs.YtilfcojhdhgmfaaGreatDoor
set_option linter.unusedVariables false
set_option linter.unusedSimpArgs false
open Abs

theorem nx_made {F : Nat → Prop} {φ : Nat → Option Value} {w w' : World} {h : Nat → Option Ob} {N : Nat → Prop} {id : Nat} (hN : N id) (hid : φ id = none) (c : Value) (hc1 : c.oneCell' = true) (ob : Ob) (h1 : w'.os = w.os) (h2 : w'.tape = w.tape) (h3 : w'.output = w.output) (h4 : dm → w.drawn ≤ w'.drawn)
    (h5 : w.heap.size ≤ w'.heap.size) (h6 : ∀ b, b < w.heap.size → w'.heap[b]? = w.heap[b]?) (hb' : ∀ b, hb c = some b → w.heap.size ≤ b) (ho : RO F (addφ φ id c) w' id ob) (hi : ∀ b, insB ob b → False := by exact fun _ h => h) : Nx F φ w h N [(id, ob)] F (addφ φ id c) w' := by
  have hg : ∀ l x, chGet [(id, ob)] l = some x → l = id ∧ x = ob := by
    intro l x hx
    simp only [chGet] at hx
    split at hx
    · rename_i e; subst e; cases hx; exact ⟨rfl, rfl⟩
    · cases hx
  refine ⟨fun _ h => h, ?_, ?_, h1, h2, h3, h4, h5, ?_, fun b h => .inl h, ?_, ?_, ?_⟩
  · intro l c' hl
    unfold addφ
    rw [if_neg]; exact hl
    intro e; subst e; rw [hid] at hl; cases hl
  · intro l c' hl
    unfold addφ at hl
    split at hl
    · rename_i e; subst e; cases hl; exact .inr ⟨hN, hc1⟩
    · exact .inl hl
  · intro b hb1 hne
    exact (hne (h6 b hb1)).elim
  · intro l x hx
    obtain ⟨rfl, rfl⟩ := hg l x hx
    exact ho
  · intro l x b hx _ hbk
    obtain ⟨rfl, rfl⟩ := hg l x hx
    refine .inl ?_
    replace hbk := hbk.base (hi b); simp only [blkOf, addφ, if_true, Option.bind_some] at hbk
    exact hb' b hbk
  · intro l l' x x' b hx hx' _ _ _ _
    rw [(hg l x hx).1, (hg l' x' hx').1]
end Go.Proofs.YtilfcojhdhgmfaaGreatDoor
