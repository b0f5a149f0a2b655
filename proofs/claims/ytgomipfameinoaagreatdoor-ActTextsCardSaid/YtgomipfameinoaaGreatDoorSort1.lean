/- Go's sort of elements of one cell, by the kit's contract of it. -/
import Derived.Test.YtgomipfameinoaaGreatDoorSort
namespace Go.Proofs.YtgomipfameinoaaGreatDoor
set_option linter.unusedVariables false
set_option linter.unusedSimpArgs false
namespace Abs
open Go.Shelf Go.Sort Go.RowKit
variable {P : Program} {ρ : Ren}
theorem cmpLays1_of (hd : dm) {A : Type} {encA : A → V} {c : A → A → Int} {g : Nat} (hg : ∀ x y : A, PCs P g [.c (encA x), .c (encA y)] [] (.c (.int .i64 (c x y))) [])
    {F : Nat → Prop} {w : World} {n : Nat} [Inhabited (Fin n)] (f : Fin n → A) (enc : Fin n → Value) (henc : ∀ i, RT F w (enc i) (encA (f i))) {blk : Nat} (hF : ¬ F blk) (hbd : ∀ b, F b → b < w.heap.size) (htb : ∀ g ∈ globs, F g.1 ∧ ∃ cs t f, g.2 cs ∧ w.heap[g.1]? = some (.cells cs t f)) (size : Nat) :
    CmpLays1 P g #[] enc (fun i j => c (f i) (f j)) blk 0 size w := by
  intro m os dk hs x y
  have hheap : ∀ b, F b → (sortWorld enc w blk 0 m dk os).heap[b]? = w.heap[b]? := by
    intro b hb
    have hlt := hbd b hb
    have hne : b ≠ blk := fun e => hF (e ▸ hb)
    unfold sortWorld grow putRow mapBlock Sort.ahead
    simp only
    rw [Array.getElem?_append_left (by simpa using hlt), Array.getElem?_modify, if_neg (Ne.symm hne)]
  have hsz : w.heap.size ≤ (sortWorld enc w blk 0 m dk os).heap.size := by
    unfold sortWorld grow putRow mapBlock Sort.ahead
    simp
  have hrt : ∀ i, RT F (sortWorld enc w blk 0 m dk os) (enc i) (encA (f i)) := fun i => (henc i).up (fun _ h => h) hheap
  have hargs : P2 (RS F (fun _ => none) (sortWorld enc w blk 0 m dk os)) (#[enc x, enc y] ++ #[]).toList [.c (encA (f x)), .c (encA (f y))] := by
    simp only [Array.append_empty]
    exact P2.cons (.c (.tree (hrt x))) (P2.cons (.c (.tree (hrt y))) P2.nil)
  refine ((hg (f x) (f y)).calls F (fun _ => none) _ _ hargs ⟨fun l o h => by simp [nth] at h, fun l l' o o' b h => by simp [nth] at h, fun l o b h => by simp [nth] at h, fun b hb => Nat.lt_of_lt_of_le (hbd b hb) hsz, fun l c h => (by cases h), fun g hg => ⟨(htb g hg).1, by obtain ⟨h6, cs, t, fm, h8, h7⟩ := htb g hg; exact ⟨cs, t, fm, h8, (hheap _ h6).trans h7⟩⟩⟩ (fun l c h => by cases h)).mono ?_
  rintro e w' ⟨cv, F', φ', r, os', hQ, rfl, hr, hn⟩
  obtain ⟨rfl, rfl⟩ := hQ
  have hcv := hr.int_inv
  subst hcv
  refine ⟨rfl, ?_⟩
  exact grown_eq hn.os hn.tape hn.output (hn.drawn hd) hn.size fun b hb => by
    by_cases e : w'.heap[b]? = (sortWorld enc w blk 0 m dk os).heap[b]?
    · exact e
    · obtain ⟨l, o, h1, _⟩ := hn.keep b hb e
      simp [nth] at h1
end Abs
end Go.Proofs.YtgomipfameinoaaGreatDoor
