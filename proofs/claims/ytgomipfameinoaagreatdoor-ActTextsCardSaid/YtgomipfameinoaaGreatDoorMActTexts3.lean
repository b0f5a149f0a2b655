/- Parts of the proof, in order. -/
import Derived.Test.YtgomipfameinoaaGreatDoorMActTexts2
import Derived.Test.YtgomipfameinoaaGreatDoorRegion

/- Walks: the events of a trace (package trace). -/
namespace Go.Proofs.YtgomipfameinoaaGreatDoor.Hd
set_option linter.unusedVariables false
set_option linter.unusedSimpArgs false
open Go.RowKit

/-- where the variables of Detected lie -/
structure DLay (W : World) (Br Ba Bb Bo base : Nat) (aF : Option Addr) : Prop where
  r : W.heap.size ≤ Br ∧ Br < base
  a : W.heap.size ≤ Ba ∧ Ba < base
  b : W.heap.size ≤ Bb ∧ Bb < base
  o : W.heap.size ≤ Bo ∧ Bo < base
  ra : Br ≠ Ba ∧ Br ≠ Bb ∧ Br ≠ Bo ∧ Ba ≠ Bb ∧ Ba ≠ Bo ∧ Bb ≠ Bo
  f : ∀ p, aF = some p → p.block < base ∧ p.block ≠ Bb ∧ p.block ≠ Bo

/-- what they hold -/
structure DSt (W : World) (Br Ba Bb Bo base : Nat) (aF : Option Addr) (cF : Nat) (F : List (Int × Int)) (st wd ls nm dn : Int) (evs : List (Int × Int)) (best : Int) (w : World) : Prop where
  r : w.heap[Br]? = some (.cells #[.int .i64 st, .int .i64 wd, .int .i64 ls, .int .i64 nm, .int .i64 dn] 128 (0, 0))
  a : w.heap[Ba]? = some (.cells #[.slice aF F.length cF] 198 (0, 0))
  b : w.heap[Bb]? = some (.cells #[.int .i64 best] 3 (0, 0))
  o : ∃ ao co, w.heap[Bo]? = some (.cells #[.slice ao evs.length co] 26 (0, 0)) ∧ w.ownsRow base 38 2 (.slice ao evs.length co) evs.length (prs evs)
  at_ : At w aF (prs F)
  g : W.grownBy w none
  sz : base ≤ w.heap.size

theorem DSt.quiet {W : World} {Br Ba Bb Bo base : Nat} {aF : Option Addr} {cF : Nat} {F : List (Int × Int)} {st wd ls nm dn : Int} {evs : List (Int × Int)} {best : Int} {w w' : World}
    (h : DSt W Br Ba Bb Bo base aF cF F st wd ls nm dn evs best w) (hg : w.grownBy w' none) : DSt W Br Ba Bb Bo base aF cF F st wd ls nm dn evs best w' := by
  obtain ⟨ao, co, h1, h2⟩ := h.o
  exact ⟨blk_apart h.r hg (by simp), blk_apart h.a hg (by simp), blk_apart h.b hg (by simp), ⟨ao, co, blk_apart h1 hg (by simp), own_kept h2 hg (by simp)⟩, h.at_.grown hg (by simp), h.g.trans hg, Nat.le_trans h.sz hg.size⟩

theorem DSt.best {W : World} {Br Ba Bb Bo base : Nat} {aF : Option Addr} {cF : Nat} {F : List (Int × Int)} {st wd ls nm dn : Int} {evs : List (Int × Int)} {best : Int} {w : World}
    (h : DSt W Br Ba Bb Bo base aF cF F st wd ls nm dn evs best w) (hl : DLay W Br Ba Bb Bo base aF) (x : Int) : DSt W Br Ba Bb Bo base aF cF F st wd ls nm dn evs x (w.setCell ⟨Bb, 0, none⟩ (.int .i64 x)) := by
  obtain ⟨ao, co, h1, h2⟩ := h.o
  obtain ⟨n1, n2, n3, n4, n5, n6⟩ := hl.ra
  have hg : w.grownBy (w.setCell ⟨Bb, 0, none⟩ (.int .i64 x)) (some Bb) := ⟨rfl, rfl, rfl, by simp, fun j _ hj => heap_setCell_other w ⟨Bb, 0, none⟩ j _ (fun e => hj (by simp [e]))⟩
  refine ⟨(hg.block _ (lt_of_block h.r) (by simpa using n2)).trans h.r, (hg.block _ (lt_of_block h.a) (by simpa using n4)).trans h.a, one_setCell h.b,
    ⟨ao, co, (hg.block _ (lt_of_block h1) (by simpa using Ne.symm n6)).trans h1, own_kept h2 hg (fun b hb => by cases hb; exact .inl hl.b.2)⟩, h.at_.grown hg (fun p hp => by simpa using (hl.f p hp).2.1), grown_setCell h.g hl.b.1 _, by simpa using h.sz⟩

end Go.Proofs.YtgomipfameinoaaGreatDoor.Hd

/- Plain facts on fractions in lowest terms; and the walk of Detected. -/
namespace Go.Proofs.YtgomipfameinoaaGreatDoor.Hd
set_option linter.unusedVariables false
set_option linter.unusedSimpArgs false
open Go.RowKit

end Go.Proofs.YtgomipfameinoaaGreatDoor.Hd

/- Walks: what is wrong with events, in package trace and in the reference. -/
namespace Go.Proofs.YtgomipfameinoaaGreatDoor.Hd
set_option linter.unusedVariables false
set_option linter.unusedSimpArgs false
open Go.RowKit

end Go.Proofs.YtgomipfameinoaaGreatDoor.Hd
