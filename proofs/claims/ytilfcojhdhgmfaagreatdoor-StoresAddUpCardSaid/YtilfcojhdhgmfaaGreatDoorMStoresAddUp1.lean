/- Parts of the proof, in order. -/
import Derived.Deep.RegionHeld3
import Derived.Laws.Bits64b
import Derived.Lib.Mul64
import Derived.StillTailTactics
import Derived.Test.YtilfcojhdhgmfaaGreatDoorLib
import Derived.Test.YtilfcojhdhgmfaaGreatDoorRegion
import Derived.Test.YtilfcojhdhgmfaaGreatDoorRows
import Derived.Test.YtilfcojhdhgmfaaGreatDoorStep

namespace Go.Proofs.YtilfcojhdhgmfaaGreatDoor.Hd
set_option linter.unusedVariables false
set_option linter.unusedSimpArgs false

section
variable (R : List Int) (T : Int)
end
end Go.Proofs.YtilfcojhdhgmfaaGreatDoor.Hd

namespace Go.Proofs.YtilfcojhdhgmfaaGreatDoor.Hd
set_option linter.unusedVariables false
set_option linter.unusedSimpArgs false
open Go.RowKit

def Str (w : World) (s : Nat) (K : Nat) : Prop :=
  ∃ (aL : Option Addr) (cap : Nat) (L : List Int) (k : Int), w.heap[s]? = some (.cells #[.slice aL L.length cap, .int .i64 k] 25 (0, 0)) ∧
    L.length ≤ maxLen ∧ At w aL (ints L) ∧ (L ≠ [] → ∀ a, aL = some a → a.block < s) ∧ 0 ≤ k ∧ k ≤ K

theorem _root_.Go.Proofs.YtilfcojhdhgmfaaGreatDoor.At.grownE {w w' : World} {a : Option Addr} {L : List Int} {x : Option Nat} (h : At w a (ints L)) (hg : w.grownBy w' x) (hx : L ≠ [] → ∀ p, a = some p → some p.block ≠ x) : At w' a (ints L) := by
  by_cases hL : L = []
  · exact .inl (by simp [hL, ints])
  · exact h.grown hg (hx hL)

theorem Str.drew {w : World} {s K : Nat} (h : Str w s K) : Str w.drew s K := h
theorem Str.drewN {w : World} {s K : Nat} (h : Str w s K) (n : Nat) : Str (w.drewN n) s K := h

theorem Str.grown {w w' : World} {s K : Nat} {x : Option Nat} (h : Str w s K) (hg : w.grownBy w' x) (hx : ∀ b, x = some b → s < b) : Str w' s K := by
  obtain ⟨aL, cap, L, k, hb, hL, hat, hne, hk0, hk1⟩ := h
  exact ⟨aL, cap, L, k, (hg.block s (lt_of_block hb) (fun e => by have := hx s e.symm; omega)).trans hb, hL, hat.grownE hg (fun hl p hp e => by have := hx _ e.symm; have := hne hl p hp; omega), hne, hk0, hk1⟩
theorem Str.quiet {w w' : World} {s K : Nat} (h : Str w s K) (hg : w.grownBy w' none) : Str w' s K := h.grown hg (by simp)
theorem Str.alloc {w : World} {s K : Nat} (h : Str w s K) (o : Obj) : Str (w.alloc o) s K := h.quiet (World.grownBy_alloc w o none)
theorem Str.mono {w : World} {s K K' : Nat} (h : Str w s K) (hk : K ≤ K') : Str w s K' := by
  obtain ⟨aL, cap, L, k, hb, hL, hat, hne, hk0, hk1⟩ := h
  exact ⟨aL, cap, L, k, hb, hL, hat, hne, hk0, by omega⟩
theorem Str.lt {w : World} {s K : Nat} (h : Str w s K) : s < w.heap.size := by
  obtain ⟨aL, cap, L, k, hb, _⟩ := h; exact lt_of_block hb

theorem Str.setCell {w : World} {s K : Nat} (h : Str w s K) {p : Addr} (hp : s < p.block) (v : Value) : Str (w.setCell p v) s K :=
  h.grown (x := some p.block) ⟨rfl, rfl, rfl, by simp, fun j _ hj => heap_setCell_other w p j _ (fun e => hj (by rw [e]))⟩ (by intro b hb; cases hb; exact hp)

end Go.Proofs.YtilfcojhdhgmfaaGreatDoor.Hd

namespace Go.Proofs.YtilfcojhdhgmfaaGreatDoor.Hd
set_option linter.unusedVariables false
set_option linter.unusedSimpArgs false
open Go.RowKit

end Go.Proofs.YtilfcojhdhgmfaaGreatDoor.Hd

namespace Go.Proofs.YtilfcojhdhgmfaaGreatDoor.Hd
set_option linter.unusedVariables false
set_option linter.unusedSimpArgs false
open Go.RowKit

def firstErr : List Int → Int
  | [] => 0
  | x :: r => if x = 0 then firstErr r else x
def sgn (x : Int) : Int := if x < 0 then -1 else if 0 < x then 1 else 0
namespace M64
end M64

end Go.Proofs.YtilfcojhdhgmfaaGreatDoor.Hd

namespace Go.Proofs.YtilfcojhdhgmfaaGreatDoor.Hd
set_option linter.unusedVariables false
set_option linter.unusedSimpArgs false
open Go.RowKit

end Go.Proofs.YtilfcojhdhgmfaaGreatDoor.Hd

namespace Go.Proofs.YtilfcojhdhgmfaaGreatDoor.Hd
set_option linter.unusedVariables false
set_option linter.unusedSimpArgs false
open Go.RowKit

end Go.Proofs.YtilfcojhdhgmfaaGreatDoor.Hd

namespace Go.Proofs.YtilfcojhdhgmfaaGreatDoor.Hd
set_option linter.unusedVariables false
set_option linter.unusedSimpArgs false
open Go.RowKit

end Go.Proofs.YtilfcojhdhgmfaaGreatDoor.Hd

namespace Go.Proofs.YtilfcojhdhgmfaaGreatDoor.Hd
set_option linter.unusedVariables false
set_option linter.unusedSimpArgs false
open Go.RowKit

def prs (l : List (Int × Int)) : List Value := l.flatMap fun q => [.int .i64 q.1, .int .i64 q.2]
end Go.Proofs.YtilfcojhdhgmfaaGreatDoor.Hd

namespace Go.Proofs.YtilfcojhdhgmfaaGreatDoor.Hd
set_option linter.unusedVariables false
set_option linter.unusedSimpArgs false
open Go.RowKit

end Go.Proofs.YtilfcojhdhgmfaaGreatDoor.Hd

namespace Go.Proofs.YtilfcojhdhgmfaaGreatDoor.Hd
set_option linter.unusedVariables false
set_option linter.unusedSimpArgs false
open Go.RowKit

structure DLay (W : World) (Br Ba Bb Bo base : Nat) (aF : Option Addr) : Prop where
  r : W.heap.size ≤ Br ∧ Br < base
  a : W.heap.size ≤ Ba ∧ Ba < base
  b : W.heap.size ≤ Bb ∧ Bb < base
  o : W.heap.size ≤ Bo ∧ Bo < base
  ra : Br ≠ Ba ∧ Br ≠ Bb ∧ Br ≠ Bo ∧ Ba ≠ Bb ∧ Ba ≠ Bo ∧ Bb ≠ Bo
  f : ∀ p, aF = some p → p.block < base ∧ p.block ≠ Bb ∧ p.block ≠ Bo

structure DSt (W : World) (Br Ba Bb Bo base : Nat) (aF : Option Addr) (cF : Nat) (F : List (Int × Int)) (st wd ls nm dn : Int) (evs : List (Int × Int)) (best : Int) (w : World) : Prop where
  r : w.heap[Br]? = some (.cells #[.int .i64 st, .int .i64 wd, .int .i64 ls, .int .i64 nm, .int .i64 dn] 131 (0, 0))
  a : w.heap[Ba]? = some (.cells #[.slice aF F.length cF] 198 (0, 0))
  b : w.heap[Bb]? = some (.cells #[.int .i64 best] 3 (0, 0))
  o : ∃ ao co, w.heap[Bo]? = some (.cells #[.slice ao evs.length co] 125 (0, 0)) ∧ w.ownsRow base 201 2 (.slice ao evs.length co) evs.length (prs evs)
  at_ : At w aF (prs F)
  g : W.grownBy w none
  sz : base ≤ w.heap.size

theorem DSt.quiet {W : World} {Br Ba Bb Bo base : Nat} {aF : Option Addr} {cF : Nat} {F : List (Int × Int)} {st wd ls nm dn : Int} {evs : List (Int × Int)} {best : Int} {w w' : World}
    (h : DSt W Br Ba Bb Bo base aF cF F st wd ls nm dn evs best w) (hg : w.grownBy w' none) : DSt W Br Ba Bb Bo base aF cF F st wd ls nm dn evs best w' := by
  obtain ⟨ao, co, h1, h2⟩ := h.o
  exact ⟨blk_apart h.r hg (by simp), blk_apart h.a hg (by simp), blk_apart h.b hg (by simp), ⟨ao, co, blk_apart h1 hg (by simp), own_kept h2 hg (by simp)⟩, h.at_.grown hg (by simp), h.g.trans hg, Nat.le_trans h.sz hg.size⟩

theorem DSt.best {W : World} {Br Ba Bb Bo base : Nat} {aF : Option Addr} {cF : Nat} {F : List (Int × Int)} {st wd ls nm dn : Int} {evs : List (Int × Int)} {best : Int} {w : World}
    (h : DSt W Br Ba Bb Bo base aF cF F st wd ls nm dn evs best w) (hl : DLay W Br Ba Bb Bo base aF) (x : Int) : DSt W Br Ba Bb Bo base aF cF F st wd ls nm dn evs x (w.setCell ⟨Bb, 0, none⟩ (.int .i64 x)) := by
  obtain ⟨ao, co, h1, h2⟩ := h.o
  obtain ⟨n1, n2, n3, n4, n5, n6⟩ := hl.ra
  have hg : w.grownBy (w.setCell ⟨Bb, 0, none⟩ (.int .i64 x)) (some Bb) := ⟨rfl, rfl, rfl, by simp, fun j _ hj => heap_setCell_other w ⟨Bb, 0, none⟩ j _ (fun e => hj (by simp [e]))⟩
  refine ⟨(hg.block _ (lt_of_block h.r) (by simpa using n2)).trans h.r, (hg.block _ (lt_of_block h.a) (by simpa using n4)).trans h.a, one_setCell h.b,
    ⟨ao, co, (hg.block _ (lt_of_block h1) (by simpa using Ne.symm n6)).trans h1, own_kept h2 hg (fun b hb => by cases hb; exact .inl hl.b.2)⟩, h.at_.grown hg (fun p hp => by simpa using (hl.f p hp).2.1), grown_setCell h.g hl.b.1 _, by simpa using h.sz⟩

end Go.Proofs.YtilfcojhdhgmfaaGreatDoor.Hd

namespace Go.Proofs.YtilfcojhdhgmfaaGreatDoor.Hd
set_option linter.unusedVariables false
set_option linter.unusedSimpArgs false
open Go.RowKit

end Go.Proofs.YtilfcojhdhgmfaaGreatDoor.Hd

namespace Go.Proofs.YtilfcojhdhgmfaaGreatDoor.Hd
set_option linter.unusedVariables false
set_option linter.unusedSimpArgs false
open Go.RowKit

end Go.Proofs.YtilfcojhdhgmfaaGreatDoor.Hd

namespace Go.Proofs.YtilfcojhdhgmfaaGreatDoor.Hd
set_option linter.unusedVariables false
set_option linter.unusedSimpArgs false
open Go.RowKit

structure RSt (Br Bx Bu : Nat) (aR : Option Addr) (cR : Nat) (R : List Int) (st wd ls nm dn u : Int) (w : World) : Prop where
  r : w.heap[Br]? = some (.cells #[.int .i64 st, .int .i64 wd, .int .i64 ls, .int .i64 nm, .int .i64 dn] 131 (0, 0))
  x : w.heap[Bx]? = some (.cells #[.slice aR R.length cR] 22 (0, 0))
  u : w.heap[Bu]? = some (.cells #[.int .i64 u] 3 (0, 0))
  at_ : At w aR (ints R)
theorem RSt.kept {Br Bx Bu : Nat} {aR : Option Addr} {cR : Nat} {R : List Int} {st wd ls nm dn u : Int} {w w' : World} {row : Option Nat} {B : Nat} (h : RSt Br Bx Bu aR cR R st wd ls nm dn u w) (hg : w.grownBy w' row)
    (hl : Br < B ∧ Bx < B ∧ Bu < B ∧ ∀ p, aR = some p → p.block < B) (hr : ∀ b, row = some b → B ≤ b) : RSt Br Bx Bu aR cR R st wd ls nm dn u w' :=
  ⟨blk_apart h.r hg (fun k hk => by have := hr k hk; omega), blk_apart h.x hg (fun k hk => by have := hr k hk; omega), blk_apart h.u hg (fun k hk => by have := hr k hk; omega), h.at_.apart hg hl.2.2.2 hr⟩
theorem RSt.drewN {Br Bx Bu : Nat} {aR : Option Addr} {cR : Nat} {R : List Int} {st wd ls nm dn u : Int} {w : World} (h : RSt Br Bx Bu aR cR R st wd ls nm dn u w) (n : Nat) : RSt Br Bx Bu aR cR R st wd ls nm dn u (w.drewN n) := ⟨h.r, h.x, h.u, h.at_⟩

end Go.Proofs.YtilfcojhdhgmfaaGreatDoor.Hd

namespace Go.Proofs.YtilfcojhdhgmfaaGreatDoor.Hd
set_option linter.unusedVariables false
set_option linter.unusedSimpArgs false
open Go.RowKit

end Go.Proofs.YtilfcojhdhgmfaaGreatDoor.Hd

namespace Go.Proofs.YtilfcojhdhgmfaaGreatDoor.Hd
set_option linter.unusedVariables false
set_option linter.unusedSimpArgs false
open Go.RowKit

end Go.Proofs.YtilfcojhdhgmfaaGreatDoor.Hd

