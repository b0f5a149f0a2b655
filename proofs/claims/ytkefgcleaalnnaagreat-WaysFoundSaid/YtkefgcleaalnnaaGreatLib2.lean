/- General lemmas: worlds under one name, blocks known whole. -/
import Derived.Test.YtkefgcleaalnnaaGreatLib
import Derived.Laws.NewBlocks
namespace Go.Proofs.YtkefgcleaalnnaaGreat
set_option linter.unusedVariables false
set_option linter.unusedSimpArgs false
open Go.RowKit

theorem hp_set_ne {w : World} {b c : Nat} {x : Obj} (h : w.heap[b]? = some x) (o : Nat) (v : Value) (hne : b ≠ c) : (w.setCell ⟨c, o, none⟩ v).heap[b]? = some x := (heap_setCell_other w ⟨c, o, none⟩ b v hne).trans h
theorem blk_up {w w' : World} {b : Nat} {x : Obj} (h : w.heap[b]? = some x) (hg : w.grownBy w' none) : w'.heap[b]? = some x := (hg.block b (lt_of_block h) (by simp)).trans h
theorem At.up {w w' : World} {a : Option Addr} {cs : List Value} (h : At w a cs) (hg : w.grownBy w' none) : At w' a cs := h.grown hg (by simp)
end Go.Proofs.YtkefgcleaalnnaaGreat
