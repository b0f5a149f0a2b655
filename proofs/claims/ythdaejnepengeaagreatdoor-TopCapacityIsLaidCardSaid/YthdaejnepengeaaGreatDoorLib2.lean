/- General lemmas: worlds under one name, blocks known whole. -/
import Derived.Test.YthdaejnepengeaaGreatDoorLib
import Derived.Laws.NewBlocks
namespace Go.Proofs.YthdaejnepengeaaGreatDoor
set_option linter.unusedVariables false
set_option linter.unusedSimpArgs false
open Go.RowKit

theorem hp_alloc (w : World) (o : Obj) : (w.alloc o).heap = w.heap.push o := rfl
theorem hp_drewN (w : World) (n : Nat) : (w.drewN n).heap = w.heap := rfl
theorem hp_drew (w : World) : w.drew.heap = w.heap := rfl

/-- the world under one name, by what is known of it -/
theorem wp_gen {P : Program} {c : Code} {Q : Exit → Act → World → Prop} {a : Act} {w : World} (F : World → Prop) (hF : F w) (h : ∀ W, F W → Code.wp P c Q a W) : Code.wp P c Q a w := h w hF
theorem bp_gen {P : Program} {f : Func} {R : Ending → World → Prop} {e : Exit} {a : Act} {w : World} (F : World → Prop) (hF : F w) (h : ∀ W, F W → bodyPost P f R e a W) : bodyPost P f R e a w := h w hF
theorem calls_gen {P : Program} {f : FuncId} {args : Array Value} {R : Ending → World → Prop} {w : World} (F : World → Prop) (hF : F w) (h : ∀ W, F W → Calls P f args W R) : Calls P f args w R := h w hF

theorem hp_set {w : World} {b : Nat} {cs : Array Value} {T : TypeId} (h : w.heap[b]? = some (.cells cs T (0, 0))) (o : Nat) (v : Value) : (w.setCell ⟨b, o, none⟩ v).heap[b]? = some (.cells (cs.setIfInBounds o v) T (0, 0)) := heap_setCell_same w b o cs T v h
theorem hp_set_ne {w : World} {b c : Nat} {x : Obj} (h : w.heap[b]? = some x) (o : Nat) (v : Value) (hne : b ≠ c) : (w.setCell ⟨c, o, none⟩ v).heap[b]? = some x := (heap_setCell_other w ⟨c, o, none⟩ b v hne).trans h
theorem blk_up {w w' : World} {b : Nat} {x : Obj} (h : w.heap[b]? = some x) (hg : w.grownBy w' none) : w'.heap[b]? = some x := (hg.block b (lt_of_block h) (by simp)).trans h
theorem At.up {w w' : World} {a : Option Addr} {cs : List Value} (h : At w a cs) (hg : w.grownBy w' none) : At w' a cs := h.grown hg (by simp)
theorem cell_up {w w' : World} {b o : Nat} {v : Value} (h : w.cell? ⟨b, o, none⟩ = some v) (hg : w.grownBy w' none) : w'.cell? ⟨b, o, none⟩ = some v := hg.cell h (by simp)
theorem cell_blk {w : World} {b : Nat} {cs : Array Value} {T : TypeId} (h : w.heap[b]? = some (.cells cs T (0, 0))) (o : Nat) : w.cell? ⟨b, o, none⟩ = cs[o]? := by simp [World.cell?, h]
theorem free_blk {w : World} {b : Nat} {cs : Array Value} {T : TypeId} (h : w.heap[b]? = some (.cells cs T (0, 0))) (o : Nat) : w.frozen? ⟨b, o, none⟩ = false := by simp [World.frozen?, h]
/-- a write to a block that the call has made -/
theorem grown_set {w w' : World} {x : Option Nat} (h : w.grownBy w' x) {b : Nat} (hb : w.heap.size ≤ b) (o : Nat) (v : Value) : w.grownBy (w'.setCell ⟨b, o, none⟩ v) x := grown_setCell h hb v
theorem set_past {w : World} {b : Nat} (hb : b < w.heap.size) (o : Nat) (v : Value) (x : Obj) : (w.setCell ⟨b, o, none⟩ v).alloc x = (w.alloc x).setCell ⟨b, o, none⟩ v := (World.setCell_alloc_past x b o v hb).symm
/-- wpList_push, the place of the new cells under a letter -/
theorem wpList_push2 {P : Program} {w : World} {ops : Array Oper} {rest : List Oper} {o : Oper} {act : Act} {Q : Exit → Act → World → Prop} (hgd : o.guard = none) (s x : Operand) (t : TypeId)
    (ho : o.op = .call { callee := .builtin .append, args := #[s, x], argTypes := #[t, t] })
    (base : Nat) (e E : TypeId) (size bytes : Nat) (hE : Elem P t e size bytes) (a : Option Addr) (n c : Nat) (xs : List Value) (hown : w.ownsRow base e size (.slice a n c) n xs) (B : Nat) (hB : w.heap.size = B)
    (m cx : Nat) (news : List Value) (hs : act.eval s = .slice a n c) (hx : act.eval x = .slice (some ⟨B, 0, none⟩) m cx) (hl : news.length = m * size) (h1 : ∀ u ∈ news, u.oneCell' = true)
    (h63 : (n + m) * bytes ≤ 140737488355328) (hm : n + m ≤ maxLen) (hbase : base ≤ B)
    (h : ∀ a' c' w', w'.ownsRow base e size (.slice a' (n + m) c') (n + m) (xs ++ news) → w.grownBy w' (blk a) → (blk a' = blk a ∨ blk a' = some (B + 1)) → wpList P ops Q rest (act.put o.dst (.slice a' (n + m) c')) w') :
    wpList P ops Q (o :: rest) act (w.alloc (.cells news.toArray E)) := by
  subst hB
  exact wpList_push hgd s x t ho base e E size bytes hE a n c xs hown m cx news hs hx hl h1 h63 hm hbase h
end Go.Proofs.YthdaejnepengeaaGreatDoor
