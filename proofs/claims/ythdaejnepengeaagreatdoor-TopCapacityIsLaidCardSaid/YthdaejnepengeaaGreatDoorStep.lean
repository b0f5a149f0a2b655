/- A step law for append in a region that draws its order. -/
import Derived.Test.YthdaejnepengeaaGreatDoorRegion
namespace Go.Proofs.YthdaejnepengeaaGreatDoor
set_option linter.unusedVariables false
set_option linter.unusedSimpArgs false
open Go.RowKit

theorem step_push {P : Program} {ops : Array Oper} {Q : Exit → Act → World → Prop} {w : World} {o : Oper} {act : Act} {K : Act → World → Prop} {F : Prop} (hgd : o.guard = none) (s x : Operand) (t : TypeId)
    (ho : o.op = .call { callee := .builtin .append, args := #[s, x], argTypes := #[t, t] })
    (base : Nat) (e E : TypeId) (size bytes : Nat) (hE : Elem P t e size bytes) (a : Option Addr) (n c : Nat) (xs : List Value) (hown : w.ownsRow base e size (.slice a n c) n xs)
    (B m cx : Nat) (fr : Nat × Nat) (news : List Value) (hB : w.heap[B]? = some (.cells news.toArray E fr)) (hs : act.eval s = .slice a n c) (hx : act.eval x = .slice (some ⟨B, 0, none⟩) m cx) (hl : news.length = m * size) (h1 : ∀ u ∈ news, u.oneCell' = true)
    (h63 : (n + m) * bytes ≤ 140737488355328) (hm : n + m ≤ maxLen) (hbase : base ≤ w.heap.size)
    (h : ∀ a' c' w', w'.ownsRow base e size (.slice a' (n + m) c') (n + m) (xs ++ news) → w.grownBy w' (blk a) → (blk a' = blk a ∨ blk a' = some w.heap.size) → K (act.put o.dst (.slice a' (n + m) c')) w') :
    if Region.wanted o (yielded ops act.tmps) = true then Oper.wp P o act w K Q else F := by
  rw [if_pos (wanted_plain hgd _)]
  exact wp_push_at s x t ho base e E size bytes hE a n c xs hown B m cx fr news hB hs hx hl h1 h63 hm hbase h
end Go.Proofs.YthdaejnepengeaaGreatDoor
