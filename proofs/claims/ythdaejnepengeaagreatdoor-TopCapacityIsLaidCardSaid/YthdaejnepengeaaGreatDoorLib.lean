/- General lemmas: no program in sight. -/
import Derived.WalkKit
import Derived.WalkSpells
import Derived.WalkLawsBesides
import Derived.Deep.DeepFit
import Derived.Handy
import Derived.Lib.Hide
import Derived.Deep.QuietTactic
import Derived.BigQuiet
import Derived.Maps.Range
import Derived.Maps.AppendAt
namespace Go.Proofs.YthdaejnepengeaaGreatDoor
set_option linter.unusedVariables false
set_option linter.unusedSimpArgs false
open Go.RowKit

/-- the cells from address a on hold these values -/
def At (w : World) (a : Option Addr) (cs : List Value) : Prop :=
  cs = [] ∨ ∃ b off, a = some ⟨b, off, none⟩ ∧ ∀ j, j < cs.length → w.cell? ⟨b, off + j, none⟩ = cs[j]?

def ints (xs : List Int) : List Value := xs.map (Value.int .i64)

theorem length_ints (xs : List Int) : (ints xs).length = xs.length := by simp [ints]
theorem ints_get (xs : List Int) (k : Nat) (h : k < xs.length) : (ints xs)[k]? = some (.int .i64 (xs.getD k 0)) := by
  simp [ints, h]

theorem ret_int {k : IntKind} {a b : Int} (h : a = b) : Ending.returned (.int k a) = .returned (.int k b) := by rw [h]
theorem ret_bool {a b : Bool} (h : a = b) : Ending.returned (.bool a) = .returned (.bool b) := by rw [h]

/-- an element of a row of numbers -/
theorem At.int {w : World} {a : Option Addr} {xs : List Int} (h : At w a (ints xs)) {k : Nat} (hk : k < xs.length) :
    ∃ b off, a = some ⟨b, off, none⟩ ∧ w.cell? ⟨b, off + k, none⟩ = some (.int .i64 (xs.getD k 0)) := by
  rcases h with h | ⟨b, off, ha, hc⟩
  · have := congrArg List.length h; simp [ints] at this; subst this; simp at hk
  · exact ⟨b, off, ha, by rw [hc k (by rw [length_ints]; exact hk), ints_get xs k hk]⟩

theorem At.grown {w w' : World} {a : Option Addr} {cs : List Value} {x : Option Nat} (h : At w a cs) (hg : w.grownBy w' x) (hx : ∀ p, a = some p → some p.block ≠ x) : At w' a cs := by
  rcases h with h | ⟨b, off, ha, hc⟩
  · exact .inl h
  · refine .inr ⟨b, off, ha, fun j hj => ?_⟩
    have h1 := hc j hj
    rw [List.getElem?_eq_getElem hj] at h1 ⊢
    exact hg.cell h1 (show some b ≠ x from hx _ ha)

theorem grown_drewN {w w' : World} {x : Option Nat} (h : w.grownBy w' x) (n : Nat) : w.grownBy (w'.drewN n) x := ⟨h.os, h.tape, h.output, h.size, h.block⟩

theorem At.alloc {w : World} {a : Option Addr} {cs : List Value} (h : At w a cs) (o : Obj) : At (w.alloc o) a cs := h.grown (x := none) (World.grownBy_alloc w o none) (by simp)
theorem At.drewN {w : World} {a : Option Addr} {cs : List Value} (h : At w a cs) (n : Nat) : At (w.drewN n) a cs := h
theorem At.drew {w : World} {a : Option Addr} {cs : List Value} (h : At w a cs) : At w.drew a cs := h

theorem At.sub {w : World} {b off : Nat} {cs : List Value} (h : At w (some ⟨b, off, none⟩) cs) (lo m : Nat) : At w (some ⟨b, off + lo, none⟩) ((cs.drop lo).take m) := by
  rcases h with rfl | ⟨b', off', ha, hc⟩
  · exact .inl (by simp)
  · cases ha
    refine .inr ⟨b, off + lo, rfl, fun j hj => ?_⟩
    simp only [List.length_take, List.length_drop] at hj
    rw [Nat.add_assoc, hc (lo + j) (by omega), List.getElem?_take, if_pos (by omega), List.getElem?_drop]

theorem At.addr {w : World} {a : Option Addr} {cs : List Value} (h : At w a cs) (hp : 0 < cs.length) : ∃ b off, a = some ⟨b, off, none⟩ := by
  rcases h with rfl | ⟨b, off, ha, _⟩
  · simp at hp
  · exact ⟨b, off, ha⟩

/-- a row that has just been made -/
theorem At.lit (w : World) (cs : Array Value) (E : TypeId) : At (w.alloc (.cells cs E)) (some ⟨w.heap.size, 0, none⟩) cs.toList := by
  refine .inr ⟨_, 0, rfl, fun j hj => ?_⟩
  have h := heap_alloc_new w (.cells cs E)
  simp only [World.cell?, h]
  simp

theorem take_snocD (xs : List Int) (k : Nat) (h : k < xs.length) : xs.take (k + 1) = xs.take k ++ [xs.getD k 0] := by
  rw [List.take_succ_eq_append_getElem h]; simp [h]

/-! blocks that are known whole -/
theorem cells1 {w : World} {b : Nat} {T : TypeId} {a0 : Value} (h : w.heap[b]? = some (.cells #[a0] T (0, 0))) : w.cell? ⟨b, 0, none⟩ = some a0 := by simp [World.cell?, h]
theorem free1 {w : World} {b : Nat} {T : TypeId} {a0 : Value} (h : w.heap[b]? = some (.cells #[a0] T (0, 0))) : w.frozen? ⟨b, 0, none⟩ = false := by simp [World.frozen?, h]
theorem cells2 {w : World} {b : Nat} {T : TypeId} {a0 a1 : Value} (h : w.heap[b]? = some (.cells #[a0, a1] T (0, 0))) : w.cell? ⟨b, 0, none⟩ = some a0 ∧ w.cell? ⟨b, 1, none⟩ = some a1 := by simp [World.cell?, h]
theorem free2 {w : World} {b : Nat} {T : TypeId} {a0 a1 : Value} (h : w.heap[b]? = some (.cells #[a0, a1] T (0, 0))) : w.frozen? ⟨b, 0, none⟩ = false ∧ w.frozen? ⟨b, 1, none⟩ = false := by simp [World.frozen?, h]
theorem cells3 {w : World} {b : Nat} {T : TypeId} {a0 a1 a2 : Value} (h : w.heap[b]? = some (.cells #[a0, a1, a2] T (0, 0))) : w.cell? ⟨b, 0, none⟩ = some a0 ∧ w.cell? ⟨b, 1, none⟩ = some a1 ∧ w.cell? ⟨b, 2, none⟩ = some a2 := by simp [World.cell?, h]
theorem free3 {w : World} {b : Nat} {T : TypeId} {a0 a1 a2 : Value} (h : w.heap[b]? = some (.cells #[a0, a1, a2] T (0, 0))) : w.frozen? ⟨b, 0, none⟩ = false ∧ w.frozen? ⟨b, 1, none⟩ = false ∧ w.frozen? ⟨b, 2, none⟩ = false := by simp [World.frozen?, h]
theorem cells4 {w : World} {b : Nat} {T : TypeId} {a0 a1 a2 a3 : Value} (h : w.heap[b]? = some (.cells #[a0, a1, a2, a3] T (0, 0))) : w.cell? ⟨b, 0, none⟩ = some a0 ∧ w.cell? ⟨b, 1, none⟩ = some a1 ∧ w.cell? ⟨b, 2, none⟩ = some a2 ∧ w.cell? ⟨b, 3, none⟩ = some a3 := by simp [World.cell?, h]
theorem free4 {w : World} {b : Nat} {T : TypeId} {a0 a1 a2 a3 : Value} (h : w.heap[b]? = some (.cells #[a0, a1, a2, a3] T (0, 0))) : w.frozen? ⟨b, 0, none⟩ = false ∧ w.frozen? ⟨b, 1, none⟩ = false ∧ w.frozen? ⟨b, 2, none⟩ = false ∧ w.frozen? ⟨b, 3, none⟩ = false := by simp [World.frozen?, h]
theorem cells5 {w : World} {b : Nat} {T : TypeId} {a0 a1 a2 a3 a4 : Value} (h : w.heap[b]? = some (.cells #[a0, a1, a2, a3, a4] T (0, 0))) : w.cell? ⟨b, 0, none⟩ = some a0 ∧ w.cell? ⟨b, 1, none⟩ = some a1 ∧ w.cell? ⟨b, 2, none⟩ = some a2 ∧ w.cell? ⟨b, 3, none⟩ = some a3 ∧ w.cell? ⟨b, 4, none⟩ = some a4 := by simp [World.cell?, h]
theorem free5 {w : World} {b : Nat} {T : TypeId} {a0 a1 a2 a3 a4 : Value} (h : w.heap[b]? = some (.cells #[a0, a1, a2, a3, a4] T (0, 0))) : w.frozen? ⟨b, 0, none⟩ = false ∧ w.frozen? ⟨b, 1, none⟩ = false ∧ w.frozen? ⟨b, 2, none⟩ = false ∧ w.frozen? ⟨b, 3, none⟩ = false ∧ w.frozen? ⟨b, 4, none⟩ = false := by simp [World.frozen?, h]
theorem cells6 {w : World} {b : Nat} {T : TypeId} {a0 a1 a2 a3 a4 a5 : Value} (h : w.heap[b]? = some (.cells #[a0, a1, a2, a3, a4, a5] T (0, 0))) : w.cell? ⟨b, 0, none⟩ = some a0 ∧ w.cell? ⟨b, 1, none⟩ = some a1 ∧ w.cell? ⟨b, 2, none⟩ = some a2 ∧ w.cell? ⟨b, 3, none⟩ = some a3 ∧ w.cell? ⟨b, 4, none⟩ = some a4 ∧ w.cell? ⟨b, 5, none⟩ = some a5 := by simp [World.cell?, h]
theorem free6 {w : World} {b : Nat} {T : TypeId} {a0 a1 a2 a3 a4 a5 : Value} (h : w.heap[b]? = some (.cells #[a0, a1, a2, a3, a4, a5] T (0, 0))) : w.frozen? ⟨b, 0, none⟩ = false ∧ w.frozen? ⟨b, 1, none⟩ = false ∧ w.frozen? ⟨b, 2, none⟩ = false ∧ w.frozen? ⟨b, 3, none⟩ = false ∧ w.frozen? ⟨b, 4, none⟩ = false ∧ w.frozen? ⟨b, 5, none⟩ = false := by simp [World.frozen?, h]
theorem cells7 {w : World} {b : Nat} {T : TypeId} {a0 a1 a2 a3 a4 a5 a6 : Value} (h : w.heap[b]? = some (.cells #[a0, a1, a2, a3, a4, a5, a6] T (0, 0))) : w.cell? ⟨b, 0, none⟩ = some a0 ∧ w.cell? ⟨b, 1, none⟩ = some a1 ∧ w.cell? ⟨b, 2, none⟩ = some a2 ∧ w.cell? ⟨b, 3, none⟩ = some a3 ∧ w.cell? ⟨b, 4, none⟩ = some a4 ∧ w.cell? ⟨b, 5, none⟩ = some a5 ∧ w.cell? ⟨b, 6, none⟩ = some a6 := by simp [World.cell?, h]
theorem free7 {w : World} {b : Nat} {T : TypeId} {a0 a1 a2 a3 a4 a5 a6 : Value} (h : w.heap[b]? = some (.cells #[a0, a1, a2, a3, a4, a5, a6] T (0, 0))) : w.frozen? ⟨b, 0, none⟩ = false ∧ w.frozen? ⟨b, 1, none⟩ = false ∧ w.frozen? ⟨b, 2, none⟩ = false ∧ w.frozen? ⟨b, 3, none⟩ = false ∧ w.frozen? ⟨b, 4, none⟩ = false ∧ w.frozen? ⟨b, 5, none⟩ = false ∧ w.frozen? ⟨b, 6, none⟩ = false := by simp [World.frozen?, h]

/-! rows that the call has made -/
theorem own_base {w : World} {base base' : Nat} {e : TypeId} {size : Nat} {v : Value} {n : Nat} {xs : List Value} (h : w.ownsRow base e size v n xs) (hb : base' ≤ base) : w.ownsRow base' e size v n xs := by
  refine ⟨h.1, ?_⟩
  rcases h.2 with h2 | ⟨g, cap, cur, hv, hg, r⟩
  · exact .inl h2
  · exact .inr ⟨g, cap, cur, hv, Nat.le_trans hb hg, r⟩

theorem own_at {w : World} {base : Nat} {e : TypeId} {size : Nat} {a : Option Addr} {c n : Nat} {xs : List Value} (h : w.ownsRow base e size (.slice a n c) n xs) : At w a xs := by
  by_cases hx : xs = []
  · exact .inl hx
  · have hp : 0 < xs.length := List.length_pos_iff.2 hx
    rcases h.2 with ⟨hv, hn⟩ | ⟨g, cap, cur, hv, hg, r⟩
    · have := h.1; subst hn; simp at this; exact .inl this
    · cases hv
      refine .inr ⟨g, 0, rfl, fun j hj => ?_⟩
      rw [Nat.zero_add]
      exact h.cellAt j (by rw [← h.1]; exact hj)

theorem own_lt {w : World} {base : Nat} {e : TypeId} {size : Nat} {a : Option Addr} {c n : Nat} {xs : List Value} (h : w.ownsRow base e size (.slice a n c) n xs) : ∀ p, a = some p → base ≤ p.block ∧ p.block < w.heap.size := by
  intro p hp; subst hp; exact h.lt p.block rfl

theorem own_cap {w : World} {base : Nat} {e : TypeId} {size : Nat} {a : Option Addr} {c n : Nat} {xs : List Value} (h : w.ownsRow base e size (.slice a n c) n xs) : n ≤ c ∧ c ≤ maxLen := by
  rcases h.2 with ⟨hv, hn⟩ | ⟨g, cap, cur, hv, hg, _, h1, h2, _⟩
  · cases hv; exact ⟨Nat.le_refl _, Nat.zero_le _⟩
  · cases hv; exact ⟨h1, h2⟩

theorem own_addr {w : World} {base : Nat} {e : TypeId} {size : Nat} {a : Option Addr} {c n : Nat} {xs : List Value} (h : w.ownsRow base e size (.slice a n c) n xs) (hp : 0 < xs.length) : ∃ g, a = some ⟨g, 0, none⟩ := by
  rcases h.2 with ⟨hv, hn⟩ | ⟨g, cap, cur, hv, _⟩
  · have := h.1; subst hn; simp at this; subst this; simp at hp
  · cases hv; exact ⟨g, rfl⟩

theorem own_cell {w : World} {base : Nat} {e : TypeId} {size g c n : Nat} {xs : List Value} (h : w.ownsRow base e size (.slice (some ⟨g, 0, none⟩) n c) n xs) {j : Nat} (hj : j < xs.length) :
    w.cell? ⟨g, j, none⟩ = xs[j]? ∧ w.frozen? ⟨g, j, none⟩ = false := ⟨h.cellAt j (by rw [← h.1]; exact hj), h.frozenAt j⟩

/-- the row that a slice lies in -/
def blk (a : Option Addr) : Option Nat := a.map (·.block)
theorem ownBlock_slice (a : Option Addr) (n c : Nat) : (Value.slice a n c).ownBlock = blk a := by cases a <;> rfl

theorem own_kept {w w' : World} {base : Nat} {e : TypeId} {size : Nat} {a : Option Addr} {c n : Nat} {xs : List Value} {x : Option Nat} (h : w.ownsRow base e size (.slice a n c) n xs) (hg : w.grownBy w' x) (hx : ∀ b, x = some b → b < base ∨ blk a ≠ some b) :
    w'.ownsRow base e size (.slice a n c) n xs := by
  refine h.kept hg ?_
  rw [ownBlock_slice]
  cases hx' : x with
  | none => cases a <;> simp [blk]
  | some b =>
    cases a with
    | none => simp [blk]
    | some p =>
      have h1 := (own_lt h p rfl).1
      refine .inr ?_
      rcases hx b hx' with h2 | h2
      · simp [blk]; omega
      · exact h2

theorem own_blk {w : World} {base : Nat} {e : TypeId} {size : Nat} {a : Option Addr} {c n : Nat} {xs : List Value} (h : w.ownsRow base e size (.slice a n c) n xs) : ∀ b, blk a = some b → base ≤ b ∧ b < w.heap.size := by
  intro b hb
  obtain ⟨p, hp, rfl⟩ := Option.map_eq_some_iff.1 hb
  exact own_lt h p hp
/-- a row is read as it was, while another, younger one is written -/
theorem At.apart {w w' : World} {a : Option Addr} {cs : List Value} {row : Option Nat} {B : Nat} (h : At w a cs) (hg : w.grownBy w' row) (ha : ∀ p, a = some p → p.block < B) (hr : ∀ b, row = some b → B ≤ b) : At w' a cs :=
  h.grown hg (fun p hp e => by have := ha p hp; have := hr _ e.symm; omega)
theorem blk_apart {w w' : World} {b : Nat} {o : Obj} {row : Option Nat} (h : w.heap[b]? = some o) (hg : w.grownBy w' row) (hr : ∀ k, row = some k → b < k) : w'.heap[b]? = some o :=
  (hg.block b (lt_of_block h) (fun e => by have := hr b e.symm; omega)).trans h
theorem own_drewN {w : World} {base : Nat} {e : TypeId} {size : Nat} {v : Value} {n : Nat} {xs : List Value} (h : w.ownsRow base e size v n xs) (m : Nat) : (w.drewN m).ownsRow base e size v n xs := h
theorem grown_undrew {w w' : World} {n : Nat} {x : Option Nat} (h : (w.drewN n).grownBy w' x) : w.grownBy w' x := ⟨h.os, h.tape, h.output, h.size, h.block⟩

theorem grown_own {W w w' : World} {x row : Option Nat} (h : W.grownBy w x) (hg : w.grownBy w' row) (hr : ∀ b, row = some b → W.heap.size ≤ b) : W.grownBy w' x :=
  h.andThen hg fun j hj => .inl (hr j hj)

theorem grown_setCell {W w : World} {x : Option Nat} (h : W.grownBy w x) {p : Addr} (hp : W.heap.size ≤ p.block) (v : Value) : W.grownBy (w.setCell p v) x :=
  grown_own (row := some p.block) h ⟨rfl, rfl, rfl, by simp, fun j _ hj => heap_setCell_other w p j _ (fun e => hj (by rw [e]))⟩ (by intro b hb; cases hb; exact hp)

theorem grown_alloc_r {W w : World} {x : Option Nat} (h : W.grownBy w x) (o : Obj) : W.grownBy (w.alloc o) x := h.andThen (World.grownBy_alloc w o none) (by simp)
theorem grown_drew_r {W w : World} {x : Option Nat} (h : W.grownBy w x) : W.grownBy w.drew x := ⟨h.os, h.tape, h.output, h.size, h.block⟩
/-- a block behind steps that only make new ones, and a call that changes block s alone -/
theorem blk_after {w w1 w2 : World} {b : Nat} {o : Obj} {x : Option Nat} (h : w.heap[b]? = some o) (h1 : w.grownBy w1 none) (h2 : w1.grownBy w2 x) (hb : some b ≠ x) : w2.heap[b]? = some o :=
  (h2.block b (Nat.lt_of_lt_of_le (lt_of_block h) h1.size) hb).trans ((h1.block b (lt_of_block h) (by simp)).trans h)

theorem grown_refl (w : World) (x : Option Nat) : w.grownBy w x := ⟨rfl, rfl, rfl, Nat.le_refl _, fun _ _ _ => rfl⟩

/-- what append must know of an element's type -/
def Elem (P : Program) (t e : TypeId) (size bytes : Nat) : Prop :=
  P.underlying t = some (.slice e) ∧ ∃ i z, P.info? e = some i ∧ i.zero = some z ∧ i.size = size ∧ i.bytes = bytes ∧ z.cells.size = size ∧ 0 < size

/-- 'append(s, x, ..)', s nil or the call's own -/
theorem wpList_push {P : Program} {w : World} {ops : Array Oper} {rest : List Oper} {o : Oper} {act : Act} {Q : Exit → Act → World → Prop} (hgd : o.guard = none) (s x : Operand) (t : TypeId)
    (ho : o.op = .call { callee := .builtin .append, args := #[s, x], argTypes := #[t, t] })
    (base : Nat) (e E : TypeId) (size bytes : Nat) (hE : Elem P t e size bytes) (a : Option Addr) (n c : Nat) (xs : List Value) (hown : w.ownsRow base e size (.slice a n c) n xs)
    (m cx : Nat) (news : List Value) (hs : act.eval s = .slice a n c) (hx : act.eval x = .slice (some ⟨w.heap.size, 0, none⟩) m cx) (hl : news.length = m * size) (h1 : ∀ u ∈ news, u.oneCell' = true)
    (h63 : (n + m) * bytes ≤ 140737488355328) (hm : n + m ≤ maxLen) (hbase : base ≤ w.heap.size)
    (h : ∀ a' c' w', w'.ownsRow base e size (.slice a' (n + m) c') (n + m) (xs ++ news) → w.grownBy w' (blk a) → (blk a' = blk a ∨ blk a' = some (w.heap.size + 1)) → wpList P ops Q rest (act.put o.dst (.slice a' (n + m) c')) w') :
    wpList P ops Q (o :: rest) act (w.alloc (.cells news.toArray E)) := by
  obtain ⟨ht, i, z, hi, hz, hsize, hby, hzs, hsz⟩ := hE
  refine wpList_plain hgd fun _ hK => ?_
  obtain ⟨v', w', hr, h2, h3, h4, h5⟩ := run_append_own_at (P := P) (w.alloc (.cells news.toArray E)) base t o.type e i z size bytes ht hi hz hsize hby hzs hsz (.slice a n c) n xs (hown.alloc _) ⟨w.heap.size, 0, none⟩ m cx news hl
    (by intro j u hu
        have hh := heap_alloc_new w (.cells news.toArray E)
        have hadd : (⟨w.heap.size, 0, none⟩ : Addr).add j = ⟨w.heap.size, j, none⟩ := by unfold Addr.add; split <;> simp_all
        rw [hadd, cell_of_row _ _ j _ _ _ hh]
        simpa using hu) h1 hm h63 (by simp; omega)
  unfold Oper.wp execOp
  simp only [ho, resolve, invoke, builtin, Sem.run_bind, Sem.run_pure, Result.andThen_ok, List.map_toArray, List.map_cons, List.map_nil, hs, hx, hr]
  have hv : ∃ a' c', v' = .slice a' (n + m) c' := by
    rcases h2.2 with ⟨hv, hn⟩ | ⟨g, cap, cur, hv, _⟩
    · exact ⟨none, 0, by rw [hv, hn]⟩
    · exact ⟨_, _, hv⟩
  obtain ⟨a', c', rfl⟩ := hv
  rw [ownBlock_slice] at h3
  have h3' : w.grownBy w' (blk a) := (World.grownBy_alloc w _ _).trans h3
  refine hK _ _ (h a' c' w' h2 h3' ?_)
  simpa [ownBlock_slice] using h5

/-! quiet calls -/
theorem quiet_same {P : Program} {f : FuncId} {args : Array Value} {w : World} {n : Nat} {v : Value}
    (h : Calls P f args (w.drewN n) fun e w' => e = .returned v ∧ w.drewN n = w') : Calls P f args (w.drewN n) fun e w'' => e = .returned v ∧ ∃ m, w'' = w.drewN m :=
  h.mono fun _ _ ⟨he, hm⟩ => ⟨he, n, hm.symm⟩

/-! plain numbers -/
theorem wrap64_bd (x : Int) : -9223372036854775808 ≤ wrap64 x ∧ wrap64 x ≤ 9223372036854775807 := by unfold wrap64; omega

theorem tmod_neg {x n : Int} (h : 1 ≤ n) (hh : x.tmod n < 0) : x % n = x.tmod n + n := by
  have h3 := Int.emod_nonneg x (b := n) (by omega)
  rw [Int.tmod_eq_emod] at hh ⊢
  split <;> rename_i hc
  · rw [if_pos hc] at hh; omega
  · omega
theorem tmod_pos {x n : Int} (h : 1 ≤ n) (hh : 0 ≤ x.tmod n) : x % n = x.tmod n := by
  have h3 := Int.emod_lt_of_pos x (b := n) (by omega)
  rw [Int.tmod_eq_emod] at hh ⊢
  split <;> rename_i hc
  · omega
  · rw [if_neg hc] at hh; omega

end Go.Proofs.YthdaejnepengeaaGreatDoor
