/- What abstract values and objects say of the memory. -/
import Derived.Test.YtkefgcleaalnnaaGreatAbsA
import Derived.Test.YtkefgcleaalnnaaGreatAbsMo
import Derived.Test.YtkefgcleaalnnaaGreatGlob
import Derived.Maps.AppendAt
import Derived.Laws.Slices
namespace Go.Proofs.YtkefgcleaalnnaaGreat
set_option linter.unusedVariables false
set_option linter.unusedSimpArgs false
namespace Abs

theorem cell_congr {w w' : World} {b o : Nat} {s : Option Nat} (h : w'.heap[b]? = w.heap[b]?) : w'.cell? ⟨b, o, s⟩ = w.cell? ⟨b, o, s⟩ := by
 simp only [World.cell?, h]

def P2 {α β : Type} (R : α → β → Prop) (xs : List α) (ys : List β) : Prop := xs.length = ys.length ∧ ∀ (j : Nat) (x : α) (y : β), xs[j]? = some x → ys[j]? = some y → R x y
theorem P2.mono {α β : Type} {R R' : α → β → Prop} {xs : List α} {ys : List β} (h : P2 R xs ys) (hR : ∀ x y, R x y → R' x y) : P2 R' xs ys := ⟨h.1, fun j x y h1 h2 => hR _ _ (h.2 j x y h1 h2)⟩
theorem P2.nil {α β : Type} {R : α → β → Prop} : P2 R [] [] := ⟨rfl, fun j x y h => by simp at h⟩
theorem P2.cons {α β : Type} {R : α → β → Prop} {x : α} {y : β} {xs : List α} {ys : List β} (h : R x y) (ht : P2 R xs ys) : P2 R (x :: xs) (y :: ys) := by
 refine ⟨by simp [ht.1], fun j a b h1 h2 => ?_⟩
 cases j with
 | zero => simp at h1 h2; subst h1; subst h2; exact h
 | succ j => simp at h1 h2; exact ht.2 j a b h1 h2
theorem P2.nil_inv {α β : Type} {R : α → β → Prop} {xs : List α} (h : P2 R xs []) : xs = [] := by
 have := h.1; simpa using this
theorem P2.cons_inv {α β : Type} {R : α → β → Prop} {xs : List α} {y : β} {ys : List β} (h : P2 R xs (y :: ys)) : ∃ x xs', xs = x :: xs' ∧ R x y ∧ P2 R xs' ys := by
 cases xs with
 | nil => have := h.1; simp at this
 | cons x xs' =>
  refine ⟨x, xs', rfl, h.2 0 x y (by simp) (by simp), by have := h.1; simpa using this, fun j a b h1 h2 => h.2 (j + 1) a b (by simpa using h1) (by simpa using h2)⟩
theorem P2.append {α β : Type} {R : α → β → Prop} {xs : List α} {ys : List β} {xs' : List α} {ys' : List β} (h : P2 R xs ys) (h' : P2 R xs' ys') : P2 R (xs ++ xs') (ys ++ ys') := by
 induction xs generalizing ys with
 | nil => have := h.1; simp at this; cases ys with
  | nil => simpa using h'
  | cons => simp at this
 | cons x r ih =>
  cases ys with
  | nil => have := h.1; simp at this
  | cons y t =>
   obtain ⟨x1, xs1, he, h1, h2⟩ := h.cons_inv
   cases he
   exact P2.cons h1 (ih h2)
theorem P2.get {α β : Type} {R : α → β → Prop} {xs : List α} {ys : List β} (h : P2 R xs ys) {j : Nat} {y : β} (hj : ys[j]? = some y) : ∃ x, xs[j]? = some x ∧ R x y := by
 have hl : j < xs.length := by rw [h.1]; exact (List.getElem?_eq_some_iff.1 hj).1
 exact ⟨xs[j], List.getElem?_eq_getElem hl, h.2 j _ _ (List.getElem?_eq_getElem hl) hj⟩

inductive RT (F : Nat → Prop) (w : World) : Value → V → Prop
 | int (k : IntKind) (n : Int) : RT F w (.int k n) (.int k n)
 | bool (b : Bool) : RT F w (.bool b) (.bool b)
 | tt : RT F w (.bool true) .tt
 | ff : RT F w (.bool false) .ff
 | str (s : ByteArray) : RT F w (.string s) (.str s)
 | nils : RT F w (.slice none 0 0) .nils
 | nilp : RT F w (.pointer none) .nilp
 | nilf : RT F w .nilFunc .nilf
 | nili : RT F w .nilIface .nili
 | nilm : RT F w (.map none) .nilm
 | lst0 (a : Option Addr) (cap sz : Nat) (h : cap ≤ maxLen) : RT F w (.slice a 0 cap) (.lst sz [])
 | raw (ad : Option Addr) (n cap : Nat) : RT F w (.slice ad n cap) (.cmap (.slice ad n cap))
 | lst (b off n cap sz : Nat) (rows : List (List V)) (f : Nat → Nat → Value) (hF : F b) (hn : rows.length = n) (hc : n ≤ cap) (hm : cap ≤ maxLen) (hz : ∀ r ∈ rows, r.length = sz)
   (hx : ∀ i j, i < n → j < sz → w.cell? ⟨b, off + i * sz + j, none⟩ = some (f i j)) (hr : ∀ (i : Nat) (r : List V) (j : Nat) (v : V), rows[i]? = some r → r[j]? = some v → RT F w (f i j) v) : RT F w (.slice (some ⟨b, off, none⟩) n cap) (.lst sz rows)
 | cptr (b off : Nat) (cells : List V) (f : Nat → Value) (hF : F b) (hx : ∀ j, j < cells.length → w.cell? ⟨b, off + j, none⟩ = some (f j)) (hr : ∀ (j : Nat) (v : V), cells[j]? = some v → RT F w (f j) v) : RT F w (.pointer (some ⟨b, off, none⟩)) (.cptr cells)

theorem RT.up {F F' : Nat → Prop} {w w' : World} {c : Value} {v : V} (h : RT F w c v) (hF : ∀ b, F b → F' b) (hw : ∀ b, F b → w'.heap[b]? = w.heap[b]?) : RT F' w' c v := by
 induction h with
 | int k n => exact .int k n
 | bool b => exact .bool b
 | tt => exact .tt
 | ff => exact .ff
 | str s => exact .str s
 | nils => exact .nils
 | nilp => exact .nilp
 | nilf => exact .nilf
 | nili => exact .nili
 | nilm => exact .nilm
 | lst0 a cap sz h => exact .lst0 a cap sz h
 | raw ad n cap => exact .raw ad n cap
 | lst b off n cap sz rows f hFb hn hc hm hz hx hr ih => exact .lst b off n cap sz rows f (hF b hFb) hn hc hm hz (fun i j hi hj => (cell_congr (hw b hFb)).trans (hx i j hi hj)) ih
 | cptr b off cells f hFb hx hr ih => exact .cptr b off cells f (hF b hFb) (fun j hj => (cell_congr (hw b hFb)).trans (hx j hj)) ih

theorem RT.dw {F : Nat → Prop} {w : World} {u v : V} (hd : DW u v) : ∀ {c : Value}, RT F w c u → RT F w c v := by
 induction hd with
 | refl => exact fun h => h
 | nils sz => intro c h; cases h; exact .lst0 none 0 sz (Nat.zero_le _)
 | tt => intro c h; cases h; exact .bool true
 | ff => intro c h; cases h; exact .bool false
 | lst sz rows rows' hl hr hd ih =>
  intro c h
  cases h with
  | lst0 a cap _ h =>
   have : rows' = [] := by cases rows' with | nil => rfl | cons => simp at hl
   subst this; exact .lst0 a cap sz h
  | lst b off n cap _ _ f hF hn hc hm hz hx hq =>
   refine .lst b off n cap sz rows' f hF (hl ▸ hn) hc hm ?_ hx ?_
   ·intro r hr'
    obtain ⟨i, hi, rfl⟩ := List.getElem_of_mem hr'
    have hi2 : i < rows.length := by omega
    rw [← hr i rows[i] rows'[i] (List.getElem?_eq_getElem hi2) (List.getElem?_eq_getElem hi)]
    exact hz _ (List.getElem_mem hi2)
   ·intro i r' j v' h1 h2
    have hi : i < rows.length := by have := (List.getElem?_eq_some_iff.1 h1).1; omega
    have h3 := hr i rows[i] r' (List.getElem?_eq_getElem hi) h1
    have hj : j < rows[i].length := by have := (List.getElem?_eq_some_iff.1 h2).1; omega
    exact ih i rows[i] r' (List.getElem?_eq_getElem hi) h1 j rows[i][j] v' (List.getElem?_eq_getElem hj) h2 (hq i rows[i] j rows[i][j] (List.getElem?_eq_getElem hi) (List.getElem?_eq_getElem hj))
theorem RT.one {F : Nat → Prop} {w : World} {c : Value} {v : V} (h : RT F w c v) : c.oneCell' = true := by cases h <;> rfl
inductive RV (F : Nat → Prop) (φ : Nat → Option Value) (w : World) : Value → V → Prop
 | tree {c : Value} {v : V} (h : RT F w c v) : RV F φ w c v
 | row (l : Nat) (c : Value) (h : φ l = some c) : RV F φ w c (.row l)
 | mp (l : Nat) (c : Value) (h : φ l = some c) : RV F φ w c (.mp l)
 | ptr (l off b : Nat) (h : φ l = some (.pointer (some ⟨b, 0, none⟩))) : RV F φ w (.pointer (some ⟨b, off, none⟩)) (.ptr l off)
 | eptr (l sz i off b n cap : Nat) (h : φ l = some (.slice (some ⟨b, 0, none⟩) n cap)) : RV F φ w (.pointer (some ⟨b, i * sz + off, none⟩)) (.eptr l sz i off)
 | vw (l sz o n : Nat) (ad a : Option Addr) (N cap c : Nat) (h : φ l = some (.slice ad N cap)) (hn : o + n ≤ N) (hc : n ≤ c) (hcc : cap = o + c) (ha0 : o = 0 → a = ad) (ha : o < cap → ∃ b, ad = some b ∧ a = some (b.add (o * sz))) : RV F φ w (.slice a n c) (.vw l sz o n)
 | inn (l i : Nat) (c : Value) (h : ∃ ad n cap, c = .slice ad n cap) : RV F φ w c (.inn l i c)
 | iptr (l i sz j off b n cap : Nat) : RV F φ w (.pointer (some ⟨b, j * sz + off, none⟩)) (.iptr l i sz j off (.slice (some ⟨b, 0, none⟩) n cap))
 | fn (f : Nat) (caps : List V) (cs : Array Value) (hl : cs.toList.length = caps.length) (h : ∀ (j : Nat) (c : Value) (v : V), cs.toList[j]? = some c → caps[j]? = some v → RV F φ w c v) : RV F φ w (.func (.func f) #[] cs) (.fn f caps)

theorem RV.up {F F' : Nat → Prop} {φ φ' : Nat → Option Value} {w w' : World} {c : Value} {v : V} (h : RV F φ w c v) (hF : ∀ b, F b → F' b) (hφ : ∀ l c, φ l = some c → φ' l = some c) (hw : ∀ b, F b → w'.heap[b]? = w.heap[b]?) : RV F' φ' w' c v := by
 induction h with
 | tree h => exact .tree (h.up hF hw)
 | row l c h => exact .row l c (hφ _ _ h)
 | mp l c h => exact .mp l c (hφ _ _ h)
 | ptr l off b h => exact .ptr l off b (hφ _ _ h)
 | eptr l sz i off b n cap h => exact .eptr l sz i off b n cap (hφ _ _ h)
 | vw l sz o n ad a N cap c h hn hc hcc ha0 ha => exact .vw l sz o n ad a N cap c (hφ _ _ h) hn hc hcc ha0 ha
 | inn l i c h => exact .inn l i c h
 | iptr l i sz j off b n cap => exact .iptr l i sz j off b n cap
 | fn f caps cs hl _ ih => exact .fn f caps cs hl ih

theorem RV.one {F : Nat → Prop} {φ : Nat → Option Value} {w : World} (hφ : ∀ l c, φ l = some c → c.oneCell' = true) {c : Value} {v : V} (h : RV F φ w c v) : c.oneCell' = true := by
 cases h with
 | tree h => exact h.one
 | row l c h => exact hφ _ _ h
 | mp l c h => exact hφ _ _ h
 | ptr l off b h => rfl
 | eptr => rfl
 | vw => rfl
 | inn l i c h => obtain ⟨_, _, _, rfl⟩ := h; rfl
 | iptr => rfl
 | fn f caps cs hl h => rfl

inductive RS (F : Nat → Prop) (φ : Nat → Option Value) (w : World) : Value → S → Prop
 | c {c : Value} {v : V} (h : RV F φ w c v) : RS F φ w c (.c v)
 | agg (cs : Array Value) (vs : List V) (h : P2 (RV F φ w) cs.toList vs) : RS F φ w (.agg cs) (.agg vs)
 | tup (cs : Array Value) (xs : List S) (hl : cs.toList.length = xs.length) (h : ∀ (j : Nat) (c : Value) (x : S), cs.toList[j]? = some c → xs[j]? = some x → RS F φ w c x) : RS F φ w (.tuple cs) (.tup xs)
 | bot (c : Value) : RS F φ w c .bot

theorem RS.up {F F' : Nat → Prop} {φ φ' : Nat → Option Value} {w w' : World} {c : Value} {v : S} (h : RS F φ w c v) (hF : ∀ b, F b → F' b) (hφ : ∀ l c, φ l = some c → φ' l = some c) (hw : ∀ b, F b → w'.heap[b]? = w.heap[b]?) : RS F' φ' w' c v := by
 induction h with
 | c h => exact .c (h.up hF hφ hw)
 | agg cs vs h => exact .agg cs vs (h.mono fun _ _ h => h.up hF hφ hw)
 | tup cs xs hl _ ih => exact .tup cs xs hl ih
 | bot c => exact .bot c

def hb : Value → Option Nat
 | .pointer (some a) => some a.block
 | .slice (some a) _ (_ + 1) => some a.block
 | .map (some r) => some r
 | _ => none
def roomy : Value → Prop
 | .slice (some _) _ 0 => False
 | _ => True
def blkOf (φ : Nat → Option Value) (l : Nat) : Option Nat := (φ l).bind hb
def live : Ob → Bool
 | .box _ _ | .row _ _ _ | .map _ _ | .iter _ _ _ | .grid _ _ _ _ | .pmap _ _ _ _ | .pool _ _ _ => true
 | _ => false

def RTS (F : Nat → Prop) (w : World) (c : Value) : S → Prop
 | .c v => RT F w c v
 | .agg vs => ∃ cs, c = .agg cs ∧ P2 (RT F w) cs.toList vs
 | _ => False
theorem RTS.up {F F' : Nat → Prop} {w w' : World} {c : Value} {s : S} (h : RTS F w c s) (hF : ∀ b, F b → F' b) (hw : ∀ b, F b → w'.heap[b]? = w.heap[b]?) : RTS F' w' c s := by
 cases s with
 | c v => exact RT.up h hF hw
 | agg vs => obtain ⟨cs, rfl, h⟩ := h; exact ⟨cs, rfl, h.mono fun _ _ h => h.up hF hw⟩
 | tup => exact h
 | bot => exact h
theorem RTS.rs {F : Nat → Prop} {φ : Nat → Option Value} {w : World} {c : Value} {s : S} (h : RTS F w c s) : RS F φ w c s := by
 cases s with
 | c v => exact .c (.tree h)
 | agg vs => obtain ⟨cs, rfl, h⟩ := h; exact .agg cs vs (h.mono fun _ _ h => .tree h)
 | tup => exact h.elim
 | bot => exact .bot _
def RE (F : Nat → Prop) (w : World) (e : MapEntry) (x : Nat × S × S) : Prop := e.born = x.1 ∧ RTS F w e.key x.2.1 ∧ RTS F w e.val x.2.2
def REK (F : Nat → Prop) (w : World) (e : MapEntry) (x : Nat × S × S) : Prop := e.born = x.1 ∧ RTS F w e.key x.2.1 ∧ True
def PE (F : Nat → Prop) (φ : Nat → Option Value) (w : World) (e : MapEntry) (x : Nat × S × S) : Prop := e.born = x.1 ∧ RTS F w e.key x.2.1 ∧ RS F φ w e.val x.2.2
theorem RE.up {F F' : Nat → Prop} {w w' : World} {e : MapEntry} {x : Nat × S × S} (h : RE F w e x) (hF : ∀ b, F b → F' b) (hw : ∀ b, F b → w'.heap[b]? = w.heap[b]?) : RE F' w' e x := ⟨h.1, h.2.1.up hF hw, h.2.2.up hF hw⟩

def insB : Ob → Nat → Prop
 | .grid _ _ _ ins, b => ∃ p ∈ ins, hb p.1 = some b
 | .pool _ _ ins, b => ∃ p ∈ ins, ∃ r, p.2 = some r ∧ hb p.1 = some b
 | _, _ => False
def Blk (φ : Nat → Option Value) (l : Nat) (o : Ob) (b : Nat) : Prop := blkOf φ l = some b ∨ insB o b
theorem Blk.base {φ : Nat → Option Value} {l : Nat} {o : Ob} {b : Nat} (h : Blk φ l o b) (hi : insB o b → False := by exact fun h => h) : blkOf φ l = some b := h.elim id fun h => (hi h).elim
def RowAt (F : Nat → Prop) (w : World) (e sz : Nat) (c : Value) (rows : List (List V)) : Prop :=
 (∃ xs, (∀ b, hb c = some b → ¬ F b) ∧ (w.ownsRow 0 e sz c rows.length xs ∧ roomy c) ∧ P2 (RT F w) xs rows.flatten ∧ ∀ r ∈ rows, r.length = sz) ∨ (rows = [] ∧ ∃ p, c = .slice (some p) 0 0)
def RO (F : Nat → Prop) (φ : Nat → Option Value) (w : World) (l : Nat) : Ob → Prop
 | .box cells t => ∃ b cs T, φ l = some (.pointer (some ⟨b, 0, none⟩)) ∧ ¬ F b ∧ w.heap[b]? = some (.cells cs T (0, 0)) ∧ P2 (RV F φ w) cs.toList cells ∧ (t = 0 ∨ T + 1 = t)
 | .row e sz rows => (∃ c xs, φ l = some c ∧ (∀ b, hb c = some b → ¬ F b) ∧ (w.ownsRow 0 e sz c rows.length xs ∧ roomy c) ∧ P2 (RT F w) xs rows.flatten ∧ ∀ r ∈ rows, r.length = sz) ∨ (rows = [] ∧ ∃ p, φ l = some (.slice (some p) 0 0))
 | .frow sz rows => ∃ c, φ l = some c ∧ RT F w c (.lst sz rows)
 | .map clock es => ∃ b ents, φ l = some (.map (some b)) ∧ ¬ F b ∧ w.heap[b]? = some (.map ents clock) ∧ P2 (RE F w) ents.toList es ∧ ∀ e ∈ ents.toList, e.born < clock
 | .iter m since seen => ∃ r b, φ l = some (.pointer (some ⟨r, 0, none⟩)) ∧ ¬ F r ∧ w.heap[r]? = some (.mapIter (some b) since seen.reverse.toArray since) ∧ φ m = some (.map (some b))
 | .grid e e2 sz ins => ∃ c, φ l = some c ∧ (∀ b, hb c = some b → ¬ F b) ∧ (w.ownsRow 0 e 1 c ins.length (ins.map (·.1)) ∧ roomy c) ∧ (∀ p ∈ ins, RowAt F w e2 sz p.1 p.2) ∧
   (∀ (i j : Nat) (p q : Value × List (List V)) (b : Nat), ins[i]? = some p → ins[j]? = some q → hb p.1 = some b → hb q.1 = some b → i = j) ∧ ∀ (p : Value × List (List V)) (b : Nat), p ∈ ins → hb p.1 = some b → hb c ≠ some b
 | .pmap q _ clock es => ∃ b ents, φ l = some (.map (some b)) ∧ ¬ F b ∧ w.heap[b]? = some (.map ents clock) ∧ P2 (PE F φ w) ents.toList es ∧ (∀ x ∈ ents.toList, x.born < clock) ∧ (q = false → ∀ y ∈ es, innS y.2.2)
 | .pool e sz ins => φ l = some (.slice none 0 0) ∧ (∀ x ∈ ins, ∀ r, x.2 = some r → RowAt F w e sz x.1 r) ∧
   ∀ (i j : Nat) (x y : Value × Option (List (List V))) (r1 r2 : List (List V)) (b : Nat), ins[i]? = some x → ins[j]? = some y → x.2 = some r1 → y.2 = some r2 → hb x.1 = some b → hb y.1 = some b → i = j
 | .dead => True

theorem lt_heap {w : World} {b : Nat} {o : Obj} (h : w.heap[b]? = some o) : b < w.heap.size := (Array.getElem?_eq_some_iff.1 h).1

theorem own_lt {w : World} {e sz n : Nat} {c : Value} {xs : List Value} (h : w.ownsRow 0 e sz c n xs) (hr : roomy c) {b : Nat} (hb' : hb c = some b) : b < w.heap.size := by
 rcases h.2 with ⟨hv, _⟩ | ⟨g, cap, cur, hv, _, hh, _⟩
 ·subst hv; simp [hb] at hb'
 ·subst hv
  cases cap with
  | zero => exact hr.elim
  | succ cap => simp [hb] at hb'; subst hb'; exact lt_heap hh
theorem RowAt.lt {F : Nat → Prop} {w : World} {e sz : Nat} {c : Value} {rows : List (List V)} (h : RowAt F w e sz c rows) {b : Nat} (hb' : hb c = some b) : b < w.heap.size ∧ ¬ F b := by
 rcases h with ⟨xs, h2, ⟨h3, h3r⟩, _⟩ | ⟨_, p, rfl⟩
 ·exact ⟨own_lt h3 h3r hb', h2 _ hb'⟩
 ·simp [hb] at hb'
theorem own_up {w w' : World} {e sz n : Nat} {c : Value} {xs : List Value} (h : w.ownsRow 0 e sz c n xs) (hr : roomy c) (hw : ∀ b, hb c = some b → w'.heap[b]? = w.heap[b]?) : w'.ownsRow 0 e sz c n xs := by
 refine ⟨h.1, ?_⟩
 rcases h.2 with hv | ⟨g, cap, cur, hv, h6, hh, h7⟩
 ·exact .inl hv
 ·exact .inr ⟨g, cap, cur, hv, h6, (hw g (by subst hv; cases cap with | zero => exact hr.elim | succ cap => rfl)).trans hh, h7⟩
theorem RowAt.up {F F' : Nat → Prop} {w w' : World} {e sz : Nat} {c : Value} {rows : List (List V)} (h : RowAt F w e sz c rows) (hF : ∀ b, F b → F' b) (hw : ∀ b, F b → w'.heap[b]? = w.heap[b]?) (hk : ∀ b, hb c = some b → w'.heap[b]? = w.heap[b]? ∧ ¬ F' b) : RowAt F' w' e sz c rows := by
 rcases h with ⟨xs, h2, ⟨h3, h3r⟩, h4, h5⟩ | h
 ·exact .inl ⟨xs, fun b hb' => (hk b hb').2, ⟨own_up h3 h3r fun b hb' => (hk b hb').1, h3r⟩, h4.mono fun _ _ h => h.up hF hw, h5⟩
 ·exact .inr h
theorem RO.lt {F : Nat → Prop} {φ : Nat → Option Value} {w : World} {l : Nat} {o : Ob} (h : RO F φ w l o) (hl : live o = true) {b : Nat} (hB : Blk φ l o b) : b < w.heap.size ∧ ¬ F b := by
 cases o with
 | grid e e2 sz ins =>
  obtain ⟨c, h1, h2, ⟨h3, h3r⟩, h4, _⟩ := h
  rcases hB with hb' | ⟨p, hp, hb'⟩
  ·simp only [blkOf, h1, Option.bind_some] at hb'
   exact ⟨own_lt h3 h3r hb', h2 _ hb'⟩
  ·exact (h4 p hp).lt hb'
 | pmap q p clock es =>
  have hb' : blkOf φ l = some b := hB.elim id False.elim
  obtain ⟨b', ents, h1, h2, h3, _⟩ := h
  simp only [blkOf, h1, Option.bind_some, hb, Option.some.injEq] at hb'
  subst hb'
  exact ⟨lt_heap h3, h2⟩
 | pool e sz ins =>
  obtain ⟨h1, h2, _⟩ := h
  rcases hB with hb' | ⟨p, hp, r, hr, hb'⟩
  ·simp [blkOf, h1, hb] at hb'
  ·exact (h2 p hp r hr).lt hb'
 | box cells t =>
  have hb' : blkOf φ l = some b := hB.elim id False.elim
  obtain ⟨b', cs, T, h1, h2, h3, _⟩ := h
  simp only [blkOf, h1, Option.bind_some, hb, Option.some.injEq] at hb'
  subst hb'
  exact ⟨lt_heap h3, h2⟩
 | row e sz rows =>
  have hb' : blkOf φ l = some b := hB.elim id False.elim
  rcases h with ⟨c, xs, h1, h2, ⟨h3, h3r⟩, _⟩ | ⟨_, p, h1⟩
  ·simp only [blkOf, h1, Option.bind_some] at hb'
   refine ⟨?_, h2 _ hb'⟩
   rcases h3.2 with ⟨hv, _⟩ | ⟨g, cap, cur, hv, _, hh, _⟩
   ·subst hv; simp [hb] at hb'
   ·subst hv
    cases cap with
    | zero => exact h3r.elim
    | succ cap => simp [hb] at hb'; subst hb'; exact lt_heap hh
  ·simp [blkOf, h1, hb] at hb'
 | map clock es =>
  have hb' : blkOf φ l = some b := hB.elim id False.elim
  obtain ⟨b', ents, h1, h2, h3, _⟩ := h
  simp only [blkOf, h1, Option.bind_some, hb, Option.some.injEq] at hb'
  subst hb'
  exact ⟨lt_heap h3, h2⟩
 | iter m since seen =>
  have hb' : blkOf φ l = some b := hB.elim id False.elim
  obtain ⟨b', b2, h1, h2, h3, _⟩ := h
  simp only [blkOf, h1, Option.bind_some, hb, Option.some.injEq] at hb'
  subst hb'
  exact ⟨lt_heap h3, h2⟩
 | frow => simp [live] at hl
 | dead => simp [live] at hl

theorem RO.up {F F' : Nat → Prop} {φ φ' : Nat → Option Value} {w w' : World} {l : Nat} {o : Ob} (h : RO F φ w l o) (hF : ∀ b, F b → F' b) (hφ : ∀ l c, φ l = some c → φ' l = some c) (hw : ∀ b, F b → w'.heap[b]? = w.heap[b]?)
  (hl0 : live o = true → ∀ b, Blk φ l o b → w'.heap[b]? = w.heap[b]? ∧ ¬ F' b) : RO F' φ' w' l o := by
 have hl : live o = true → ∀ b, blkOf φ l = some b → w'.heap[b]? = w.heap[b]? ∧ ¬ F' b := fun hv b hb' => hl0 hv b (.inl hb')
 cases o with
 | grid e e2 sz ins =>
  obtain ⟨c, h1, h2, ⟨h3, h3r⟩, h4, h5, h6⟩ := h
  have hk : ∀ b, hb c = some b → w'.heap[b]? = w.heap[b]? ∧ ¬ F' b := fun b hb' => hl rfl b (by simp [blkOf, h1, hb'])
  exact ⟨c, hφ _ _ h1, fun b hb' => (hk b hb').2, ⟨own_up h3 h3r fun b hb' => (hk b hb').1, h3r⟩, fun p hp => (h4 p hp).up hF hw fun b hb' => hl0 rfl b (.inr ⟨p, hp, hb'⟩), h5, h6⟩
 | pmap q p clock es =>
  obtain ⟨b, ents, h1, h2, h3, h4, h5, h6⟩ := h
  have hk := hl rfl b (by simp [blkOf, h1, hb])
  exact ⟨b, ents, hφ _ _ h1, hk.2, hk.1.trans h3, h4.mono fun _ _ h => ⟨h.1, h.2.1.up hF hw, h.2.2.up hF hφ hw⟩, h5, h6⟩
 | pool e sz ins =>
  obtain ⟨h1, h2, h3⟩ := h
  exact ⟨hφ _ _ h1, fun x hx r hr => (h2 x hx r hr).up hF hw fun b hb' => hl0 rfl b (.inr ⟨x, hx, r, hr, hb'⟩), h3⟩
 | box cells t =>
  obtain ⟨b, cs, T, h1, h2, h3, h4, h5⟩ := h
  have hk := hl rfl b (by simp [blkOf, h1, hb])
  exact ⟨b, cs, T, hφ _ _ h1, hk.2, hk.1.trans h3, h4.mono fun _ _ h => h.up hF hφ hw, h5⟩
 | row e sz rows =>
  rcases h with ⟨c, xs, h1, h2, ⟨h3, h3r⟩, h4, h5⟩ | ⟨h0, p, h1⟩
  ·have hk := hl rfl
   simp only [blkOf, h1, Option.bind_some] at hk
   refine .inl ⟨c, xs, hφ _ _ h1, fun b hb' => (hk b hb').2, ⟨⟨h3.1, ?_⟩, h3r⟩, h4.mono fun _ _ h => h.up hF hw, h5⟩
   rcases h3.2 with hv | ⟨g, cap, cur, hv, h6, hh, h7⟩
   ·exact .inl hv
   ·exact .inr ⟨g, cap, cur, hv, h6, (hk g (by subst hv; cases cap with | zero => exact h3r.elim | succ cap => rfl)).1.trans hh, h7⟩
  ·exact .inr ⟨h0, p, hφ _ _ h1⟩
 | frow sz rows => obtain ⟨c, h1, h2⟩ := h; exact ⟨c, hφ _ _ h1, h2.up hF hw⟩
 | map clock es =>
  obtain ⟨b, ents, h1, h2, h3, h4, h5⟩ := h
  have hk := hl rfl b (by simp [blkOf, h1, hb])
  exact ⟨b, ents, hφ _ _ h1, hk.2, hk.1.trans h3, h4.mono fun _ _ h => h.up hF hw, h5⟩
 | iter m since seen =>
  obtain ⟨r, b, h1, h2, h3, h4⟩ := h
  have hk := hl rfl r (by simp [blkOf, h1, hb])
  exact ⟨r, b, hφ _ _ h1, hk.2, hk.1.trans h3, hφ _ _ h4⟩
 | dead => trivial

theorem hb_slice {p : Addr} {n cap b : Nat} (h : hb (.slice (some p) n cap) = some b) : b = p.block := by
 cases cap with
 | zero => simp [hb] at h
 | succ cap => simp [hb] at h; exact h.symm
theorem RO.mkrow {F : Nat → Prop} {φ : Nat → Option Value} {w : World} {l e sz : Nat} {rows : List (List V)} {c : Value} {xs : List Value} (h1 : φ l = some c) (h2 : ∀ b, hb c = some b → ¬ F b) (h3 : w.ownsRow 0 e sz c rows.length xs) (h4 : P2 (RT F w) xs rows.flatten) (h5 : ∀ r ∈ rows, r.length = sz) : RO F φ w l (.row e sz rows) := by
 by_cases hr : roomy c
 ·exact .inl ⟨c, xs, h1, h2, ⟨h3, hr⟩, h4, h5⟩
 ·rcases h3.2 with ⟨rfl, _⟩ | ⟨g, cap, cur, rfl, _, _, hc, _⟩
  ·exact (hr trivial).elim
  ·cases cap with
   | succ => exact (hr trivial).elim
   | zero =>
    have : rows = [] := by simpa using hc
    subst this
    exact .inr ⟨rfl, _, h1⟩

theorem beq_dec (a b : Nat) : Nat.beq a b = decide (a = b) := by
 by_cases h : a = b
 ·subst h; simp
 ·have : ¬ (Nat.beq a b = true) := fun e => h (Nat.eq_of_beq_eq_true e)
  rw [decide_eq_false h]; exact Bool.eq_false_iff.2 this
theorem getA_setA {α : Type} (h : List (Nat × α)) (k : Nat) (x : α) (n : Nat) : getA (setA h k x) n = if k = n then some x else getA h n := by
 induction h with
 | nil => by_cases e : k = n <;> simp [setA, getA, beq_dec, e]
 | cons p r ih =>
  obtain ⟨k', v⟩ := p
  by_cases e : k' = k
  ·subst e; by_cases e2 : k' = n <;> simp [setA, getA, beq_dec, e2]
  ·by_cases e2 : k' = n
   ·subst e2; simp [setA, getA, beq_dec, e, Ne.symm e]
   ·simp [setA, getA, beq_dec, e, e2, ih]
theorem getA_updH (ch : Ch) : ∀ (h : List (Nat × Ob)) (l : Nat), getA (updH h ch) l = match chGet ch l with | some o => some o | none => getA h l := by
 induction ch with
 | nil => intro h l; rfl
 | cons p r ih =>
  intro h l
  obtain ⟨k, o⟩ := p
  simp only [updH, ih, chGet, getA_setA]
  cases chGet r l with
  | some o' => rfl
  | none => by_cases e : k = l <;> simp [e]
structure Rp (F : Nat → Prop) (φ : Nat → Option Value) (X : Nat → Prop) (w : World) (h : Nat → Option Ob) : Prop where
 objs : ∀ l o, h l = some o → RO F φ w l o
 inj : ∀ l l' o o' b, h l = some o → h l' = some o' → live o = true → live o' = true → Blk φ l o b → Blk φ l' o' b → l = l'
 inX : ∀ l o b, h l = some o → live o = true → Blk φ l o b → X b
 bd : ∀ b, F b → b < w.heap.size
 one : ∀ l c, φ l = some c → c.oneCell' = true
 tb : ∀ g ∈ globs, F g.1 ∧ ∃ cs t f, g.2 cs ∧ w.heap[g.1]? = some (.cells cs t f)

structure Nx (F : Nat → Prop) (φ : Nat → Option Value) (w : World) (h : Nat → Option Ob) (N : Nat → Prop) (ch : Ch) (F' : Nat → Prop) (φ' : Nat → Option Value) (w' : World) : Prop where
 hF : ∀ b, F b → F' b
 hφ : ∀ l c, φ l = some c → φ' l = some c
 nφ : ∀ l c, φ' l = some c → φ l = some c ∨ (N l ∧ c.oneCell' = true)
 os : w'.os = w.os
 tape : w'.tape = w.tape
 output : w'.output = w.output
 drawn : dm → w.drawn ≤ w'.drawn
 size : w.heap.size ≤ w'.heap.size
 keep : ∀ b, b < w.heap.size → w'.heap[b]? ≠ w.heap[b]? → ∃ l o, h l = some o ∧ live o = true ∧ Blk φ l o b ∧ (chGet ch l).isSome
 nF : ∀ b, F' b → F b ∨ (b < w'.heap.size ∧ (w.heap.size ≤ b ∨ ∃ l o, h l = some o ∧ live o = true ∧ Blk φ l o b ∧ (chGet ch l).isSome))
 objs : ∀ l o, chGet ch l = some o → RO F' φ' w' l o
 own : ∀ l o b, chGet ch l = some o → live o = true → Blk φ' l o b → w.heap.size ≤ b ∨ ∃ l2 o2, h l2 = some o2 ∧ live o2 = true ∧ Blk φ l2 o2 b ∧ (chGet ch l2).isSome
 inj : ∀ l l' o o' b, chGet ch l = some o → chGet ch l' = some o' → live o = true → live o' = true → Blk φ' l o b → Blk φ' l' o' b → l = l'

theorem Rp.keepF {F : Nat → Prop} {φ : Nat → Option Value} {X : Nat → Prop} {w w' : World} {h : Nat → Option Ob} {N : Nat → Prop} {ch : Ch} {F' : Nat → Prop} {φ' : Nat → Option Value} (hr : Rp F φ X w h) (hn : Nx F φ w h N ch F' φ' w') : ∀ b, F b → w'.heap[b]? = w.heap[b]? := by
 intro b hFb
 by_cases e : w'.heap[b]? = w.heap[b]?
 ·exact e
 ·obtain ⟨l, o, h1, h2, h3, _⟩ := hn.keep b (hr.bd b hFb) e
  exact ((hr.objs l o h1).lt h2 h3).2.elim hFb

theorem blkOf_up {φ φ' : Nat → Option Value} (hφ : ∀ l c, φ l = some c → φ' l = some c) {l b : Nat} (h : blkOf φ l = some b) : blkOf φ' l = some b := by
 unfold blkOf at h ⊢
 cases hc : φ l with
 | none => simp [hc] at h
 | some c => rw [hφ _ _ hc]; simpa [hc] using h
theorem Blk_up {φ φ' : Nat → Option Value} (hφ : ∀ l c, φ l = some c → φ' l = some c) {l b : Nat} {o : Ob} (h : Blk φ l o b) : Blk φ' l o b := h.imp (blkOf_up hφ) id
theorem RO.has {F : Nat → Prop} {φ : Nat → Option Value} {w : World} {l : Nat} {o : Ob} (h : RO F φ w l o) (hl : live o = true) : ∃ c, φ l = some c := by
 cases o with
 | box cells t => obtain ⟨b, cs, T, h1, _⟩ := h; exact ⟨_, h1⟩
 | row e sz rows => rcases h with ⟨c, xs, h1, _⟩ | ⟨_, p, h1⟩ <;> exact ⟨_, h1⟩
 | map clock es => obtain ⟨b, ents, h1, _⟩ := h; exact ⟨_, h1⟩
 | iter m since seen => obtain ⟨r, b, h1, _⟩ := h; exact ⟨_, h1⟩
 | grid e e2 sz ins => obtain ⟨c, h1, _⟩ := h; exact ⟨_, h1⟩
 | pmap q p clock es => obtain ⟨b, ents, h1, _⟩ := h; exact ⟨_, h1⟩
 | pool e sz ins => exact ⟨_, h.1⟩
 | frow => simp [live] at hl
 | dead => simp [live] at hl
theorem blkOf_down {φ φ' : Nat → Option Value} (hφ : ∀ l c, φ l = some c → φ' l = some c) {l b : Nat} (hs : ∃ c, φ l = some c) (h : blkOf φ' l = some b) : blkOf φ l = some b := by
 obtain ⟨c, hc⟩ := hs
 unfold blkOf at h ⊢
 rw [hφ _ _ hc] at h; rw [hc]; exact h

theorem Blk_down {φ φ' : Nat → Option Value} (hφ : ∀ l c, φ l = some c → φ' l = some c) {l b : Nat} {o : Ob} (hs : ∃ c, φ l = some c) (h : Blk φ' l o b) : Blk φ l o b := h.imp (blkOf_down hφ hs) id

theorem Rp.next {F : Nat → Prop} {φ : Nat → Option Value} {X : Nat → Prop} {w w' : World} {h : Nat → Option Ob} {N : Nat → Prop} {ch : Ch} {F' : Nat → Prop} {φ' : Nat → Option Value}
  (hr : Rp F φ X w h) (hn : Nx F φ w h N ch F' φ' w') (hX : ∀ b, w.heap.size ≤ b → X b) : Rp F' φ' X w' (updF h ch) := by
 have hkF := hr.keepF hn
 have hold : ∀ l o, h l = some o → chGet ch l = none → live o = true → ∀ b, Blk φ l o b → w'.heap[b]? = w.heap[b]? ∧ ¬ F' b := by
  intro l o h1 h2 h3 b h4
  have hlt := (hr.objs l o h1).lt h3 h4
  constructor
  ·by_cases e : w'.heap[b]? = w.heap[b]?
   ·exact e
   ·obtain ⟨l2, o2, k1, k2, k3, k4⟩ := hn.keep b hlt.1 e
    have := hr.inj l l2 o o2 b h1 k1 h3 k2 h4 k3
    subst this; rw [h2] at k4; simp at k4
  ·intro hF'
   rcases hn.nF b hF' with hFb | ⟨_, hge | ⟨l2, o2, k1, k2, k3, k4⟩⟩
   ·exact hlt.2 hFb
   ·omega
   ·have := hr.inj l l2 o o2 b h1 k1 h3 k2 h4 k3
    subst this; rw [h2] at k4; simp at k4
 have hcase : ∀ l o, updF h ch l = some o → chGet ch l = some o ∨ (chGet ch l = none ∧ h l = some o) := by
  intro l o h1
  unfold updF at h1
  cases hc : chGet ch l with
  | some o' => simp only [hc] at h1; exact .inl (by rw [h1])
  | none => simp only [hc] at h1; exact .inr ⟨rfl, h1⟩
 have mixed : ∀ l l' o o' b, chGet ch l = some o → chGet ch l' = none → h l' = some o' → live o = true → live o' = true → Blk φ' l o b → Blk φ' l' o' b → False := by
  intro l l' o o' b h1 h2 h2' h3 h4 h5 h6
  have h6' := Blk_down hn.hφ ((hr.objs l' o' h2').has h4) h6
  have hlt := (hr.objs l' o' h2').lt h4 h6'
  rcases hn.own l o b h1 h3 h5 with hge | ⟨l2, o2, k1, k2, k3, k4⟩
  ·omega
  ·have := hr.inj l' l2 o' o2 b h2' k1 h4 k2 h6' k3
   subst this; rw [h2] at k4; simp at k4
 refine ⟨?_, ?_, ?_, ?_, fun l c hc => (hn.nφ l c hc).elim (hr.one l c) (·.2), fun g hg => ?_⟩
 ·intro l o h1
  rcases hcase l o h1 with hc | ⟨hc, ho⟩
  ·exact hn.objs l o hc
  ·exact (hr.objs l o ho).up hn.hF hn.hφ hkF (hold l o ho hc)
 ·intro l l' o o' b h1 h2 h3 h4 h5 h6
  rcases hcase l o h1 with hc | ⟨hc, ho⟩ <;> rcases hcase l' o' h2 with hc' | ⟨hc', ho'⟩
  ·exact hn.inj l l' o o' b hc hc' h3 h4 h5 h6
  ·exact (mixed l l' o o' b hc hc' ho' h3 h4 h5 h6).elim
  ·exact (mixed l' l o' o b hc' hc ho h4 h3 h6 h5).elim
  ·exact hr.inj l l' o o' b ho ho' h3 h4 (Blk_down hn.hφ ((hr.objs l o ho).has h3) h5) (Blk_down hn.hφ ((hr.objs l' o' ho').has h4) h6)
 ·intro l o b h1 h2 h3
  rcases hcase l o h1 with hc | ⟨hc, ho⟩
  ·rcases hn.own l o b hc h2 h3 with hge | ⟨l2, o2, k1, k2, k3, k4⟩
   ·exact hX b hge
   ·exact hr.inX l2 o2 b k1 k2 k3
  ·exact hr.inX l o b ho h2 (Blk_down hn.hφ ((hr.objs l o ho).has h2) h3)
 ·intro b hb'
  rcases hn.nF b hb' with hFb | ⟨hlt, _⟩
  ·have := hr.bd b hFb; have := hn.size; omega
  ·exact hlt
 ·obtain ⟨k1, cs, t, f, k3, k2⟩ := hr.tb g hg
  exact ⟨hn.hF _ k1, cs, t, f, k3, (hkF _ k1).trans k2⟩
end Abs
end Go.Proofs.YtkefgcleaalnnaaGreat
