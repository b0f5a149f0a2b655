/- Abstract values and the abstract walk: code over pure data, no world in sight. -/
import Derived.WalkKit
import Derived.WalkSpells
import Derived.WalkLawsBesides
namespace Go.Proofs.YtkefgcleaalnnaaGreat
set_option linter.unusedVariables false
set_option linter.unusedSimpArgs false
namespace Abs

inductive V where
 | int (k : IntKind) (n : Int)
 | bool (b : Bool)
 | tt | ff
 | str (s : ByteArray)
 | nils | nilp | nilf | nilm | nili
 | lst (sz : Nat) (rows : List (List V))
 | cptr (cells : List V)
 | cmap (c : Value)
 | row (l : Nat)
 | ptr (l off : Nat)
 | eptr (l sz i off : Nat)
 | vw (l sz o n : Nat)
 | mp (l : Nat)
 | inn (l i : Nat) (c : Value)
 | iptr (l i sz j off : Nat) (c : Value)
 | fn (f : Nat) (caps : List V)
 | bot
inductive S where
 | c (v : V)
 | agg (cs : List V)
 | tup (xs : List S)
 | bot
inductive Ob where
 | box (cells : List V) (t : Nat := 0)
 | row (e sz : Nat) (rows : List (List V))
 | frow (sz : Nat) (rows : List (List V))
 | map (clock : Nat) (es : List (Nat × S × S))
 | iter (l since : Nat) (seen : List Nat)
 | grid (e e2 sz : Nat) (ins : List (Value × List (List V)))
 | pmap (q : Bool) (p clock : Nat) (es : List (Nat × S × S))
 | pool (e sz : Nat) (ins : List (Value × Option (List (List V))))
 | dead
inductive TK where
 | int (k : IntKind) | bool | string | struct (fs : List (Nat × Nat)) | array (n e : Nat) | slice (e : Nat) | map (k e : Nat) | ptr | func | iface | other
structure TI where
 kind : TK
 size : Nat
 bytes : Nat
 zero : List V
 eq : Bool

structure Split (b : Bool) (p q : Prop) : Prop where
 t : b = true → p
 f : b = false → q
structure Ask (c p : Prop) : Prop where
 c : c
 p : p
inductive AppG (c p q : Prop) : Prop
 | mk (c : c) (p : p)
 | fr (c : c) (q : q)
inductive AskV (c p q : Prop) : Prop
 | mk (c : c) (p : p)
 | out (q : q)
inductive IdxG (rows : List (List V)) (i : Int) (k : List V → Prop) : Prop
 | mk (cs : List V) (h : 0 ≤ i ∧ rows[i.toNat]? = some cs) (hk : k cs)
inductive SliceG (p q r : Prop) : Prop
 | fr (h : p)
 | vw (h : q)
 | cut (h : r)
structure NilG (rows : List (List V)) (p q : Prop) : Prop where
 nil : rows = [] → p
 non : q
inductive RowG (rows : List (List V)) (i : Nat) (k : List V → Prop) : Prop
 | mk (cs : List V) (h : rows[i]? = some cs) (hk : k cs)
inductive GridG (ins : List (Value × List (List V))) (i : Nat) (c : Value) (k : List (List V) → Prop) : Prop
 | mk (rows : List (List V)) (h : ins[i]? = some (c, rows)) (hk : k rows)
inductive GridL (ins : List (Value × List (List V))) (i : Nat) (k : Value → Prop) : Prop
 | mk (c : Value) (rows : List (List V)) (h : ins[i]? = some (c, rows)) (hk : k c)
inductive BuildG (p q : Prop) : Prop
 | fr (h : p)
 | gr (h : q)
inductive CallG (P : S → List Ob → Prop) (k : S → List Ob → Prop) : Prop
 | mk (r : S) (os : List Ob) (h : P r os) (hk : k r os)
def one (r : S) (os : List Ob) : S → List Ob → Prop := fun r' os' => r' = r ∧ os' = os
inductive CallX (PX : (S → List Ob → Prop) → Prop) (k : S → List Ob → Prop) : Prop
 | mk (r : S) (os : List Ob) (h : PX (one r os)) (hk : k r os)
 | ex (Q : S → List Ob → Prop) (h : PX Q) (hk : ∀ r os, Q r os → k r os)
abbrev GD : ((S → List Ob → Prop) → Prop) → (S → List Ob → Prop) → Prop := fun PX k => CallG (fun r os => PX (one r os)) k
abbrev GX : ((S → List Ob → Prop) → Prop) → (S → List Ob → Prop) → Prop := fun PX k => CallX PX k
abbrev Ents := List (Nat × S × S)
abbrev Found := Option (Option (Nat × Nat × S))
inductive LookG (f : Found) (zero : S) (k : S → Bool → Prop) : Prop
 | mk (v : S) (b : Bool) (h : (∃ i n, f = some (some (i, n, v)) ∧ b = true) ∨ (f = some none ∧ v = zero ∧ b = false)) (hk : k v b)
inductive UpdG (f : Found) (same : Nat → Prop) (clock : Nat) (es : Ents) (key v : S) (k : Nat → Ents → Prop) : Prop
 | mk (clock' : Nat) (es' : Ents) (h : (∃ i n v0, f = some (some (i, n, v0)) ∧ same i ∧ clock' = clock ∧ es' = es.set i (n, key, v)) ∨ (f = some none ∧ clock' = clock + 1 ∧ es' = es ++ [(clock, key, v)])) (hk : k clock' es')
inductive EntG (f : Found) (same : Nat → Prop) (clock : Nat) (es : Ents) (key zero : S) (k : S → Nat → Nat → Ents → Prop) : Prop
 | mk (v : S) (n clock' : Nat) (es' : Ents) (h : (∃ i, f = some (some (i, n, v)) ∧ same i ∧ clock' = clock ∧ es' = es.set i (n, key, v)) ∨ (f = some none ∧ v = zero ∧ n = clock ∧ clock' = clock + 1 ∧ es' = es ++ [(clock, key, zero)])) (hk : k v n clock' es')
inductive PTake (ins : List (Value × Option (List (List V)))) (i : Nat) (c : Value) (k : List (List V) → Prop) : Prop
 | mk (rows : List (List V)) (h : ins[i]? = some (c, some rows)) (hk : k rows)
inductive PFrz (sz p : Nat) (ins : List (Value × Option (List (List V)))) (es : Ents) (k : Ents → Prop) : Prop
 | mk (es' : Ents) (hl : es'.length = es.length) (h : ∀ (j : Nat) (x y : Nat × S × S), es[j]? = some x → es'[j]? = some y → y.1 = x.1 ∧ y.2.1 = x.2.1 ∧ ((x.2.2 = .c .nils ∧ y.2.2 = .c .nils) ∨ ∃ i c rows, x.2.2 = .c (.inn p i c) ∧ ins[i]? = some (c, some rows) ∧ y.2.2 = .c (.lst sz rows))) (hk : k es')
inductive StampG (es : Ents) (s : Int) (v : S) (k : Ents → Prop) : Prop
 | mk (i n : Nat) (key v0 : S) (h : es[i]? = some (n, key, v0) ∧ (n : Int) = s ∧ ∀ j, j < i → ∀ e, es[j]? = some e → (e.1 : Int) ≠ s) (hk : k (es.set i (n, key, v)))
inductive DelG (f : Found) (es : Ents) (k : Ents → Prop) : Prop
 | mk (es' : Ents) (h : (∃ i n v, f = some (some (i, n, v)) ∧ es' = es.eraseIdx i) ∨ (f = some none ∧ es' = es)) (hk : k es')
def unseen (seen : List Nat) (es : Ents) : Ents := es.filter fun e => !seen.contains e.1
inductive EntryG (es : Ents) (n : Nat) (k : S → S → Prop) : Prop
 | mk (key v : S) (h : es.find? (fun e => e.1 == n) = some (n, key, v)) (hk : k key v)
inductive NextG (left : Ents) (over : Prop) (k : Nat → S → S → Prop) : Prop
 | mk {α : Type} (en : α → Nat × S × S) (xs : List α) (h : left = xs.map en) (h0 : xs = [] → over) (h1 : ∀ x, x ∈ xs → k (en x).1 (en x).2.1 (en x).2.2)

def getA {α : Type} : List (Nat × α) → Nat → Option α
 | [], _ => none
 | (k, v) :: r, n => bif Nat.beq k n then some v else getA r n
def setA {α : Type} : List (Nat × α) → Nat → α → List (Nat × α)
 | [], n, x => [(n, x)]
 | (k, v) :: r, n, x => bif Nat.beq k n then (k, x) :: r else (k, v) :: setA r n x
def nth {α : Type} : List α → Nat → Option α
 | [], _ => none
 | x :: _, 0 => some x
 | _ :: r, n + 1 => nth r n

structure St where
 fr : List (Nat × S)
 hp : List (Nat × Ob)
 nx : Nat

def slot (σ : St) (t : Nat) : S := match getA σ.fr t with | some v => v | none => .bot

def constV : Value → Option V
 | .int k n => some (.int k n)
 | .bool true => some .tt
 | .bool false => some .ff
 | .string s => some (.str s)
 | .slice none 0 0 => some .nils
 | .pointer none => some .nilp
 | .nilFunc => some .nilf
 | .nilIface => some .nili
 | .map none => some .nilm
 | _ => none
def constVs : List Value → Option (List V)
 | [] => some []
 | c :: r => match constV c with
  | some v => match constVs r with
   | some vs => some (v :: vs)
   | none => none
  | none => none
def constS : Value → S
 | .agg cs => match constVs cs.toList with | some vs => .agg vs | none => .bot
 | v => match constV v with | some v => .c v | none => .bot
def ev (sl : Nat → S) : Operand → S
 | .tmp t => sl t
 | .const v => constS v
 | .func f => .c (.fn f [])
 | .global _ => .bot

def takeN {α : Type} : Nat → List α → List α
 | 0, _ => []
 | _ + 1, [] => []
 | n + 1, x :: r => x :: takeN n r
def dropN {α : Type} : Nat → List α → List α
 | 0, l => l
 | _ + 1, [] => []
 | n + 1, _ :: r => dropN n r
def isAggK : TK → Bool
 | .struct _ | .array _ _ => true
 | _ => false
def mkS (ti : TI) (cs : List V) (k : S → Prop) : Prop :=
 bif isAggK ti.kind then (bif Nat.ble ti.size cs.length then k (.agg (takeN ti.size cs)) else False)
 else match cs with | v :: _ => k (.c v) | [] => False
def cellsOf : S → Option (List V)
 | .c v => some [v]
 | .agg cs => some cs
 | _ => none
def putL {α : Type} : Nat → List α → List α → List α
 | _, [], cs => cs
 | _, _, [] => []
 | 0, x :: r, _ :: t => x :: putL 0 r t
 | n + 1, xs, y :: t => y :: putL n xs t

def idsV : V → List Nat
 | .row l | .ptr l _ | .eptr l _ _ _ | .vw l _ _ _ | .mp l | .inn l _ _ | .iptr l _ _ _ _ _ => [l]
 | .fn _ caps => idsVs caps
 | _ => []
where idsVs : List V → List Nat
 | [] => []
 | v :: r => idsV v ++ idsVs r
def idsS : S → List Nat
 | .c v => idsV v
 | .agg cs => idsV.idsVs cs
 | .tup xs => idsSs xs
 | .bot => []
where idsSs : List S → List Nat
 | [] => []
 | v :: r => idsS v ++ idsSs r
def idsO : Option Ob → List Nat
 | some (.box cs _) => idsV.idsVs cs
 | some (.iter l _ _) => [l]
 | some (.pmap _ p _ _) => [p]
 | _ => []
def hasN : List Nat → Nat → Bool
 | [], _ => false
 | x :: r, n => bif Nat.beq x n then true else hasN r n
def clo (h : Nat → Option Ob) : Nat → List Nat → List Nat → List Nat
 | 0, _, acc => acc
 | _ + 1, [], acc => acc
 | n + 1, l :: r, acc => bif hasN acc l then clo h n r acc else clo h n (idsO (h l) ++ r) (acc ++ [l])
def hideP (h : Nat → Option Ob) (l : Nat) : Option Ob := match h l with | some (.pmap _ _ _ _) => none | o => o
def only (h : Nat → Option Ob) (rd : List Nat) (l : Nat) : Option Ob := bif hasN rd l then h l else none

def forceN (n : Nat) (k : Nat → Prop) : Prop :=
 match n with
 | 0 => k 0
 | m + 1 => k (Nat.succ m)
theorem forceN_eq (n : Nat) (k : Nat → Prop) : forceN n k = k n := by cases n <;> rfl
def forceV (v : V) (k : V → Prop) : Prop :=
 match v with
 | .int a b => k (.int a b)
 | .bool b => k (.bool b)
 | .tt => k .tt
 | .ff => k .ff
 | .str s => k (.str s)
 | .nils => k .nils
 | .nilp => k .nilp
 | .nilf => k .nilf
 | .nili => k .nili
 | .nilm => k .nilm
 | .lst a b => k (.lst a b)
 | .cptr a => k (.cptr a)
 | .cmap a => k (.cmap a)
 | .row a => forceN a fun a => k (.row a)
 | .ptr a b => forceN a fun a => forceN b fun b => k (.ptr a b)
 | .eptr a b c d => forceN a fun a => k (.eptr a b c d)
 | .vw a b c d => forceN a fun a => k (.vw a b c d)
 | .mp a => forceN a fun a => k (.mp a)
 | .inn a b c => forceN a fun a => k (.inn a b c)
 | .iptr a b c d e f => forceN a fun a => k (.iptr a b c d e f)
 | .fn a b => k (.fn a b)
 | .bot => k .bot
theorem forceV_eq (v : V) (k : V → Prop) : forceV v k = k v := by cases v <;> simp only [forceV, forceN_eq]
def forceVs : List V → (List V → Prop) → Prop
 | [], k => k []
 | v :: r, k => forceV v fun v => forceVs r fun r => k (v :: r)
theorem forceVs_eq : ∀ (l : List V) (k : List V → Prop), forceVs l k = k l
 | [], _ => rfl
 | v :: r, k => by simp only [forceVs, forceV_eq, forceVs_eq r]
def forceS0 (s : S) (k : S → Prop) : Prop :=
 match s with
 | .c v => forceV v fun v => k (.c v)
 | .agg cs => forceVs cs fun cs => k (.agg cs)
 | .tup xs => k (.tup xs)
 | .bot => k .bot
theorem forceS0_eq (s : S) (k : S → Prop) : forceS0 s k = k s := by cases s <;> simp [forceS0, forceV_eq, forceVs_eq]
def forceS0s : List S → (List S → Prop) → Prop
 | [], k => k []
 | v :: r, k => forceS0 v fun v => forceS0s r fun r => k (v :: r)
theorem forceS0s_eq : ∀ (l : List S) (k : List S → Prop), forceS0s l k = k l
 | [], _ => rfl
 | v :: r, k => by simp only [forceS0s, forceS0_eq, forceS0s_eq r]
def forceS (s : S) (k : S → Prop) : Prop :=
 match s with
 | .c v => forceV v fun v => k (.c v)
 | .agg cs => forceVs cs fun cs => k (.agg cs)
 | .tup xs => forceS0s xs fun xs => k (.tup xs)
 | .bot => k .bot
theorem forceS_eq (s : S) (k : S → Prop) : forceS s k = k s := by cases s <;> simp [forceS, forceV_eq, forceVs_eq, forceS0s_eq]
def forceSs : List S → (List S → Prop) → Prop
 | [], k => k []
 | v :: r, k => forceS v fun v => forceSs r fun r => k (v :: r)
theorem forceSs_eq : ∀ (l : List S) (k : List S → Prop), forceSs l k = k l
 | [], _ => rfl
 | v :: r, k => by simp only [forceSs, forceS_eq, forceSs_eq r]
def forceO (o : Ob) (k : Ob → Prop) : Prop :=
 match o with
 | .box cs t => forceVs cs fun cs => forceN t fun t => k (.box cs t)
 | .row e a b => k (.row e a b)
 | .frow a b => k (.frow a b)
 | .map c a => k (.map c a)
 | .iter l a b => k (.iter l a b)
 | .grid a b c d => k (.grid a b c d)
 | .pmap a b c d => k (.pmap a b c d)
 | .pool a b c => k (.pool a b c)
 | .dead => k .dead
theorem forceO_eq (o : Ob) (k : Ob → Prop) : forceO o k = k o := by cases o <;> simp [forceO, forceVs_eq, forceN_eq]
def forceOs : List Ob → (List Ob → Prop) → Prop
 | [], k => k []
 | v :: r, k => forceO v fun v => forceOs r fun r => k (v :: r)
theorem forceOs_eq : ∀ (l : List Ob) (k : List Ob → Prop), forceOs l k = k l
 | [], _ => rfl
 | v :: r, k => by simp only [forceOs, forceO_eq, forceOs_eq r]
def forceF : List (Nat × S) → (List (Nat × S) → Prop) → Prop
 | [], k => k []
 | (n, v) :: r, k => forceS v fun v => forceF r fun r => k ((n, v) :: r)
theorem forceF_eq : ∀ (l : List (Nat × S)) (k : List (Nat × S) → Prop), forceF l k = k l
 | [], _ => rfl
 | (n, v) :: r, k => by simp only [forceF, forceS_eq, forceF_eq r]
def forceH : List (Nat × Ob) → (List (Nat × Ob) → Prop) → Prop
 | [], k => k []
 | (n, v) :: r, k => forceN n fun n => forceO v fun v => forceH r fun r => k ((n, v) :: r)
theorem forceH_eq : ∀ (l : List (Nat × Ob)) (k : List (Nat × Ob) → Prop), forceH l k = k l
 | [], _ => rfl
 | (n, v) :: r, k => by simp only [forceH, forceN_eq, forceO_eq, forceH_eq r]
def withSt (σ : St) (k : List (Nat × S) → List (Nat × Ob) → Nat → Prop) : Prop := match σ with | ⟨fr, hp, nx⟩ => k fr hp nx
theorem withSt_eq (σ : St) (k : List (Nat × S) → List (Nat × Ob) → Nat → Prop) : withSt σ k = k σ.fr σ.hp σ.nx := rfl
def forceNs : List Nat → (List Nat → Prop) → Prop
 | [], k => k []
 | v :: r, k => forceN v fun v => forceNs r fun r => k (v :: r)
theorem forceNs_eq : ∀ (l : List Nat) (k : List Nat → Prop), forceNs l k = k l
 | [], _ => rfl
 | v :: r, k => by simp only [forceNs, forceN_eq, forceNs_eq r]
def forceF1 : List (Nat × S) → (List (Nat × S) → Prop) → Prop
 | [], k => k []
 | (n, v) :: r, k => forceS v fun v => k ((n, v) :: r)
theorem forceF1_eq : ∀ (l : List (Nat × S)) (k : List (Nat × S) → Prop), forceF1 l k = k l
 | [], _ => rfl
 | (n, v) :: r, k => by simp only [forceF1, forceS_eq]
def forceSt (σ : St) (k : St → Prop) : Prop := withSt σ fun fr hp nx => forceF1 fr fun fr => forceH hp fun hp => forceN nx fun nx => k ⟨fr, hp, nx⟩
theorem forceSt_eq (σ : St) (k : St → Prop) : forceSt σ k = k σ := by simp only [forceSt, withSt_eq, forceF1_eq, forceH_eq, forceN_eq]
def forceStF (σ : St) (k : St → Prop) : Prop := withSt σ fun fr hp nx => forceF fr fun fr => forceH hp fun hp => forceN nx fun nx => k ⟨fr, hp, nx⟩
theorem forceStF_eq (σ : St) (k : St → Prop) : forceStF σ k = k σ := by simp only [forceStF, withSt_eq, forceF_eq, forceH_eq, forceN_eq]

abbrev Ch := List (Nat × Ob)
def chGet : Ch → Nat → Option Ob
 | [], _ => none
 | (k, o) :: r, l => match chGet r l with
  | some o' => some o'
  | none => if k = l then some o else none
def updF (h : Nat → Option Ob) (ch : Ch) (l : Nat) : Option Ob := match chGet ch l with | some o => some o | none => h l

def idx : List Nat → Nat → Option Nat
 | [], _ => none
 | x :: r, n => bif Nat.beq x n then some 0 else match idx r n with | some i => some (i + 1) | none => none
def rnV (g : Nat → Option Nat) : V → (V → Prop) → Prop
 | .row l, k => match g l with | some i => k (.row i) | none => False
 | .ptr l o, k => match g l with | some i => k (.ptr i o) | none => False
 | .eptr l a b c, k => match g l with | some i => k (.eptr i a b c) | none => False
 | .vw l a b c, k => match g l with | some i => k (.vw i a b c) | none => False
 | .mp l, k => match g l with | some i => k (.mp i) | none => False
 | .inn l a b, k => match g l with | some i => k (.inn i a b) | none => False
 | .iptr l a b c d e, k => match g l with | some i => k (.iptr i a b c d e) | none => False
 | .fn f caps, k => rnVs g caps fun caps => k (.fn f caps)
 | .int a b, k => k (.int a b)
 | .bool b, k => k (.bool b)
 | .tt, k => k (.bool true)
 | .ff, k => k (.bool false)
 | .str s, k => k (.str s)
 | .nils, k => k .nils
 | .nilp, k => k .nilp
 | .nilf, k => k .nilf
 | .nili, k => k .nili
 | .nilm, k => k .nilm
 | .lst a b, k => k (.lst a b)
 | .cptr a, k => k (.cptr a)
 | .cmap a, k => k (.cmap a)
 | .bot, k => k .bot
where rnVs (g : Nat → Option Nat) : List V → (List V → Prop) → Prop
 | [], k => k []
 | v :: r, k => rnV g v fun v => rnVs g r fun r => k (v :: r)
def rnS (g : Nat → Option Nat) : S → (S → Prop) → Prop
 | .c v, k => rnV g v fun v => k (.c v)
 | .agg cs, k => rnV.rnVs g cs fun cs => k (.agg cs)
 | .tup xs, k => rnSs g xs fun xs => k (.tup xs)
 | .bot, k => k .bot
where rnSs (g : Nat → Option Nat) : List S → (List S → Prop) → Prop
 | [], k => k []
 | v :: r, k => rnS g v fun v => rnSs g r fun r => k (v :: r)
def rnO (g : Nat → Option Nat) : Ob → (Ob → Prop) → Prop
 | .box cs t, k => rnV.rnVs g cs fun cs => k (.box cs t)
 | .row e a b, k => k (.row e a b)
 | .frow a b, k => k (.frow a b)
 | .map c a, k => k (.map c a)
 | .iter l a b, k => match g l with | some i => k (.iter i a b) | none => False
 | .grid a b c d, k => k (.grid a b c d)
 | .pmap q p c a, k => bif q then False else match g p with | some i => k (.pmap false i c a) | none => False
 | .pool a b c, k => k (.pool a b c)
 | .dead, k => k .dead
def rnOs (g : Nat → Option Nat) : List Ob → (List Ob → Prop) → Prop
 | [], k => k []
 | v :: r, k => rnO g v fun v => rnOs g r fun r => k (v :: r)
def getAll (h : Nat → Option Ob) : List Nat → (List Ob → Prop) → Prop
 | [], k => k []
 | l :: r, k => match h l with | some o => getAll h r fun os => k (o :: os) | none => False
def allLt : List Nat → Nat → Bool
 | [], _ => true
 | x :: r, n => Nat.blt x n && allLt r n
def nodupB : List Nat → Bool
 | [] => true
 | x :: r => !hasN r x && nodupB r
def frz (h : Nat → Option Ob) : List V → (List V → Ch → Prop) → Prop
 | [], k => k [] []
 | v :: r, k => match v with
  | .row l => match h l with
   | some (.row _ sz rows) => frz (updF h [(l, .frow sz rows)]) r fun vs ch => k (.lst sz rows :: vs) ((l, .frow sz rows) :: ch)
   | some (.frow sz rows) => frz h r fun vs ch => k (.lst sz rows :: vs) ch
   | _ => False
  | v => frz h r fun vs ch => k (v :: vs) ch
def frzS (h : Nat → Option Ob) : List S → (List S → Ch → Prop) → Prop
 | [], k => k [] []
 | s :: r, k => match s with
  | .c v => frz h [v] fun vs ch => match vs with | [v] => frzS (updF h ch) r fun ss ch2 => k (.c v :: ss) (ch ++ ch2) | _ => False
  | .agg cs => frz h cs fun vs ch => frzS (updF h ch) r fun ss ch2 => k (.agg vs :: ss) (ch ++ ch2)
  | s => frzS h r fun ss ch2 => k (s :: ss) ch2
def back (ids : List Nat) (m id : Nat) (i : Nat) : Option Nat :=
 bif Nat.blt i m then nth ids i else bif Nat.blt (i - m) 16 then some (id + (i - m)) else none
def zipCh : Nat → (Nat → Option Nat) → List Ob → (Ch → Prop) → Prop
 | _, _, [], k => k []
 | i, g, o :: r, k => match g i with | some l => zipCh (i + 1) g r fun ch => k ((l, o) :: ch) | none => False
def sub {α : Type} (l : List α) (a b : Nat) : List α := (l.drop a).take (b - a)
def rowsOf (h : Nat → Option Ob) (size : Nat) (v : S) (k : List (List V) → Prop) : Prop :=
 match v with
 | .c (.lst sz rows) => bif Nat.beq sz size then k rows else False
 | .c .nils => k []
 | .c (.row l) => match h l with
  | some (.row _ sz rows) => bif Nat.beq sz size then k rows else False
  | some (.frow sz rows) => bif Nat.beq sz size then k rows else False
  | _ => False
 | .c (.vw l sz' o n) => match h l with
  | some (.row _ sz rows) => bif Nat.beq sz size && Nat.beq sz' size then k (sub rows o (o + n)) else False
  | _ => False
 | _ => False
def lenOf (h : Nat → Option Ob) (kd : TK) (v : S) (k : Int → Prop) : Prop :=
 match kd with
 | .slice _ => match v with
  | .c (.lst _ rows) => k rows.length
  | .c .nils => k 0
  | .c (.row l) => match h l with
   | some (.row _ _ rows) => k rows.length
   | some (.frow _ rows) => k rows.length
   | some (.grid _ _ _ ins) => k ins.length
   | _ => False
  | .c (.vw _ _ _ n) => k n
  | .c (.inn l i c) => match h l with
   | some (.grid _ _ _ ins) => GridG ins i c fun rows => k rows.length
   | _ => False
  | _ => False
 | .string => match v with
  | .c (.str s) => k s.size
  | _ => False
 | .map _ _ => match v with
  | .c .nilm => k 0
  | .c (.mp l) => match h l with
   | some (.map _ es) => k es.length
   | _ => False
  | _ => False
 | _ => False
def fz (h : Nat → Option Ob) : List V → (List V → Ch → Prop) → Prop
 | [], k => k [] []
 | v :: r, k => match v with
  | .int a b => fz h r fun vs ch => k (.int a b :: vs) ch
  | .bool b => fz h r fun vs ch => k (.bool b :: vs) ch
  | .tt => fz h r fun vs ch => k (.bool true :: vs) ch
  | .ff => fz h r fun vs ch => k (.bool false :: vs) ch
  | .str s => fz h r fun vs ch => k (.str s :: vs) ch
  | .nils => fz h r fun vs ch => k (.nils :: vs) ch
  | .nilp => fz h r fun vs ch => k (.nilp :: vs) ch
  | .nilf => fz h r fun vs ch => k (.nilf :: vs) ch
  | .nili => fz h r fun vs ch => k (.nili :: vs) ch
  | .nilm => fz h r fun vs ch => k (.nilm :: vs) ch
  | .lst a b => fz h r fun vs ch => k (.lst a b :: vs) ch
  | .cptr a => fz h r fun vs ch => k (.cptr a :: vs) ch
  | .cmap a => fz h r fun vs ch => k (.cmap a :: vs) ch
  | .row l => match h l with
   | some (.row _ sz rows) => fz (updF h [(l, .frow sz rows)]) r fun vs ch => k (.lst sz rows :: vs) ((l, .frow sz rows) :: ch)
   | some (.frow sz rows) => fz h r fun vs ch => k (.lst sz rows :: vs) ch
   | _ => False
  | _ => False

def beqK : IntKind → IntKind → Bool
 | .i8, .i8 | .i16, .i16 | .i32, .i32 | .i64, .i64 | .u8, .u8 | .u16, .u16 | .u32, .u32 | .u64, .u64 => true
 | _, _ => false
def bin (op : BinOp) (a b : S) (k : S → Prop) : Prop :=
 match a, b with
 | .c (.int ka x), .c (.int kb y) => bif beqK ka kb then (match op with
  | .add => k (.c (.int ka (ka.wrap (x + y))))
  | .sub => k (.c (.int ka (ka.wrap (x - y))))
  | .mul => k (.c (.int ka (ka.wrap (x * y))))
  | .quo => Ask (y ≠ 0) <| k (.c (.int ka (ka.wrap (x.tdiv y))))
  | .rem => Ask (y ≠ 0) <| k (.c (.int ka (x.tmod y)))
  | .lss => k (.c (.bool (decide (x < y))))
  | .gtr => k (.c (.bool (decide (y < x))))
  | .leq => k (.c (.bool (decide (x ≤ y))))
  | .geq => k (.c (.bool (decide (y ≤ x))))
  | .eql => k (.c (.bool (x == y)))
  | .neq => k (.c (.bool (x != y)))
  | _ => False) else False
 | .c (.str x), .c (.str y) => match op with
  | .add => Ask (x.size + y.size ≤ 9223372036854775807) <| k (.c (.str (x ++ y)))
  | .eql => k (.c (.bool (x.toList == y.toList)))
  | .neq => k (.c (.bool (!(x.toList == y.toList))))
  | .lss => k (.c (.bool (Op.bytesLess x.toList y.toList)))
  | .leq => k (.c (.bool (Op.bytesLess x.toList y.toList || x.toList == y.toList)))
  | .gtr => k (.c (.bool (!(Op.bytesLess x.toList y.toList || x.toList == y.toList))))
  | .geq => k (.c (.bool (!Op.bytesLess x.toList y.toList)))
  | _ => False
 | _, _ => False

def boolC : V → Option Bool
 | .tt => some true
 | .ff => some false
 | .bool b => some b
 | _ => none
def eqFs (T : List (Nat × TI)) (f : Nat → List V → List V → Option Bool) : List (Nat × Nat) → List V → List V → Option Bool
 | [], _, _ => some true
 | (o, t) :: r, xs, ys => match getA T t with
  | some fi => match f t (takeN fi.size (dropN o xs)) (takeN fi.size (dropN o ys)) with
   | some b => match r with
    | [] => some b
    | _ => match eqFs T f r xs ys with | some c => some (b && c) | none => none
   | none => none
  | none => none
def eqW (T : List (Nat × TI)) : Nat → Nat → List V → List V → Option Bool
 | 0, _, _, _ => none
 | n + 1, t, xs, ys => match getA T t with
  | some ti => match ti.kind with
   | .int _ => match xs with
    | [.int ka a] => match ys with
     | [.int kb b] => bif beqK ka kb then some (a == b) else none
     | _ => none
    | _ => none
   | .bool => match xs with
    | [x] => match ys with
     | [y] => match boolC x with
      | some a => match boolC y with | some b => some (a == b) | none => none
      | none => none
     | _ => none
    | _ => none
   | .string => match xs with
    | [.str a] => match ys with
     | [.str b] => some (a.toList == b.toList)
     | _ => none
    | _ => none
   | .struct fs => bif ti.eq && (Nat.beq xs.length ti.size && Nat.beq ys.length ti.size) then eqFs T (eqW T n) fs xs ys else none
   | _ => none
  | none => none

section
variable (T : List (Nat × TI)) (mt : List Nat) (PC : Nat → List S → List Ob → (S → List Ob → Prop) → Prop)

def kindOf (ts : Array Nat) (k : TK → Prop) : Prop :=
 match nth ts.toList 0 with
 | some t => match getA T t with | some ti => k ti.kind | none => False
 | none => False
def isEq : BinOp → Bool
 | .eql | .neq => true
 | _ => false
def eqRes (op : BinOp) (b : Bool) : Bool :=
 match op with
 | .neq => !b
 | _ => b
def isBase : S → Bool
 | .c (.int _ _) => true
 | .c (.str _) => true
 | _ => false
def cellsT (t : Nat) : S → Option (List V)
 | .agg cs => match getA T t with | some ti => bif isAggK ti.kind then some cs else none | none => none
 | .c v => match getA T t with | some ti => bif isAggK ti.kind then none else some [v] | none => none
 | _ => none
def isShift : BinOp → Bool
 | .shl | .shr => true
 | _ => false
def isBits : BinOp → Bool
 | .and | .or | .xor | .andNot => true
 | _ => false
def bitsV (op : BinOp) (k : IntKind) (x y : Int) : Int :=
 match op with
 | .and => k.wrap (BitVec.ofInt k.bits x &&& BitVec.ofInt k.bits y).toNat
 | .or => k.wrap (BitVec.ofInt k.bits x ||| BitVec.ofInt k.bits y).toNat
 | .xor => k.wrap (BitVec.ofInt k.bits x ^^^ BitVec.ofInt k.bits y).toNat
 | _ => k.wrap (BitVec.ofInt k.bits x &&& ~~~BitVec.ofInt k.bits y).toNat
def shV (op : BinOp) (k : IntKind) (x y : Int) : Int :=
 match op with
 | .shl => k.wrap (x * 2 ^ (min y.toNat k.bits))
 | _ => x.fdiv (2 ^ (min y.toNat k.bits))
def aBits (op : BinOp) (x y : S) (k : S → Prop) : Prop :=
 match x, y with
 | .c (.int ka a), .c (.int kb b) => bif beqK ka kb then k (.c (.int ka (bitsV op ka a b))) else False
 | _, _ => False
def aShift (op : BinOp) (x y : S) (k : S → Prop) : Prop :=
 match x, y with
 | .c (.int ka a), .c (.int _ b) => Ask (0 ≤ b) <| k (.c (.int ka (shV op ka a b)))
 | _, _ => False
def aBin (op : BinOp) (t : Nat) (x y : S) (k : S → Prop) : Prop :=
 bif isShift op then aShift op x y k else bif isBits op then aBits op x y k else
 bif isEq op && !isBase x then (match cellsT T t x with
  | some xs => match cellsT T t y with
   | some ys => match eqW T 6 t xs ys with
    | some b => k (.c (.bool (eqRes op b)))
    | none => False
   | none => False
  | none => False) else bin op x y k
def isNilC : Operand → Bool
 | .const .nilIface => true
 | _ => false
def aIfc (t : Nat) (op : BinOp) (x : S) (k : S → Prop) : Prop :=
 match getA T t with
 | some ti => match ti.kind with
  | .iface => match x with
   | .c .nili => k (.c (.bool (eqRes op true)))
   | _ => False
  | _ => False
 | none => False
def aBinC (op : BinOp) (t : Nat) (y2 : Operand) (x y : S) (k : S → Prop) : Prop :=
 bif isEq op && isNilC y2 then aIfc T t op x k else aBin T op t x y k
def withT2 (t : Nat) (k : TI → Prop) : Prop := match getA T t with | some ti => k ti | none => False
def elemTIe (t : Nat) (k : Nat → TI → Prop) : Prop :=
 match getA T t with
 | some ti => match ti.kind with
  | .slice e => match getA T e with | some ei => bif Nat.blt 0 ei.size then k e ei else False | none => False
  | _ => False
 | none => False
def arrTI (t : Nat) (k : Nat → TI → Prop) : Prop :=
 match getA T t with
 | some ti => match ti.kind with
  | .array n e => match getA T e with | some ei => k n ei | none => False
  | _ => False
 | none => False
def elemTI (t : Nat) (k : TI → Prop) : Prop :=
 match getA T t with
 | some ti => match ti.kind with
  | .slice e => match getA T e with | some ei => k ei | none => False
  | _ => False
 | none => False

def callOn (G : ((S → List Ob → Prop) → Prop) → (S → List Ob → Prop) → Prop) (h : Nat → Option Ob) (id : Nat) (g : Nat) (as : List S) (k : S → Ch → Prop) : Prop :=
 forceNs (clo h 30 (idsS.idsSs as) []) fun ids => bif nodupB ids && allLt ids id then
  getAll h ids fun os => rnS.rnSs (idx ids) as fun as => rnOs (idx ids) os fun os =>
   G (PC g as os) fun r os' => rnS (back ids ids.length id) r fun r => rnOs (back ids ids.length id) os' fun os' => zipCh 0 (back ids ids.length id) os' fun ch => k r ch
  else False
def call (G : ((S → List Ob → Prop) → Prop) → (S → List Ob → Prop) → Prop) (h : Nat → Option Ob) (id : Nat) (g : Nat) (as : List S) (k : S → Ch → Prop) : Prop :=
 bif hasN mt g then callOn PC G h id g as k
 else frzS h as fun as ch => callOn PC G (updF h ch) id g as fun r ch2 => k r (ch ++ ch2)

def keyB : V → V → Option Bool
 | .int ka a, .int kb b => bif beqK ka kb then some (a == b) else none
 | .str a, .str b => some (a.toList == b.toList)
 | _, _ => none
def keyE : S → S → Option Bool
 | .c x, .c y => keyB x y
 | _, _ => none
def keyE2 (T : List (Nat × TI)) (kt : Nat) : S → S → Option Bool
 | .c x, .c y => keyB x y
 | .agg xs, .agg ys => eqW T 6 kt xs ys
 | _, _ => none
def leafV : V → Bool
 | .int _ _ | .bool _ | .str _ => true
 | _ => false
def leafVs : List V → Bool
 | [] => true
 | v :: r => bif leafV v then leafVs r else false
def findM (eq : S → S → Option Bool) (key : S) : Ents → Nat → Found
 | [], _ => some none
 | e :: r, i => match eq key e.2.1 with
  | some true => some (some (i, e.1, e.2.2))
  | some false => findM eq key r (i + 1)
  | none => none
def sameC : V → V → Prop
 | .int ka a, .int kb b => ka = kb ∧ a = b
 | .str a, .str b => a = b
 | .bool a, .bool b => a = b
 | _, _ => False
def sameCs : List V → List V → Prop
 | [], [] => True
 | x :: r, y :: t => sameC x y ∧ sameCs r t
 | _, _ => False
def sameK : S → S → Prop
 | .c x, .c y => sameC x y
 | .agg xs, .agg ys => sameCs xs ys
 | _, _ => False
def sameAt (es : Ents) (key : S) (i : Nat) : Prop := ∃ e, es[i]? = some e ∧ sameK e.2.1 key
def zeroS (ti : TI) (k : S → Prop) : Prop := mkS ti ti.zero k
def mapT (t : Nat) (k : Nat → TI → Prop) : Prop :=
 match getA T t with
 | some ti => match ti.kind with
  | .map kt e => match getA T e with | some ei => k kt ei | none => False
  | _ => False
 | none => False
def keyFits (t : Nat) (key : S) (k : Prop) : Prop :=
 match getA T t with
 | some ti => match ti.kind with
  | .int q => match key with | .c (.int ka _) => bif beqK q ka then k else False | _ => False
  | .string => match key with | .c (.str _) => k | _ => False
  | .struct _ => match key with | .agg cs => (bif leafVs cs then (match eqW T 6 t cs cs with | some _ => k | none => False) else False) | _ => False
  | _ => False
 | none => False
def fzS (h : Nat → Option Ob) (s : S) (k : S → Ch → Prop) : Prop :=
 match s with
 | .c v => fz h [v] fun vs ch => match vs with | [v] => k (.c v) ch | _ => False
 | .agg vs => fz h vs fun vs ch => k (.agg vs) ch
 | _ => False
def aLookup (h : Nat → Option Ob) (kt : Nat) (ei : TI) (m key : S) (ok : Bool) (k : S → Ch → Prop) : Prop :=
 keyFits T kt key <| match m with
 | .c (.mp l) => match h l with
  | some (.map _ es) => zeroS ei fun z => LookG (findM (keyE2 T kt) key es 0) z fun v b => k (bif ok then .tup [v, .c (.bool b)] else v) []
  | some (.pmap _ _ _ es) => zeroS ei fun z => LookG (findM (keyE2 T kt) key es 0) z fun v b => k (bif ok then .tup [v, .c (.bool b)] else v) []
  | _ => False
 | .c .nilm => zeroS ei fun z => k (bif ok then .tup [z, .c .ff] else z) []
 | _ => False
def aMapUpdate (h : Nat → Option Ob) (kt : Nat) (m key v : S) (k : S → Ch → Prop) : Prop :=
 keyFits T kt key <| match m with
 | .c (.mp l) => match h l with
  | some (.map clock es) => fzS (fun l' => bif Nat.beq l' l then none else h l') v fun v ch => UpdG (findM (keyE2 T kt) key es 0) (sameAt es key) clock es key v fun clock' es' => k .bot (ch ++ [(l, .map clock' es')])
  | some (.pmap _ p clock es) => match v with
   | .c (.row q) => UpdG (findM (keyE2 T kt) key es 0) (sameAt es key) clock es key (.c (.row q)) fun clock' es' => k .bot [(l, .pmap true p clock' es')]
   | _ => False
  | _ => False
 | _ => False
def aMapEntry (h : Nat → Option Ob) (kt : Nat) (ei : TI) (m key : S) (k : S → Ch → Prop) : Prop :=
 keyFits T kt key <| match m with
 | .c (.mp l) => match h l with
  | some (.map clock es) => zeroS ei fun z => EntG (findM (keyE2 T kt) key es 0) (sameAt es key) clock es key z fun v n clock' es' => k (.tup [v, .c (.int .i64 n)]) [(l, .map clock' es')]
  | some (.pmap _ p clock es) => zeroS ei fun z => EntG (findM (keyE2 T kt) key es 0) (sameAt es key) clock es key z fun v n clock' es' => k (.tup [v, .c (.int .i64 n)]) [(l, .pmap true p clock' es')]
  | _ => False
 | _ => False
def aEntryStore (h : Nat → Option Ob) (m s v : S) (k : S → Ch → Prop) : Prop :=
 match s with
 | .c (.int _ s) => match m with
  | .c (.mp l) => match h l with
   | some (.map clock es) => fzS (fun l' => bif Nat.beq l' l then none else h l') v fun v ch => StampG es s v fun es' => k .bot (ch ++ [(l, .map clock es')])
   | some (.pmap _ p clock es) => match v with
    | .c (.row q) => StampG es s (.c (.row q)) fun es' => k .bot [(l, .pmap true p clock es')]
    | _ => False
   | _ => False
  | _ => False
 | _ => False
def aDelete (h : Nat → Option Ob) (kt : Nat) (m key : S) (k : S → Ch → Prop) : Prop :=
 keyFits T kt key <| match m with
 | .c (.mp l) => match h l with
  | some (.map clock es) => DelG (findM (keyE2 T kt) key es 0) es fun es' => k .bot [(l, .map clock es')]
  | _ => False
 | _ => False
def aRange (h : Nat → Option Ob) (id : Nat) (m : S) (k : S → Ch → Prop) : Prop :=
 match m with
 | .c (.mp l) => match h l with
  | some (.map clock _) => k (.c (.ptr id 0)) [(id, .iter l clock [])]
  | _ => False
 | _ => False
def aNext (h : Nat → Option Ob) (it : S) (k : S → Ch → Prop) : Prop :=
 match it with
 | .c (.ptr j o) => bif Nat.beq o 0 then (match h j with
  | some (.iter l since seen) => match h l with
   | some (.map clock es) => Ask (clock = since) <| NextG (unseen seen es) (k (.tup [.c .ff]) []) fun n key v => k (.tup [.c .tt, key, v]) [(j, .iter l since (n :: seen))]
   | _ => False
  | _ => False) else False
 | _ => False
def aEntry (h : Nat → Option Ob) (it : S) (k : S → Ch → Prop) : Prop :=
 match it with
 | .c (.ptr j o) => bif Nat.beq o 0 then (match h j with
  | some (.iter l since seen) => match seen with
   | n :: _ => match h l with
    | some (.map clock es) => Ask (clock = since) <| EntryG es n fun key v => k (.tup [key, v]) []
    | _ => False
   | [] => False
  | _ => False) else False
 | _ => False

def boolV : S → Option Bool
 | .c .tt => some true
 | .c .ff => some false
 | .c (.bool b) => some b
 | _ => none
def aPick (c a b : S) (k : S → Ch → Prop) : Prop :=
 match c with
 | .c .tt => k a []
 | .c .ff => k b []
 | .c (.bool x) => match boolV a with
  | some y => match boolV b with
   | some z => k (.c (.bool (bif x then y else z))) []
   | none => False
  | none => False
 | _ => False
def aUn (op : UnOp) (x : S) (k : S → Ch → Prop) : Prop :=
 match op, x with
 | .not, .c (.bool b) => k (.c (.bool (!b))) []
 | .not, .c .tt => k (.c .ff) []
 | .not, .c .ff => k (.c .tt) []
 | .neg, .c (.int ka n) => k (.c (.int ka (ka.wrap (0 - n)))) []
 | _, _ => False
def boxT (t : Nat) (zero : List V) : Nat :=
 match zero with
 | [.nilp, .nils] => t + 1
 | _ => 0
def aBox (id : Nat) (v : S) (k : S → Ch → Prop) : Prop :=
 match cellsOf v with | some cs => k (.c (.ptr id 0)) [(id, .box cs)] | none => False
def aFieldAddr (ti : TI) (f : Nat) (x : S) (k : S → Ch → Prop) : Prop :=
 match ti.kind with
 | .struct fs => match nth fs f with
  | some fo => match x with
   | .c (.ptr l o) => k (.c (.ptr l (o + fo.1))) []
   | .c (.cptr cs) => k (.c (.cptr (dropN fo.1 cs))) []
   | .c (.eptr l sz i o) => k (.c (.eptr l sz i (o + fo.1))) []
   | .c (.iptr l i sz j o c) => k (.c (.iptr l i sz j (o + fo.1) c)) []
   | _ => False
  | none => False
 | _ => False
def aLoad (h : Nat → Option Ob) (ti : TI) (a : S) (k : S → Ch → Prop) : Prop :=
 match a with
 | .c (.ptr l o) => match h l with
  | some (.box cs _) => mkS ti (dropN o cs) fun v => k v []
  | _ => False
 | .c (.cptr cs) => mkS ti cs fun v => k v []
 | .c (.eptr l sz i o) => match h l with
  | some (.row _ sz' rows) => bif Nat.beq sz' sz then RowG rows i fun cs => mkS ti (dropN o cs) fun v => k v [] else False
  | some (.grid _ _ _ ins) => bif Nat.beq sz 1 && (Nat.beq o 0 && !isAggK ti.kind) then GridL ins i fun c => k (.c (.inn l i c)) [] else False
  | _ => False
 | .c (.iptr l i sz j o c) => match h l with
  | some (.grid _ _ sz' ins) => bif Nat.beq sz' sz then GridG ins i c fun rows => RowG rows j fun cs => mkS ti (dropN o cs) fun v => k v [] else False
  | _ => False
 | _ => False
def aStore (h : Nat → Option Ob) (ti : TI) (a v : S) (k : S → Ch → Prop) : Prop :=
 match a with
 | .c (.ptr l o) => match h l with
  | some (.box cs t) => match cellsOf v with
   | some vs => bif Nat.beq vs.length ti.size && Nat.ble (o + vs.length) cs.length then k .bot [(l, .box (putL o vs cs) t)] else False
   | none => False
  | _ => False
 | .c (.eptr l sz i o) => match h l with
  | some (.row e sz' rows) => bif Nat.beq sz' sz then match cellsOf v with
   | some vs => RowG rows i fun cs => (bif Nat.beq vs.length ti.size && Nat.ble (o + vs.length) sz then fz (fun l' => bif Nat.beq l' l then none else h l') vs fun vs ch => k .bot (ch ++ [(l, .row e sz (rows.set i (putL o vs cs)))]) else False)
   | none => False else False
  | _ => False
 | .c (.iptr l i sz j o c) => match h l with
  | some (.grid e e2 sz' ins) => bif Nat.beq sz' sz then match cellsOf v with
   | some vs => GridG ins i c fun rows => RowG rows j fun cs => (bif Nat.beq vs.length ti.size && Nat.ble (o + vs.length) sz then fz (fun l' => bif Nat.beq l' l then none else h l') vs fun vs ch => k .bot (ch ++ [(l, .grid e e2 sz (ins.set i (c, rows.set j (putL o vs cs))))]) else False)
   | none => False else False
  | _ => False
 | _ => False
def aIndexAddr (h : Nat → Option Ob) (ei : TI) (x i : S) (k : S → Ch → Prop) : Prop :=
 match i with
 | .c (.int _ i) => match x with
  | .c (.lst sz rows) => bif Nat.beq sz ei.size then IdxG rows i fun cs => k (.c (.cptr cs)) [] else False
  | .c (.row l) => match h l with
   | some (.row _ sz rows) => bif Nat.beq sz ei.size then Ask (0 ≤ i ∧ i < (rows.length : Int)) <| k (.c (.eptr l sz i.toNat 0)) [] else False
   | some (.frow sz rows) => bif Nat.beq sz ei.size then IdxG rows i fun cs => k (.c (.cptr cs)) [] else False
   | some (.grid _ _ _ ins) => bif Nat.beq ei.size 1 then Ask (0 ≤ i ∧ i < (ins.length : Int)) <| k (.c (.eptr l 1 i.toNat 0)) [] else False
   | _ => False
  | .c (.vw l sz' o n) => match h l with
   | some (.row _ sz _) => bif Nat.beq sz ei.size && Nat.beq sz' ei.size then Ask (0 ≤ i ∧ i < (n : Int)) <| k (.c (.eptr l sz (o + i.toNat) 0)) [] else False
   | _ => False
  | .c (.inn l q c) => match h l with
   | some (.grid _ _ sz ins) => bif Nat.beq sz ei.size then GridG ins q c fun rows => Ask (0 ≤ i ∧ i < (rows.length : Int)) <| k (.c (.iptr l q sz i.toNat 0 c)) [] else False
   | _ => False
  | _ => False
 | _ => False
def aIdxArr (l off n : Nat) (ei : TI) (i : S) (k : S → Ch → Prop) : Prop :=
 match i with
 | .c (.int _ i) => Ask (0 ≤ i ∧ i < (n : Int)) <| k (.c (.ptr l (off + i.toNat * ei.size))) []
 | _ => False
def aIndexAt (h : Nat → Option Ob) (t : Nat) (x i : S) (k : S → Ch → Prop) : Prop :=
 match x with
 | .c (.ptr l off) => arrTI T t fun n ei => aIdxArr l off n ei i k
 | x => elemTI T t fun ei => aIndexAddr h ei x i k
def roomOK (ti : TI) (n : Nat) : Prop := n ≤ 1000000000 ∧ n * ti.bytes ≤ 140737488355328
def aAppend (h : Nat → Option Ob) (id e : Nat) (ei : TI) (x y : S) (k : S → Ch → Prop) : Prop :=
 rowsOf h ei.size y fun ys => match x with
  | .c .nils => Ask (roomOK ei ys.length) <| k (.c (.row id)) [(id, .row e ei.size ys)]
  | .c (.row l) => match h l with
   | some (.row e' sz rows) => bif Nat.beq e' e && Nat.beq sz ei.size then AppG (roomOK ei (rows.length + ys.length)) (k (.c (.row id)) [(l, .dead), (id, .row e ei.size (rows ++ ys))]) (k (.c (.row id)) [(l, .frow ei.size rows), (id, .frow ei.size (rows ++ ys))]) else False
   | _ => False
  | _ => False
def aExtract (v : S) (i : Nat) (k : S → Ch → Prop) : Prop :=
 match v with
 | .tup xs => match nth xs i with | some x => k x [] | none => False
 | _ => False
def putParts (places : Nat → Option (Nat × Nat)) : List (Nat × S) → List V → (List V → Prop) → Prop
 | [], cs, k => k cs
 | (i, v) :: r, cs, k => match places i with
  | some p => match cellsOf v with
   | some vs => bif Nat.beq vs.length p.2 && Nat.ble (p.1 + vs.length) cs.length then putParts places r (putL p.1 vs cs) k else False
   | none => False
  | none => False
def zipN : List Nat → List S → List (Nat × S)
 | i :: r, v :: q => (i, v) :: zipN r q
 | _, _ => []
def placesOf (ti : TI) (i : Nat) : Option (Nat × Nat) :=
 match ti.kind with
 | .struct fs => match nth fs i with
  | some f => match getA T f.2 with | some fi => some (f.1, fi.size) | none => none
  | none => none
 | _ => none
def aBuild (ti : TI) (is : List Nat) (vs : List S) (k : S → Ch → Prop) : Prop :=
 match ti.kind with
 | .struct _ => putParts (placesOf T ti) (zipN is vs) ti.zero fun cs => k (.agg cs) []
 | .array _ e => withT2 T e fun ei => putParts (fun i => some (i * ei.size, ei.size)) (zipN is vs) ti.zero fun cs => k (.agg cs) []
 | _ => False
def elemsOf (size : Nat) : List S → (List V → List (List V) → Prop) → Prop
 | [], k => k [] []
 | v :: r, k => match cellsOf v with
  | some vs => bif Nat.beq vs.length size then elemsOf size r fun cs rows => k (vs ++ cs) (vs :: rows) else False
  | none => False
def isCount : Nat → List Nat → Bool
 | _, [] => true
 | i, x :: r => Nat.beq x i && isCount (i + 1) r
def cutRows (size : Nat) : List V → List (List V) → List (List V)
 | _, [] => []
 | cs, _ :: r => takeN size cs :: cutRows size (dropN size cs) r
def aBuildSlice (h : Nat → Option Ob) (id e : Nat) (ei : TI) (len : Nat) (is : List Nat) (vs : List S) (k : S → Ch → Prop) : Prop :=
 bif isCount 0 is && (Nat.beq is.length len && (Nat.beq vs.length len && Nat.ble (len * ei.size) 1000)) then
  elemsOf ei.size vs fun cs rows => fz h cs fun cs ch => k (.c (.row id)) (ch ++ [(id, .row e ei.size (cutRows ei.size cs rows))])
 else False
def aField (ti : TI) (f : Nat) (x : S) (k : S → Ch → Prop) : Prop :=
 match ti.kind with
 | .struct fs => match nth fs f with
  | some fo => match x with
   | .agg cs => withT2 T fo.2 fun fi => mkS fi (dropN fo.1 cs) fun v => k v []
   | _ => False
  | none => False
 | _ => False
def byteAt (s : ByteArray) (i : Nat) : Int := ((s.data.getD i 0).toNat : Int)
def aIndex (ti : TI) (x i : S) (k : S → Ch → Prop) : Prop :=
 match i with
 | .c (.int _ i) => match ti.kind with
  | .string => match x with
   | .c (.str s) => Ask (0 ≤ i ∧ i < (s.size : Int)) <| k (.c (.int .u8 (byteAt s i.toNat))) []
   | _ => False
  | .array n e => match x with
   | .agg cs => Ask (0 ≤ i ∧ i < (n : Int)) <| withT2 T e fun ei => mkS ei (dropN (i.toNat * ei.size) cs) fun v => k v []
   | _ => False
  | _ => False
 | _ => False
def bounds (n : Nat) (lo hi : Option S) (k : Nat → Nat → Prop) : Prop :=
 match lo, hi with
 | none, none => k 0 n
 | some (.c (.int _ a)), none => Ask (0 ≤ a ∧ a ≤ (n : Int)) <| k a.toNat n
 | none, some (.c (.int _ b)) => Ask (0 ≤ b ∧ b ≤ (n : Int)) <| k 0 b.toNat
 | some (.c (.int _ a)), some (.c (.int _ b)) => Ask (0 ≤ a ∧ a ≤ b ∧ b ≤ (n : Int)) <| k a.toNat b.toNat
 | _, _ => False
def bounds2 (n m : Nat) (lo hi : Option S) (k : Nat → Nat → Prop) : Prop :=
 match lo, hi with
 | none, none => k 0 n
 | some (.c (.int _ a)), none => Ask (0 ≤ a ∧ a ≤ (n : Int)) <| k a.toNat n
 | none, some (.c (.int _ b)) => Ask (0 ≤ b ∧ b ≤ (m : Int)) <| k 0 b.toNat
 | some (.c (.int _ a)), some (.c (.int _ b)) => Ask (0 ≤ a ∧ a ≤ b ∧ b ≤ (m : Int)) <| k a.toNat b.toNat
 | _, _ => False
def aSlice (h : Nat → Option Ob) (id : Nat) (kd : TK) (x : S) (lo hi : Option S) (k : S → Ch → Prop) : Prop :=
 match kd with
 | .string => match x with
  | .c (.str s) => bounds s.size lo hi fun a b => k (.c (.str (s.extract a b))) []
  | _ => False
 | .slice e => withT2 T e fun ei => match x with
  | .c (.lst sz rows) => bif Nat.beq sz ei.size then bounds rows.length lo hi fun a b => k (.c (.lst sz (sub rows a b))) [] else False
  | .c (.row l) => match h l with
   | some (.row e' sz rows) => bif Nat.beq sz ei.size then bounds rows.length lo hi fun a b => SliceG (k (.c (.lst sz (sub rows a b))) [(l, .frow sz rows)]) (k (.c (.vw l sz a (b - a))) []) (a = 0 ∧ k (.c (.row id)) [(l, .dead), (id, .row e' sz (rows.take b))]) else False
   | some (.frow sz rows) => bif Nat.beq sz ei.size then bounds rows.length lo hi fun a b => k (.c (.lst sz (sub rows a b))) [] else False
   | _ => False
  | .c .nils => bounds 0 lo hi fun _ _ => k (.c .nils) []
  | .c (.vw l sz' o n) => match h l with
   | some (.row _ sz rows) => bif Nat.beq sz ei.size && Nat.beq sz' ei.size then bounds2 n (rows.length - o) lo hi fun a b => k (.c (.vw l sz' (o + a) (b - a))) [] else False
   | _ => False
  | _ => False
 | _ => False
def overR (rows nr : List (List V)) (o : Nat) : List (List V) := rows.take o ++ nr ++ rows.drop (o + nr.length)
def aClear (h : Nat → Option Ob) (ei : TI) (x : S) (k : S → Ch → Prop) : Prop :=
 match x with
 | .c .nils => k .bot []
 | .c (.row l) => match h l with
  | some (.row e sz rows) => bif Nat.beq sz ei.size then k .bot [(l, .row e sz (overR rows (List.replicate rows.length ei.zero) 0))] else False
  | _ => False
 | .c (.vw l sz' o n) => match h l with
  | some (.row e sz rows) => bif Nat.beq sz ei.size && Nat.beq sz' ei.size then k .bot [(l, .row e sz (overR rows (List.replicate n ei.zero) o))] else False
  | _ => False
 | _ => False
def aCopy (h : Nat → Option Ob) (ei : TI) (x y : S) (k : S → Ch → Prop) : Prop :=
 rowsOf h ei.size y fun ys => match x with
 | .c .nils => k (.c (.int .i64 0)) []
 | .c (.row l) => match h l with
  | some (.row e sz rows) => bif Nat.beq sz ei.size then k (.c (.int .i64 ((min ys.length rows.length : Nat) : Int))) [(l, .row e sz (overR rows (ys.take rows.length) 0))] else False
  | _ => False
 | .c (.vw l sz' o n) => match h l with
  | some (.row e sz rows) => bif Nat.beq sz ei.size && Nat.beq sz' ei.size then k (.c (.int .i64 ((min ys.length n : Nat) : Int))) [(l, .row e sz (overR rows (ys.take n) o))] else False
  | _ => False
 | _ => False
def aSlice0 (h : Nat → Option Ob) (id e : Nat) (ei : TI) (x hi mx : S) (k : S → Ch → Prop) : Prop :=
 match hi, mx with
 | .c (.int _ n), .c (.int _ m) => (fun fin : Nat → Prop => match n, m with
  | 0, 0 => (match x with
   | .c .nils => k (.c .nils) []
   | .c (.lst sz _) => fin sz
   | .c (.row l) => match h l with
    | some (.row _ sz _) => fin sz
    | some (.frow sz _) => fin sz
    | _ => False
   | _ => False)
  | _, _ => False) fun sz => bif Nat.beq sz ei.size then k (.c (.row id)) [(id, .row e ei.size [])] else False
 | _, _ => False
def aSlice3 (h : Nat → Option Ob) (ei : TI) (x lo hi mx : S) (k : S → Ch → Prop) : Prop :=
 match lo with
 | .c (.int _ a) => match hi with
  | .c (.int _ b) => match mx with
   | .c (.int _ m) => match x with
    | .c (.row l) => match h l with
     | some (.row _ sz rows) => bif Nat.beq sz ei.size then Ask (0 ≤ a ∧ a ≤ b ∧ b ≤ m ∧ m ≤ (rows.length : Int)) <| k .bot [] else False
     | _ => False
    | _ => False
   | _ => False
  | _ => False
 | _ => False
def aAppendV (h : Nat → Option Ob) (id e : Nat) (ei : TI) (x y : S) (k : S → Ch → Prop) : Prop :=
 match x with
 | .c (.vw l sz' o n) => rowsOf h ei.size y fun ys => match h l with
  | some (.row e' sz rows) => bif Nat.beq sz ei.size && Nat.beq sz' ei.size then Ask (o + n + ys.length ≤ rows.length) <| k (.c (.vw l sz' o (n + ys.length))) [(l, .row e' sz (overR rows ys (o + n)))] else False
  | _ => False
 | x => aAppend h id e ei x y k
def aAppendQ (h : Nat → Option Ob) (id e : Nat) (ei : TI) (l sz' o n : Nat) (y : S) (k : S → Ch → Prop) : Prop :=
 rowsOf h ei.size y fun ys => match h l with
  | some (.row e' sz rows) => bif Nat.beq sz ei.size && Nat.beq sz' ei.size then
    AskV (o + n + ys.length ≤ rows.length) (k (.c (.vw l sz' o (n + ys.length))) [(l, .row e' sz (overR rows ys (o + n)))])
     ((o + n = rows.length ∧ e' = e ∧ (1 ≤ rows.length ∧ 1 ≤ ys.length) ∧ roomOK ei (rows.length + ys.length)) ∧
      ∀ (o' : Nat) (R : List (List V)), o' ≤ R.length → R.drop o' = rows.drop o → R.length = o' + n ∧ R.length ≤ rows.length → k (.c (.vw id sz' o' (n + ys.length))) [(l, .dead), (id, .row e' sz (R ++ ys))])
   else False
  | _ => False
def aAppendG (h : Nat → Option Ob) (id e : Nat) (ei : TI) (x y : S) (k : S → Ch → Prop) : Prop :=
 match x with
 | .c (.row l) => match h l with
  | some (.grid e' e2 sz2 ins) => match y with
   | .c (.row m) => match h m with
    | some (.grid e3 e2' sz2' ins2) => bif Nat.beq e' e && (Nat.beq e3 e && (Nat.beq e2' e2 && (Nat.beq sz2' sz2 && Nat.beq ei.size 1))) then Ask ((l ≠ m ∧ ins2 ≠ []) ∧ roomOK ei (ins.length + ins2.length)) <| k (.c (.row id)) [(l, .dead), (m, .dead), (id, .grid e e2 sz2 (ins ++ ins2))] else False
    | _ => False
   | _ => False
  | _ => aAppendV h id e ei (.c (.row l)) y k
 | .c (.inn p i c) => rowsOf h ei.size y fun ys => match h p with
  | some (.pool e' sz ins) => bif Nat.beq e' e && Nat.beq sz ei.size then PTake ins i c fun rows => Ask (roomOK ei (rows.length + ys.length)) <| k (.c (.row id)) [(p, .pool e' sz (ins.set i (c, none))), (id, .row e ei.size (rows ++ ys))] else False
  | _ => False
 | x => aAppendV h id e ei x y k
def byteRows (s : ByteArray) : List (List V) := s.data.toList.map fun b => [.int .u8 (b.toNat : Int)]
def isByte (ei : TI) : Bool :=
 match ei.kind with
 | .int .u8 => match ei.zero with
  | [.int .u8 n] => Nat.beq ei.size 1 && Nat.beq ei.bytes 1 && (n == 0)
  | _ => false
 | _ => false
def aAppendS (h : Nat → Option Ob) (id t u : Nat) (x y : S) (k : S → Ch → Prop) : Prop :=
 match getA T u with
 | some ui => match ui.kind with
  | .string => elemTIe T t fun e ei => match y with
   | .c (.str s) => match x with
    | .c .nils => bif isByte ei then Ask (roomOK ei s.size) <| k (.c (.row id)) [(id, .row e 1 (byteRows s))] else False
    | .c (.row l) => match h l with
     | some (.row e' sz rows) => bif isByte ei && (Nat.beq e' e && Nat.beq sz 1) then Ask (roomOK ei (rows.length + s.size)) <| k (.c (.row id)) [(l, .dead), (id, .row e 1 (rows ++ byteRows s))] else False
     | _ => False
    | _ => False
   | _ => False
  | _ => False
 | none => False
def aConvert (src dst : TK) (x : S) (k : S → Ch → Prop) : Prop :=
 match src, dst with
 | .int _, .int kd => match x with | .c (.int _ n) => k (.c (.int kd (kd.wrap n))) [] | _ => False
 | .int _, .string => match x with | .c (.int _ n) => k (.c (.str (Utf8.encode n))) [] | _ => False
 | .string, .string => match x with | .c (.str s) => k (.c (.str s)) [] | _ => False
 | _, _ => False
def oneV : List S → Option (List V)
 | [] => some []
 | .c v :: r => match oneV r with | some vs => some (v :: vs) | none => none
 | _ => none
def aNilCheck (x : S) (k : S → Ch → Prop) : Prop :=
 match x with
 | .c (.ptr l o) => k (.c (.ptr l o)) []
 | .c (.cptr cs) => k (.c (.cptr cs)) []
 | .c (.eptr l a b c) => k (.c (.eptr l a b c)) []
 | .c (.iptr l a b c d e) => k (.c (.iptr l a b c d e)) []
 | .c (.fn f cs) => k (.c (.fn f cs)) []
 | _ => False
def aMakeSlice (id e : Nat) (ei : TI) (n c : S) (k : S → Ch → Prop) : Prop :=
 match n, c with
 | .c (.int _ n), .c (.int _ c) => Ask (c = n ∧ 0 ≤ n ∧ roomOK ei n.toNat) <| k (.c (.row id)) [(id, .row e ei.size (List.replicate n.toNat ei.zero))]
 | _, _ => False
def aMin (x y : S) (k : S → Ch → Prop) : Prop :=
 match x, y with
 | .c (.int ka a), .c (.int _ b) => k (.c (.int ka (if b < a then b else a))) []
 | _, _ => False
def aMax (x y : S) (k : S → Ch → Prop) : Prop :=
 match x, y with
 | .c (.int ka a), .c (.int _ b) => k (.c (.int ka (if a < b then b else a))) []
 | .c (.str a), .c (.str b) => k (.c (.str (bif Op.bytesLess a.toList b.toList then b else a))) []
 | _, _ => False
def mtOf (mt : List Nat) : Operand → List Nat
 | .func _ => mt
 | _ => []
def aCall (G : ((S → List Ob → Prop) → Prop) → (S → List Ob → Prop) → Prop) (h : Nat → Option Ob) (id : Nat) (f : S) (args : List S) (k : S → Ch → Prop) : Prop :=
 match f with
 | .c (.fn g caps) => forceSs (args ++ caps.map .c) fun as => call mt PC G h id g as k
 | _ => False
def withT (t : Nat) (k : TI → Prop) : Prop := match getA T t with | some ti => k ti | none => False

def aop (h : Nat → Option Ob) (id : Nat) (o : Op) (vals : List S) (k : S → Ch → Prop) : Prop :=
 match o with
 | .move _ => match vals with | [v] => k v [] | _ => False
 | .assign _ => match vals with | [v] => k v [] | _ => False
 | .pick _ _ _ => match vals with | [c, a, b] => aPick c a b k | _ => False
 | .alloc t => match vals with | [] => withT T t fun ti => k (.c (.ptr id 0)) [(id, .box ti.zero (boxT t ti.zero))] | _ => False
 | .box _ _ => match vals with | [v] => aBox id v k | _ => False
 | .fieldAddr t _ f => match vals with | [x] => withT T t fun ti => aFieldAddr ti f x k | _ => False
 | .load t _ => match vals with | [a] => withT T t fun ti => aLoad h ti a k | _ => False
 | .store t _ _ => match vals with | [a, v] => withT T t fun ti => aStore h ti a v k | _ => False
 | .binOp op t _ y2 _ => match vals with | [x, y] => aBinC T op t y2 x y fun v => k v [] | _ => False
 | .unOp op _ _ => match vals with | [x] => aUn op x k | _ => False
 | .build t ps => withT T t fun ti => aBuild T ti (ps.toList.map (·.1)) vals k
 | .buildSlice t len ps => elemTIe T t fun e ei => aBuildSlice h id e ei len (ps.toList.map (·.1)) vals k
 | .field t _ f => match vals with | [x] => withT T t fun ti => aField T ti f x k | _ => False
 | .index t _ _ => match vals with | [x, i] => withT T t fun ti => aIndex T ti x i k | _ => False
 | .slice t _ lo hi mx => match mx with
  | none => match lo with
   | none => match hi with
    | none => match vals with | [x] => withT T t fun ti => aSlice T h id ti.kind x none none k | _ => False
    | some _ => match vals with | [x, b] => withT T t fun ti => aSlice T h id ti.kind x none (some b) k | _ => False
   | some _ => match hi with
    | none => match vals with | [x, a] => withT T t fun ti => aSlice T h id ti.kind x (some a) none k | _ => False
    | some _ => match vals with | [x, a, b] => withT T t fun ti => aSlice T h id ti.kind x (some a) (some b) k | _ => False
  | some _ => match lo with
   | none => match hi with
    | some _ => match vals with | [x, b, m] => elemTIe T t fun e ei => aSlice0 h id e ei x b m k | _ => False
    | none => False
   | some _ => match hi with
    | some _ => match vals with | [x, a, b, m] => elemTIe T t fun _ ei => aSlice3 h ei x a b m k | _ => False
    | none => False
 | .convert src dst _ => match vals with | [x] => withT T src fun si => withT T dst fun di => aConvert si.kind di.kind x k | _ => False
 | .makeFunc fn first _ => match fn with
  | .func f => bif Nat.beq first.size 0 then (match oneV vals with | some cs => k (.c (.fn f cs)) [] | none => False) else False
  | _ => False
 | .nilCheck _ => match vals with | [x] => aNilCheck x k | _ => False
 | .makeSlice t _ _ => match vals with | [n, c] => elemTIe T t fun e ei => aMakeSlice id e ei n c k | _ => False
 | .indexAddr t _ _ => match vals with | [x, i] => aIndexAt T h t x i k | _ => False
 | .extract _ i => match vals with | [v] => aExtract v i k | _ => False
 | .makeMap t _ => match vals with | [] => mapT T t fun _ _ => k (.c (.mp id)) [(id, .map 0 [])] | _ => False
 | .lookup t _ _ ok => match vals with | [m, key] => mapT T t fun kt ei => aLookup T h kt ei m key ok k | _ => False
 | .mapUpdate t _ _ _ => match vals with | [m, key, v] => mapT T t fun kt _ => aMapUpdate T h kt m key v k | _ => False
 | .insert t _ _ _ => match vals with | [m, key, v] => mapT T t fun kt _ => aMapUpdate T h kt m key v k | _ => False
 | .mapEntry t _ _ => match vals with | [m, key] => mapT T t fun kt ei => aMapEntry T h kt ei m key k | _ => False
 | .entryStore _ _ _ _ => match vals with | [m, s, v] => aEntryStore h m s v k | _ => False
 | .range t _ => match vals with | [m] => mapT T t fun _ _ => aRange h id m k | _ => False
 | .entry _ => match vals with | [it] => aEntry h it k | _ => False
 | .call c => match c.callee with
  | .builtin .len => match vals with | [x] => kindOf T c.argTypes fun kd => lenOf h kd x fun n => k (.c (.int .i64 n)) [] | _ => False
  | .builtin .append => match vals with
   | [x, y] => match c.argTypes.toList with
    | [t, t'] => bif Nat.beq t' t then elemTIe T t fun e ei => aAppendG h id e ei x y k else aAppendS T h id t t' x y k
    | _ => False
   | _ => False
  | .builtin .delete => match vals with
   | [m, key] => match c.argTypes.toList with
    | t :: _ => mapT T t fun kt _ => aDelete T h kt m key k
    | [] => False
   | _ => False
  | .builtin .clear => match vals with
   | [x] => match c.argTypes.toList with
    | [t] => elemTIe T t fun _ ei => aClear h ei x k
    | _ => False
   | _ => False
  | .builtin .copy => match vals with
   | [x, y] => match c.argTypes.toList with
    | [t, t'] => bif Nat.beq t' t then elemTIe T t fun _ ei => aCopy h ei x y k else False
    | _ => False
   | _ => False
  | .builtin .min => match vals with | [x, y] => aMin x y k | _ => False
  | .builtin .max => match vals with | [x, y] => aMax x y k | _ => False
  | .value o => match vals with | f :: args => aCall (mtOf mt o) PC GD h id f args k | _ => False
  | _ => False
 | _ => False

def vals (sl : Nat → S) (o : Op) : List S := o.operands.toList.map (ev sl)
def reads (h : Nat → Option Ob) (o : Op) (vs : List S) : List Nat :=
 match o with
 | .move _ | .assign _ | .pick _ _ _ | .nilCheck _ | .fieldAddr _ _ _ | .extract _ _ | .build _ _ | .unOp _ _ _ | .convert _ _ _ | .field _ _ _ | .makeFunc _ _ _ => []
 | .range _ _ => clo h 30 (idsS.idsSs vs) []
 | .call _ => clo h 30 (idsS.idsSs vs) []
 | _ => clo (hideP h) 30 (idsS.idsSs vs) []
def aopAt (sl : Nat → S) (h : Nat → Option Ob) (id : Nat) (o : Op) (k : S → Ch → Prop) : Prop :=
 forceSs (vals sl o) fun vs => forceNs (reads h o vs) fun rd => aop T mt PC (only h rd) id o vs k
def isNilS : S → Bool
 | .c .nils => true
 | _ => false
def vtt (b : Bool) : S := match b with | true => .c .tt | false => .c .ff
def aNil (h : Nat → Option Ob) (t : Nat) (op : BinOp) (x : S) (k : S → Ch → Prop) : Prop :=
 match getA T t with
 | some ti => match ti.kind with
  | .slice _ => match x with
   | .c .nils => k (vtt (eqRes op true)) []
   | .c (.lst _ rows) => NilG rows (k (vtt (eqRes op true)) []) (k (vtt (eqRes op false)) [])
   | .c (.row l) => match h l with
    | some (.row _ _ rows) => NilG rows (k (vtt (eqRes op true)) []) (k (vtt (eqRes op false)) [])
    | some (.frow _ rows) => NilG rows (k (vtt (eqRes op true)) []) (k (vtt (eqRes op false)) [])
    | _ => False
   | _ => False
  | _ => False
 | none => False
def aStoreS (h : Nat → Option Ob) (ti : TI) (a v : S) (k : S → Ch → Prop) : Prop :=
 match a with
 | .c (.eptr l sz i o) => match h l with
  | some (.grid e e2 sz2 ins) => bif Nat.beq sz 1 && (Nat.beq o 0 && Nat.beq ti.size 1) then (match v with
   | .c (.row m) => match h m with
    | some (.row e2' sz2' rows) => bif Nat.beq e2' e2 && Nat.beq sz2' sz2 then Ask (i < ins.length) <| ∀ c, k .bot [(m, .dead), (l, .grid e e2 sz2 (ins.set i (c, rows)))] else False
    | _ => False
   | _ => False) else False
  | _ => aStore h ti (.c (.eptr l sz i o)) v k
 | a => aStore h ti a v k
def aBuildS (h : Nat → Option Ob) (id e : Nat) (ei : TI) (len : Nat) (is : List Nat) (vs : List S) (k : S → Ch → Prop) : Prop :=
 match vs with
 | [.c (.row m)] => match h m with
  | some (.row e2 sz2 rows2) => BuildG (aBuildSlice h id e ei len is [.c (.row m)] k) ((is = [0] ∧ len = 1 ∧ ei.size = 1) ∧ ∀ c, k (.c (.row id)) [(m, .dead), (id, .grid e e2 sz2 [(c, rows2)])])
  | _ => aBuildSlice h id e ei len is [.c (.row m)] k
 | vs => aBuildSlice h id e ei len is vs k
def aMakeS (id e : Nat) (ei : TI) (n c : S) (k : S → Ch → Prop) : Prop :=
 match ei.kind with
 | .slice e2 => match ei.zero with
  | [.nils] => withT2 T e2 fun ei2 => BuildG (aMakeSlice id e ei n c k) (ei.size = 1 ∧ aMakeSlice id e ei n c fun v ch => match n with | .c (.int _ m) => 1 ≤ m ∧ k v (ch ++ [(id, .grid e e2 ei2.size (List.replicate m.toNat (.slice none 0 0, [])))]) | _ => False)
  | _ => aMakeSlice id e ei n c k
 | _ => aMakeSlice id e ei n c k
def aRangeS (h : Nat → Option Ob) (id : Nat) (m : S) (k : S → Ch → Prop) : Prop :=
 match m with
 | .c (.mp l) => match h l with
  | some (.pmap _ p clock es) => match h p with
   | some (.pool _ sz ins) => PFrz sz p ins es fun es' => k (.c (.ptr id 0)) [(l, .map clock es'), (p, .dead), (id, .iter l clock [])]
   | _ => False
  | _ => aRange h id (.c (.mp l)) k
 | m => aRange h id m k
def aLenS (h : Nat → Option Ob) (kd : TK) (x : S) (k : S → Ch → Prop) : Prop :=
 match x with
 | .c (.mp l) => match h l with
  | some (.pmap _ _ _ es) => (match kd with | .map _ _ => k (.c (.int .i64 es.length)) [] | _ => False)
  | _ => lenOf h kd (.c (.mp l)) fun n => k (.c (.int .i64 n)) []
 | x => lenOf h kd x fun n => k (.c (.int .i64 n)) []
def aMakeMapS (id : Nat) (ei : TI) (k : S → Ch → Prop) : Prop :=
 match ei.kind with
 | .slice e => BuildG (k (.c (.mp id)) [(id, .map 0 [])]) (withT2 T e fun ei2 => k (.c (.mp id)) [(id + 1, .pool e ei2.size []), (id, .pmap false (id + 1) 0 [])])
 | _ => k (.c (.mp id)) [(id, .map 0 [])]
def aopS (h : Nat → Option Ob) (id : Nat) (o : Op) (vals : List S) (k : S → Ch → Prop) : Prop :=
 match o with
 | .binOp op t x y t2 => match vals with
  | [a, b] => bif isEq op && isNilS b then aNil T h t op a k else aop T mt PC h id (.binOp op t x y t2) [a, b] k
  | vals => aop T mt PC h id (.binOp op t x y t2) vals k
 | .call c => match c.callee with
  | .value o => match vals with | f :: args => aCall (mtOf mt o) PC GX h id f args k | _ => False
  | .builtin .append => match vals with
   | [.c (.vw l sz' o n), y] => match c.argTypes.toList with
    | [t, t'] => bif Nat.beq t' t then elemTIe T t fun e ei => aAppendQ h id e ei l sz' o n y k else aop T mt PC h id (.call c) vals k
    | _ => False
   | vals => aop T mt PC h id (.call c) vals k
  | .builtin .len => match vals with | [x] => kindOf T c.argTypes fun kd => aLenS h kd x k | _ => False
  | _ => aop T mt PC h id (.call c) vals k
 | .next _ isStr => match isStr with
  | false => match vals with | [x] => aNext h x k | _ => False
  | true => False
 | .store t _ _ => match vals with | [a, v] => withT T t fun ti => aStoreS h ti a v k | _ => False
 | .buildSlice t len ps => elemTIe T t fun e ei => aBuildS h id e ei len (ps.toList.map (·.1)) vals k
 | .makeSlice t _ _ => match vals with | [n, c] => elemTIe T t fun e ei => aMakeS T id e ei n c k | _ => False
 | .makeMap t _ => match vals with | [] => mapT T t fun _ ei => aMakeMapS T id ei k | _ => False
 | .range t _ => match vals with | [m] => mapT T t fun _ _ => aRangeS h id m k | _ => False
 | o => aop T mt PC h id o vals k
def aopAtS (sl : Nat → S) (h : Nat → Option Ob) (id : Nat) (o : Op) (k : S → Ch → Prop) : Prop :=
 forceSs (vals sl o) fun vs => forceNs (reads h o vs) fun rd => aopS T mt PC (only h rd) id o vs k
def updH (h : List (Nat × Ob)) : Ch → List (Nat × Ob)
 | [] => h
 | (l, o) :: r => updH (setA h l o) r
def upd (σ : St) (dst : Option Nat) (v : S) (ch : Ch) : St :=
 match σ with
 | ⟨fr, hp, nx⟩ => ⟨match dst with | some d => (d, v) :: fr | none => fr, updH hp ch, nx⟩
def gslot (all : List Oper) (σ : St) (j : Nat) : S := match nth all j with | some o => (match o.dst with | some d => slot σ d | none => .bot) | none => .bot

def keys : Ch → List Nat
 | [] => []
 | (l, _) :: r => l :: keys r
end
def bit (m i : Nat) : Bool := Nat.beq (Nat.land (Nat.shiftRight m i) 1) 1
def forceNL (n : Nat) (k : Nat → List Nat) : List Nat :=
 match n with
 | 0 => k 0
 | m + 1 => k (Nat.succ m)
theorem forceNL_eq (n : Nat) (k : Nat → List Nat) : forceNL n k = k n := by cases n <;> rfl
def befOf (acc : List Nat) : List Edge → Nat
 | [] => 0
 | e :: r => bif Region.binds .any e then Nat.lor (Nat.lor (Nat.shiftLeft 1 e.on) (match nth acc e.on with | some b => b | none => 0)) (befOf acc r) else befOf acc r
def befs : List Oper → List Nat → List Nat
 | [], acc => acc
 | o :: r, acc => forceNL (befOf acc o.after.toList) fun m => befs r (acc ++ [m])
def disj : List Nat → List Nat → Bool
 | [], _ => true
 | x :: r, l => bif hasN l x then false else disj r l
def okOne (bj : Nat) (rd wr : List Nat) : Nat → List (List Nat × List Nat) → Bool
 | _, [] => true
 | i, p :: r => ((disj p.2 rd && disj wr p.1 && disj wr p.2) || bit bj i) && okOne bj rd wr (i + 1) r
def okTr (bs : List Nat) : Nat → List (List Nat × List Nat) → List (List Nat × List Nat) → Bool
 | _, _, [] => true
 | j, past, p :: r => okOne (match nth bs j with | some b => b | none => 0) p.1 p.2 0 past && okTr bs (j + 1) (past ++ [p]) r

section
variable (T : List (Nat × TI)) (mt : List Nat) (PC : Nat → List S → List Ob → (S → List Ob → Prop) → Prop)
def isG : List Oper → Nat → Bool
 | [], _ => false
 | o :: r, j => match o.guard with | some g => bif Nat.beq g.1 j then true else isG r j | none => isG r j
def split1 (g : Bool) (v : S) (k : S → Prop) : Prop :=
 bif g then (match v with
  | .c (.bool b) => Split b (k (.c .tt)) (k (.c .ff))
  | v => k v) else k v
def runs (all : List Oper) (σ : St) (o : Oper) : Option Bool :=
 match o.guard with
 | none => some true
 | some g => match gslot all σ g.1 with
  | .c .tt => some g.2
  | .c .ff => some (!g.2)
  | .tup [] => some false
  | _ => none
def stepS (all : List Oper) (o : Oper) (j : Nat) (fr : List (Nat × S)) (hp : List (Nat × Ob)) (nx : Nat) (k : S → Ch → Prop) : Prop :=
 match runs all ⟨fr, hp, nx⟩ o with
 | some true => forceN (nx + j * 16) fun id => aopAtS T mt PC (slot ⟨fr, hp, nx⟩) (getA hp) id o.op fun v ch => split1 (isG all j) v fun v => k v ch
 | some false => k (.tup []) []
 | none => False
def rawV (a : Nat) (c : Value) (v : V) : V := match v with | .row l => bif Nat.beq l a then .cmap c else .row l | v => v
def rawA (a : Nat) (c : Value) : List V → List V
 | [] => []
 | v :: r => rawV a c v :: rawA a c r
inductive HookG (j : Nat) (K : St → Prop) : St → Prop
 | no {σ : St} (h : K σ) : HookG j K σ
 | ad {σ : St} (t a e sz : Nat) (cs : List V) (rows : List (List V)) (h1 : slot σ t = .agg cs) (h2 : getA σ.hp a = some (.row e sz rows))
   (hk : ∀ c, HookG j K ⟨(t, .agg (rawA a c cs)) :: σ.fr, updH σ.hp [(a, .dead), (σ.nx + j * 16, .pool e sz [(c, some rows)])], σ.nx + 16⟩) : HookG j K σ
 | take {σ : St} (t p e sz i : Nat) (c : Value) (ins : List (Value × Option (List (List V)))) (rows : List (List V)) (h1 : slot σ t = .c (.cmap c)) (h2 : getA σ.hp p = some (.pool e sz ins)) (h3 : ins[i]? = some (c, some rows))
   (hk : HookG j K ⟨(t, .c (.row (σ.nx + j * 16))) :: σ.fr, updH σ.hp [(p, .pool e sz (ins.set i (c, none))), (σ.nx + j * 16, .row e sz rows)], σ.nx + 16⟩) : HookG j K σ
def isRowV : V → Bool
 | .row _ => true
 | _ => false
def anyRow : List V → Bool
 | [] => false
 | v :: r => bif isRowV v then true else anyRow r
def aggRow : S → Bool
 | .agg cs => anyRow cs
 | _ => false
def rawS : S → Bool
 | .c (.cmap _) => true
 | _ => false
def anyS (f : S → Bool) : List S → Bool
 | [] => false
 | v :: r => bif f v then true else anyS f r
def hookB (sl : Nat → S) (o : Op) : Bool :=
 match o with
 | .buildSlice _ _ _ => anyS aggRow (vals sl o)
 | .call c => match c.callee with
  | .builtin _ => false
  | _ => anyS rawS (vals sl o)
 | _ => false
def hook (o : Oper) (j : Nat) (σ : St) (K : St → Prop) : Prop := bif hookB (slot σ) o.op then HookG j K σ else K σ
def arunS (all : List Oper) : List Oper → Nat → St → (St → Prop) → Prop
 | [], j, σ, K => withSt σ fun fr hp nx => forceSt ⟨fr, hp, nx + j * 16⟩ K
 | o :: r, j, σ, K => hook o j σ fun σ => withSt σ fun fr hp nx => stepS T mt PC all o j fr hp nx fun v ch => forceSt (upd ⟨fr, hp, nx⟩ o.dst v ch) fun σ => arunS all r (j + 1) σ K
def stepD (all : List Oper) (o : Oper) (j : Nat) (fr : List (Nat × S)) (hp : List (Nat × Ob)) (nx : Nat) (k : S → Ch → List Nat → List Nat → Prop) : Prop :=
 match runs all ⟨fr, hp, nx⟩ o with
 | some true => forceN (nx + j * 16) fun id => aopAt T mt PC (slot ⟨fr, hp, nx⟩) (getA hp) id o.op fun v ch => split1 (isG all j) v fun v => forceNs (reads (getA hp) o.op (vals (slot ⟨fr, hp, nx⟩) o.op)) fun rd => forceNs (keys ch) fun ks => k v ch rd ks
 | some false => k (.tup []) [] [] []
 | none => False
def arun (all : List Oper) : List Oper → Nat → List (List Nat × List Nat) → St → (St → Prop) → Prop
 | [], j, tr, σ, K => bif okTr (befs all []) 0 [] tr then withSt σ fun fr hp nx => forceSt ⟨fr, hp, nx + j * 16⟩ K else False
 | o :: r, j, tr, σ, K => withSt σ fun fr hp nx => stepD T mt PC all o j fr hp nx fun v ch rd ks => forceSt (upd ⟨fr, hp, nx⟩ o.dst v ch) fun σ' => arun all r (j + 1) (tr ++ [(rd, ks)]) σ' K
theorem stepS_eq (all : List Oper) (o : Oper) (j : Nat) (σ : St) (k : S → Ch → Prop) : stepS T mt PC all o j σ.fr σ.hp σ.nx k =
  match o.guard with
  | none => aopAtS T mt PC (slot σ) (getA σ.hp) (σ.nx + j * 16) o.op fun v ch => split1 (isG all j) v fun v => k v ch
  | some g => match gslot all σ g.1 with
   | .c .tt => bif g.2 then aopAtS T mt PC (slot σ) (getA σ.hp) (σ.nx + j * 16) o.op fun v ch => split1 (isG all j) v fun v => k v ch else k (.tup []) []
   | .c .ff => bif g.2 then k (.tup []) [] else aopAtS T mt PC (slot σ) (getA σ.hp) (σ.nx + j * 16) o.op fun v ch => split1 (isG all j) v fun v => k v ch
   | .tup [] => k (.tup []) []
   | _ => False := by
 unfold stepS runs
 simp only [forceN_eq]
 cases o.guard with
 | none => rfl
 | some g =>
  simp only
  obtain ⟨g1, g2⟩ := g
  cases g2 <;> split <;> simp_all <;> split <;> simp_all
theorem stepD_eq (all : List Oper) (o : Oper) (j : Nat) (σ : St) (k : S → Ch → List Nat → List Nat → Prop) : stepD T mt PC all o j σ.fr σ.hp σ.nx k =
  match o.guard with
  | none => aopAt T mt PC (slot σ) (getA σ.hp) (σ.nx + j * 16) o.op fun v ch => split1 (isG all j) v fun v => k v ch (reads (getA σ.hp) o.op (vals (slot σ) o.op)) (keys ch)
  | some g => match gslot all σ g.1 with
   | .c .tt => bif g.2 then aopAt T mt PC (slot σ) (getA σ.hp) (σ.nx + j * 16) o.op fun v ch => split1 (isG all j) v fun v => k v ch (reads (getA σ.hp) o.op (vals (slot σ) o.op)) (keys ch) else k (.tup []) [] [] []
   | .c .ff => bif g.2 then k (.tup []) [] [] [] else aopAt T mt PC (slot σ) (getA σ.hp) (σ.nx + j * 16) o.op fun v ch => split1 (isG all j) v fun v => k v ch (reads (getA σ.hp) o.op (vals (slot σ) o.op)) (keys ch)
   | .tup [] => k (.tup []) [] [] []
   | _ => False := by
 unfold stepD runs
 simp only [forceN_eq, forceNs_eq]
 cases o.guard with
 | none => rfl
 | some g =>
  simp only
  obtain ⟨g1, g2⟩ := g
  cases g2 <;> split <;> simp_all <;> split <;> simp_all

def innS : S → Prop
 | .c .nils => True
 | .c (.inn _ _ _) => True
 | _ => False
def findQ : List (Nat × Ob) → Option Nat
 | [] => none
 | (l, .pmap true _ _ _) :: _ => some l
 | _ :: r => findQ r
def putAt {α : Type} (l : List α) (i : Nat) (x : α) : List α := if i < l.length then l.set i x else l ++ [x]
inductive GhostG (K : St → Prop) : St → Prop
 | done {σ : St} (h : K σ) : GhostG K σ
 | adopt {σ : St} (l p a clock e sz i : Nat) (es : Ents) (es' : Value → Ents) (ins : List (Value × Option (List (List V)))) (rows : List (List V)) (h1 : getA σ.hp l = some (.pmap true p clock es)) (h2 : getA σ.hp p = some (.pool e sz ins)) (h3 : getA σ.hp a = some (.row e sz rows))
   (hi : i ≤ ins.length ∧ ∀ x, ins[i]? = some x → x.2 = none) (he : ∀ c, (es' c).length = es.length ∧ ∀ (j : Nat) (x y : Nat × S × S), es[j]? = some x → (es' c)[j]? = some y → y = x ∨ (x.2.2 = .c (.row a) ∧ y = (x.1, x.2.1, .c (.inn p i c))))
   (hk : ∀ c, GhostG K ⟨σ.fr, updH σ.hp [(a, .dead), (p, .pool e sz (putAt ins i (c, some rows))), (l, .pmap true p clock (es' c))], σ.nx⟩) : GhostG K σ
 | shut {σ : St} (l p clock : Nat) (es : Ents) (h1 : getA σ.hp l = some (.pmap true p clock es)) (he : ∀ x ∈ es, innS x.2.2) (hk : GhostG K ⟨σ.fr, updH σ.hp [(l, .pmap false p clock es)], σ.nx⟩) : GhostG K σ
def ghost (σ : St) (K : St → Prop) : Prop :=
 match findQ σ.hp with
 | none => K σ
 | some _ => GhostG K σ
inductive Own where
 | sl (t e sz : Nat)
 | bx (t off e sz : Nat)
 | ob (l off e sz : Nat)
 | gn (t e e2 sz : Nat)
 | gr (t e2 sz : Nat)
 | wx (t off sz : Nat)
 | po (e sz : Nat)
def allNil : List (List V) → Option (List (Value × List (List V)))
 | [] => some []
 | [.nils] :: r => match allNil r with | some q => some ((.slice none 0 0, []) :: q) | none => none
 | _ => none
def mergeP (e sz : Nat) : List Nat → Option Nat → St → St
 | [], none, σ => ⟨σ.fr, setA σ.hp σ.nx (.pool e sz []), σ.nx + 1⟩
 | [], some _, σ => σ
 | l :: r, acc, σ => match getA σ.hp l with
  | some (.pool e' sz' ins) => bif Nat.beq e' e && Nat.beq sz' sz then (match acc with
    | none => mergeP e sz r (some l) σ
    | some p => bif Nat.beq p l then mergeP e sz r acc σ else match getA σ.hp p with
     | some (.pool e0 sz0 ins0) => bif Nat.beq e0 e && Nat.beq sz0 sz then mergeP e sz r acc ⟨σ.fr, updH σ.hp [(l, .dead), (p, .pool e sz (ins0 ++ ins))], σ.nx⟩ else mergeP e sz r acc σ
     | _ => mergeP e sz r acc σ)
   else mergeP e sz r acc σ
  | _ => mergeP e sz r acc σ
def ownNil (σ : St) : List Own → St
 | [] => σ
 | .sl t e sz :: r => match slot σ t with
  | .c .nils => ownNil ⟨setA σ.fr t (.c (.row σ.nx)), setA σ.hp σ.nx (.row e sz []), σ.nx + 1⟩ r
  | _ => ownNil σ r
 | .bx t off e sz :: r => match slot σ t with
  | .c (.ptr l o) => match getA σ.hp l with
   | some (.box cs t) => match nth cs (o + off) with
    | some .nils => bif Nat.blt l σ.nx then ownNil ⟨σ.fr, setA (setA σ.hp l (.box (putL (o + off) [.row σ.nx] cs) t)) σ.nx (.row e sz []), σ.nx + 1⟩ r else ownNil σ r
    | _ => ownNil σ r
   | _ => ownNil σ r
  | _ => ownNil σ r
 | .ob l off e sz :: r => match getA σ.hp l with
  | some (.box cs t) => match nth cs off with
   | some .nils => bif Nat.blt l σ.nx then ownNil ⟨σ.fr, setA (setA σ.hp l (.box (putL off [.row σ.nx] cs) t)) σ.nx (.row e sz []), σ.nx + 1⟩ r else ownNil σ r
   | _ => ownNil σ r
  | _ => ownNil σ r
 | .gn t e e2 sz :: r => match slot σ t with
  | .c .nils => ownNil ⟨setA σ.fr t (.c (.row σ.nx)), setA σ.hp σ.nx (.grid e e2 sz []), σ.nx + 1⟩ r
  | _ => ownNil σ r
 | .wx t off sz :: r => match slot σ t with
  | .c (.ptr l o) => match getA σ.hp l with
   | some (.box cs q) => match nth cs (o + off) with
    | some .nils => ownNil ⟨σ.fr, setA σ.hp l (.box (putL (o + off) [.lst sz []] cs) q), σ.nx⟩ r
    | _ => ownNil σ r
   | _ => ownNil σ r
  | _ => ownNil σ r
 | .po e sz :: r => ownNil (mergeP e sz (keys σ.hp) none σ) r
 | .gr t e2 sz :: r => match slot σ t with
  | .c (.row l) => match getA σ.hp l with
   | some (.row e s1 rows) => match allNil rows with
    | some ins => bif Nat.beq s1 1 && !rows.isEmpty then ownNil ⟨σ.fr, setA σ.hp l (.grid e e2 sz ins), σ.nx⟩ r else ownNil σ r
    | none => ownNil σ r
   | _ => ownNil σ r
  | _ => ownNil σ r
def rangeL : Nat → Nat → List Nat
 | _, 0 => []
 | i, n + 1 => i :: rangeL (i + 1) n
def conts (h : Nat → Option Ob) : List Nat → List Nat
 | [] => []
 | l :: r => idsO (h l) ++ conts h r
def zipF : List Nat → List S → List (Nat × S)
 | t :: r, s :: q => (t, s) :: zipF r q
 | _, _ => []
def zipO : Nat → List Ob → List (Nat × Ob)
 | _, [] => []
 | i, o :: r => (i, o) :: zipO (i + 1) r
def hasPm : List (Nat × Ob) → Bool
 | [] => false
 | (_, .pmap _ _ _ _) :: _ => true
 | _ :: r => hasPm r
def poolsL : List (Nat × Ob) → List Nat
 | [] => []
 | (l, .pool _ _ _) :: r => l :: poolsL r
 | _ :: r => poolsL r
def exOf (hp : List (Nat × Ob)) : List Nat := bif hasPm hp then [] else poolsL hp
def anew (m : Nat) (h : Nat → Option Ob) (vs : List S) (ex : List Nat) (K : List S → List Ob → Prop) : Prop :=
 forceNs (clo h 60 (conts h (rangeL 0 m) ++ idsS.idsSs vs ++ ex) (rangeL 0 m)) fun ids => bif nodupB ids then getAll h ids fun os => rnS.rnSs (idx ids) vs fun vs => rnOs (idx ids) os fun os => K vs os else False
def slotsOf (σ : St) : List Nat → List S
 | [] => []
 | t :: r => slot σ t :: slotsOf σ r
def lenA {α : Type} : List α → Nat → Nat
 | [], n => n
 | _ :: r, n => lenA r (n + 1)
theorem lenA_eq {α : Type} : ∀ (l : List α) (n : Nat), lenA l n = n + l.length
 | [], n => rfl
 | a :: r, n => by rw [lenA, lenA_eq r]; simp; omega
def norm (m : Nat) (ow : List Own) (cs : List Nat) (σ : St) (K : St → Prop) : Prop :=
 (fun σ => anew m (getA σ.hp) (slotsOf σ cs) (exOf σ.hp) fun vs os => forceOs os fun os => forceN (lenA os 0) fun n => K ⟨zipF cs vs, zipO 0 os, n⟩) (ownNil σ ow)

def resV (σ : St) : List ResultVar → (List S → Prop) → Prop
 | [], k => k []
 | .tmp t :: r, k => resV σ r fun vs => k (slot σ t :: vs)
 | .cell a t :: r, k => withT T t fun ti => aLoad (getA σ.hp) ti (slot σ a) fun v _ => resV σ r fun vs => k (v :: vs)
def frzR (h : Nat → Option Ob) : List S → (List S → Ch → Prop) → Prop
 | [], k => k [] []
 | s :: r, k => match s with
  | .agg cs => frz h cs fun vs ch => frzR (updF h ch) r fun ss ch2 => k (.agg vs :: ss) (ch ++ ch2)
  | s => frzR h r fun ss ch2 => k (s :: ss) ch2
def oneOf : List S → S
 | [s] => s
 | ss => .tup ss
inductive DW : V → V → Prop
 | refl (v : V) : DW v v
 | nils (sz : Nat) : DW .nils (.lst sz [])
 | tt : DW .tt (.bool true)
 | ff : DW .ff (.bool false)
 | lst (sz : Nat) (rows rows' : List (List V)) (hl : rows.length = rows'.length) (h : ∀ (i : Nat) (r r' : List V), rows[i]? = some r → rows'[i]? = some r' → r.length = r'.length) (hd : ∀ (i : Nat) (r r' : List V), rows[i]? = some r → rows'[i]? = some r' → ∀ (j : Nat) (v v' : V), r[j]? = some v → r'[j]? = some v' → DW v v') : DW (.lst sz rows) (.lst sz rows')
inductive ValR (os : List Ob) : S → S → Prop
 | dw (u v : V) (h : DW u v) : ValR os (.c u) (.c v)
 | deep (l sz : Nat) (rows : List (List V)) (v : V) (h : os[l]? = some (.frow sz rows)) (hd : DW (.lst sz rows) v) : ValR os (.c (.row l)) (.c v)
 | refl (r : S) : ValR os r r
 | nil (sz : Nat) : ValR os (.c .nils) (.c (.lst sz []))
 | fro (l sz : Nat) (rows : List (List V)) (h : os[l]? = some (.frow sz rows)) : ValR os (.c (.row l)) (.c (.lst sz rows))
 | tup (q q' : List S) (hl : q.length = q'.length) (h : ∀ (i : Nat) (a b : S), q[i]? = some a → q'[i]? = some b → ValR os a b) : ValR os (.tup q) (.tup q')
inductive FinR (m : Nat) (r : S) (os : List Ob) : S → List Ob → Prop
 | mk {r' : S} {os' : List Ob} (h : r' = r ∧ os' = os) : FinR m r os r' os'
 | cutv {r' : S} {os' : List Ob} (l e sz n : Nat) (rows : List (List V)) (h0 : r' = .c (.vw l sz 0 n) ∨ (r' = .c (.row l) ∧ n = rows.length)) (h1 : os'[l]? = some (.row e sz rows)) (h2 : n ≤ rows.length) (h : FinR m r os (.c (.row os'.length)) (os'.set l .dead ++ [.row e sz (rows.take n)])) : FinR m r os r' os'
 | weak {r' : S} {os' : List Ob} (t : List Ob) (h : ValR os' r' r) (h1 : os' = os ++ t) (h2 : m ≤ os.length) : FinR m r os r' os'
 | own {r' : S} {os' : List Ob} (e sz : Nat) (h : r' = .c .nils) (h1 : r = .c (.row os'.length)) (h2 : os = os' ++ [.row e sz []]) : FinR m r os r' os'
 | own2 {r' : S} {os' : List Ob} (e sz : Nat) (q : List S) (h : r' = .tup (.c .nils :: q)) (h1 : r = .tup (.c (.row os'.length) :: q)) (h2 : os = os' ++ [.row e sz []]) : FinR m r os r' os'
 | frz {r' : S} {os' : List Ob} (l e sz : Nat) (rows : List (List V)) (h0 : os'[l]? = some (.row e sz rows)) (h : FinR m r os r' (os'.set l (.frow sz rows))) : FinR m r os r' os'
def fin (m : Nat) (rs : List ResultVar) (σ : St) (K : S → List Ob → Prop) : Prop :=
 resV T σ rs fun vs => frzR (getA σ.hp) vs fun vs ch => anew m (updF (getA σ.hp) ch) vs (exOf σ.hp) fun vs os => forceSs vs fun vs => forceOs os fun os => K (oneOf vs) os

def unr (body : St → (Exit → St → Prop) → Prop) (Q : Exit → St → Prop) : Nat → St → Prop
 | 0, _ => False
 | n + 1, σ => body σ fun e σ' => match e with | .normal => unr body Q n σ' | e => Q e σ'
inductive LoopG (m : Nat) (σ : St) (body : St → (Exit → St → Prop) → Prop) (Q : Exit → St → Prop) : Prop
 | mk (ow : List Own) (cs : List Nat) (I : Nat → St → Prop) (n : Nat) (h0 : norm m ow cs σ (I n)) (hr : ∀ n σ, I n σ → body σ fun e σ' => match e with | .normal => norm m ow cs σ' fun σ'' => ∃ j, j < n ∧ I j σ'' | e => Q e σ')
 | un (n : Nat) (h : unr body Q n σ)
inductive CondG (m : Nat) (b : Bool) (px py : (Exit → St → Prop) → Prop) (Q : Exit → St → Prop) : Prop
 | mk (t : b = true → px Q) (f : b = false → py Q)
 | join (ow : List Own) (cs : List Nat) (R : St → Prop) (t : b = true → px fun e σ' => match e with | .normal => norm m ow cs σ' R | e => Q e σ') (f : b = false → py fun e σ' => match e with | .normal => norm m ow cs σ' R | e => Q e σ') (k : ∀ σ', R σ' → Q .normal σ')
def awp (m : Nat) : Code → St → (Exit → St → Prop) → Prop
 | .skip, σ, Q => Q .normal σ
 | .region _ ops draw, σ, Q => forceStF σ fun σ => match draw with
  | true => arun T mt PC ops.toList ops.toList 0 [] σ fun σ => ghost σ (Q .normal)
  | false => arunS T mt PC ops.toList ops.toList 0 σ (Q .normal)
 | .seq x y, σ, Q => awp m x σ fun e σ => match e with | .normal => awp m y σ Q | e => Q e σ
 | .cond c x y, σ, Q => match ev (slot σ) c with
  | .c (.bool b) => CondG m b (awp m x σ) (awp m y σ) Q
  | .c .tt => awp m x σ Q
  | .c .ff => awp m y σ Q
  | _ => False
 | .block i c, σ, Q => awp m c σ fun e σ => match e with | .exit j => bif Nat.beq j i then Q .normal σ else Q (.exit j) σ | e => Q e σ
 | .loop c, σ, Q => LoopG m σ (awp m c) Q
 | .exit i, σ, Q => Q (.exit i) σ
 | .ret, σ, Q => Q .ret σ
 | .label _, σ, Q => Q .normal σ
 | _, _, _ => False

def abody (c : Code) (rs : List ResultVar) (args : List S) (objs : List Ob) (K : S → List Ob → Prop) : Prop :=
 forceN (lenA objs 0) fun nx => awp T mt PC objs.length c ⟨zipF (rangeL 0 args.length) args, zipO 0 objs, nx⟩ fun e σ => match e with
  | .normal => fin T objs.length rs σ K
  | .ret => fin T objs.length rs σ K
  | _ => False
end
end Abs
end Go.Proofs.YtkefgcleaalnnaaGreat
