/- Each operation does what the abstract walk says. -/
import Derived.Test.YtkefgcleaalnnaaGreatAbsB
import Derived.Test.YtkefgcleaalnnaaGreatPush
namespace Go.Proofs.YtkefgcleaalnnaaGreat
set_option linter.unusedVariables false
set_option linter.unusedSimpArgs false
namespace Abs

def aggV : Value → Bool
 | .agg _ => true
 | _ => false
def TIok (P : Program) (T : List (Nat × TI)) (t : Nat) (ti : TI) : Prop :=
 ∃ i z d, P.info? t = some i ∧ i.size = ti.size ∧ i.bytes = ti.bytes ∧ i.zero = some z ∧ (z.cells.size = ti.size ∧ aggV z = isAggK ti.kind) ∧ constVs z.cells.toList = some ti.zero ∧ P.underlying t = some d ∧
  match ti.kind with
  | .int k => d = .int k
  | .bool => d = .bool
  | .string => d = .string
  | .struct fs => ∃ fields, d = .struct fields ∧ (fields.toList.map (fun f => (f.offset, f.type)) = fs ∧ (∀ f ∈ fields.toList, ∃ i', P.info? f.type = some i') ∧ (ti.eq = true → (∀ f ∈ fields.toList, f.name ≠ "_") ∧ P.stoodInHeld t = false ∧ P.eqGuardType P.depth t = false)) ∧ ∀ f fo, nth fs f = some fo → ∃ fld i', fields[f]? = some fld ∧ fld.offset = fo.1 ∧ fld.type = fo.2 ∧ P.info? fld.type = some i' ∧ i'.size ≠ 0
  | .array n e => d = .array n e
  | .slice e => d = .slice e
  | .map k e => d = .map k e
  | .ptr => ∃ e, d = .pointer e
  | .func => ∃ a b c, d = .func a b c
  | .iface => ∃ ms, d = .interface ms
  | .other => (match d with | .struct _ | .array _ _ => true | _ => false) = false
def TabOK (P : Program) (T : List (Nat × TI)) : Prop := ∀ t ti, getA T t = some ti → TIok P T t ti

theorem TIok.isAgg {P : Program} {T : List (Nat × TI)} {t : Nat} {ti : TI} (h : TIok P T t ti) (w : World) : (Go.isAgg t).run P w = .ok (isAggK ti.kind) w := by
 obtain ⟨i, z, d, hi, _, _, _, _, _, hd, hk⟩ := h
 unfold Go.isAgg
 simp only [Sem.run_bind, run_underlying hd, Result.andThen_ok]
 cases hkk : ti.kind <;> simp only [hkk] at hk
 case struct fs => obtain ⟨fields, rfl, _⟩ := hk; rfl
 case ptr => obtain ⟨e, rfl⟩ := hk; rfl
 case func => obtain ⟨a, b, c, rfl⟩ := hk; rfl
 case iface => obtain ⟨ms, rfl⟩ := hk; rfl
 case other => cases d <;> simp_all [isAggK]
 all_goals (subst hk; rfl)
theorem TIok.sizeOf {P : Program} {T : List (Nat × TI)} {t : Nat} {ti : TI} (h : TIok P T t ti) (w : World) : (sizeOf t).run P w = .ok ti.size w := by
 obtain ⟨i, z, d, hi, h1, _⟩ := h
 simp [Go.sizeOf, typeInfo, hi, h1]

theorem add_spot (b off n : Nat) : (⟨b, off, none⟩ : Addr).add n = ⟨b, off + n, none⟩ := by unfold Addr.add; split <;> simp_all

theorem takeN_get {α : Type} : ∀ (n : Nat) (l : List α) (j : Nat), j < n → (takeN n l)[j]? = l[j]?
 | 0, _, _, h => by omega
 | _ + 1, [], _, _ => by simp [takeN]
 | n + 1, x :: r, 0, _ => by simp [takeN]
 | n + 1, x :: r, j + 1, h => by simp [takeN, takeN_get n r j (by omega)]
theorem takeN_len {α : Type} : ∀ (n : Nat) (l : List α), n ≤ l.length → (takeN n l).length = n
 | 0, _, _ => rfl
 | _ + 1, [], h => by simp at h
 | n + 1, x :: r, h => by simp [takeN, takeN_len n r (by simpa using h)]
theorem dropN_eq {α : Type} : ∀ (n : Nat) (l : List α), dropN n l = l.drop n
 | 0, _ => rfl
 | _ + 1, [] => rfl
 | n + 1, _ :: r => by simp [dropN, dropN_eq n r]
theorem putL_eq {α : Type} : ∀ (n : Nat) (xs cs : List α), n + xs.length ≤ cs.length → putL n xs cs = cs.take n ++ xs ++ cs.drop (n + xs.length)
 | 0, [], cs, _ => by cases cs <;> simp [putL]
 | n + 1, [], cs, _ => by cases cs <;> simp [putL]
 | _, _ :: _, [], h => by simp at h
 | 0, x :: r, _ :: t, h => by simp [putL, putL_eq 0 r t (by simp at h ⊢; omega)]
 | n + 1, x :: r, y :: t, h => by
  have := putL_eq n (x :: r) t (by simp at h ⊢; omega)
  simp only [putL, this]
  rw [show n + 1 + (x :: r).length = (n + (x :: r).length) + 1 by omega]
  simp only [List.take_succ_cons, List.drop_succ_cons, List.cons_append]
theorem nth_eq {α : Type} : ∀ (l : List α) (n : Nat), nth l n = l[n]?
 | [], _ => by simp [nth]
 | _ :: _, 0 => rfl
 | _ :: r, n + 1 => by simp [nth, nth_eq r n]

section
variable {P : Program} {T : List (Nat × TI)} {F : Nat → Prop} {φ : Nat → Option Value} {X : Nat → Prop} {w : World} {h : Nat → Option Ob} {N : Nat → Prop}

theorem constV_sound {c : Value} {v : V} (hc : constV c = some v) : RT F w c v := by
 unfold constV at hc
 split at hc <;> cases hc
 all_goals constructor
theorem constVs_sound : ∀ {cs : List Value} {vs : List V}, constVs cs = some vs → P2 (RV F φ w) cs vs
 | [], vs, hc => by simp [constVs] at hc; subst hc; exact P2.nil
 | c :: r, vs, hc => by
  simp only [constVs] at hc
  split at hc
  ·rename_i v hv
   split at hc
   ·rename_i vs' hvs
    cases hc
    exact P2.cons (.tree (constV_sound hv)) (constVs_sound hvs)
   ·cases hc
  ·cases hc
theorem constS_sound (c : Value) : RS F φ w c (constS c) := by
 unfold constS
 split
 ·split
  ·rename_i h; exact .agg _ _ (constVs_sound h)
  ·exact .bot _
 ·split
  ·rename_i h; exact .c (.tree (constV_sound h))
  ·exact .bot _
theorem ev_sound {a : Act} {sl : Nat → S} (hs : ∀ t, RS F φ w (a.tmps.getD t undef) (sl t)) (x : Operand) : RS F φ w (a.eval x) (ev sl x) := by
 cases x with
 | tmp t => exact hs t
 | const v => exact constS_sound v
 | global g => exact .bot _
 | func f => exact .c (.fn f [] #[] rfl (by intro j c v h; simp at h))

theorem Nx.refl : Nx F φ w h N [] F φ w :=
 ⟨fun _ h => h, fun _ _ h => h, fun _ _ h => .inl h, rfl, rfl, rfl, fun _ => Nat.le_refl _, Nat.le_refl _, fun b _ h => (h rfl).elim, fun b h => .inl h, fun l o h => by simp [chGet] at h, fun l o b h => by simp [chGet] at h, fun l l' o o' b h => by simp [chGet] at h⟩

def addφ (φ : Nat → Option Value) (id : Nat) (c : Value) (l : Nat) : Option Value := if l = id then some c else φ l

theorem Nx.new {id : Nat} (hr : Rp F φ X w h) (hN : N id) (hid : φ id = none) (c : Value) (hc1 : c.oneCell' = true) (ob : Ob) (o : Obj) (hb' : ∀ b, hb c = some b → b = w.heap.size)
  (ho : RO F (addφ φ id c) (w.alloc o) id ob) (hi : ∀ b, insB ob b → False := by exact fun _ h => h) : Nx F φ w h N [(id, ob)] F (addφ φ id c) (w.alloc o) := by
 have hg : ∀ l x, chGet [(id, ob)] l = some x → l = id ∧ x = ob := by
  intro l x hx
  simp only [chGet] at hx
  split at hx
  ·rename_i e; subst e; cases hx; exact ⟨rfl, rfl⟩
  ·cases hx
 refine ⟨fun _ h => h, ?_, ?_, rfl, rfl, rfl, fun _ => Nat.le_refl _, by simp, ?_, fun b h => .inl h, ?_, ?_, ?_⟩
 ·intro l c' hl
  unfold addφ
  rw [if_neg]; exact hl
  intro e; subst e; rw [hid] at hl; cases hl
 ·intro l c' hl
  unfold addφ at hl
  split at hl
  ·rename_i e; subst e; cases hl; exact .inr ⟨hN, hc1⟩
  ·exact .inl hl
 ·intro b hb1 hne
  exact (hne (heap_alloc_old w o hb1)).elim
 ·intro l x hx
  obtain ⟨rfl, rfl⟩ := hg l x hx
  exact ho
 ·intro l x b hx _ hbk
  obtain ⟨rfl, rfl⟩ := hg l x hx
  refine .inl ?_
  replace hbk := hbk.elim id fun hh => (hi b hh).elim
  simp only [blkOf, addφ, if_true, Option.bind_some] at hbk
  rw [hb' b hbk]; exact Nat.le_refl _
 ·intro l l' x x' b hx hx' _ _ _ _
  rw [(hg l x hx).1, (hg l' x' hx').1]

theorem Nx.set (hr : Rp F φ X w h) {l : Nat} {ob ob' : Ob} (hl : h l = some ob) (hv : live ob = true) {g : Nat} (hg : Blk φ l ob g) (cs : Array Value) (old : Array Value) (E : TypeId) (hh : w.heap[g]? = some (.cells old E (0, 0)))
  (ho : RO F φ (w.setRow g cs) l ob') (hsub : ∀ b, insB ob' b → Blk φ l ob b := by exact fun _ h => False.elim h) : Nx F φ w h N [(l, ob')] F φ (w.setRow g cs) := by
 have hq : ∀ l2 x, chGet [(l, ob')] l2 = some x → l2 = l ∧ x = ob' := by
  intro l2 x hx
  simp only [chGet] at hx
  split at hx
  ·rename_i e; subst e; cases hx; exact ⟨rfl, rfl⟩
  ·cases hx
 refine ⟨fun _ h => h, fun _ _ h => h, fun _ _ h => .inl h, rfl, rfl, rfl, fun _ => Nat.le_refl _, by simp [World.setRow], ?_, fun b h => .inl h, ?_, ?_, ?_⟩
 ·intro b hb1 hne
  refine ⟨l, ob, hl, hv, ?_, by simp [chGet]⟩
  by_cases e : b = g
  ·subst e; exact hg
  ·exact (hne (by simp [World.setRow, Array.getElem?_modify, Ne.symm e])).elim
 ·intro l2 x hx
  obtain ⟨rfl, rfl⟩ := hq l2 x hx
  exact ho
 ·intro l2 x b hx _ hbk
  obtain ⟨rfl, rfl⟩ := hq l2 x hx
  exact .inr ⟨l2, ob, hl, hv, hbk.elim .inl (hsub b), by simp [chGet]⟩
 ·intro l2 l3 x x' b hx hx' _ _ _ _
  rw [(hq l2 x hx).1, (hq l3 x' hx').1]
end
end Abs
end Go.Proofs.YtkefgcleaalnnaaGreat
