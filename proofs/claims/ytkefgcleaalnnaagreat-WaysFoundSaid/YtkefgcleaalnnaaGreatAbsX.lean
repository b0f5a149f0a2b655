/- Each operation does what the abstract walk says (maps). -/
import Derived.Test.YtkefgcleaalnnaaGreatAbsI
import Derived.Test.YtkefgcleaalnnaaGreatAbsV
import Derived.Maps.RangeRun
import Derived.MapKept
namespace Go.Proofs.YtkefgcleaalnnaaGreat
set_option linter.unusedVariables false
set_option linter.unusedSimpArgs false
namespace Abs
open Go.ChangeMaps (setBlock)
open Go.MapKept

section
variable {P : Program} {T : List (Nat × TI)} {F : Nat → Prop} {φ : Nat → Option Value} {X : Nat → Prop} {w : World} {h : Nat → Option Ob} {id : Nat} {N : Nat → Prop} {a : Act} {o : Oper} {k : S → Ch → Prop} {K : Act → World → Prop} {Q : Exit → Act → World → Prop} {PC : Nat → List S → List Ob → (S → List Ob → Prop) → Prop} {mt : List Nat}

theorem RS.tup1 {c1 : Value} {s1 : S} (h1 : RS F φ w c1 s1) : RS F φ w (.tuple #[c1]) (.tup [s1]) := by
 refine .tup _ _ rfl ?_
 intro j c x q1 q2
 match j, q1, q2 with
 | 0, q1, q2 => cases q1; cases q2; exact h1
 | j + 1, q1, q2 => simp at q2
theorem RS.tup2 {c1 c2 : Value} {s1 s2 : S} (h1 : RS F φ w c1 s1) (h2 : RS F φ w c2 s2) : RS F φ w (.tuple #[c1, c2]) (.tup [s1, s2]) := by
 refine .tup _ _ rfl ?_
 intro j c x q1 q2
 match j, q1, q2 with
 | 0, q1, q2 => cases q1; cases q2; exact h1
 | 1, q1, q2 => cases q1; cases q2; exact h2
 | j + 2, q1, q2 => simp at q2
theorem RS.tup3 {c1 c2 c3 : Value} {s1 s2 s3 : S} (h1 : RS F φ w c1 s1) (h2 : RS F φ w c2 s2) (h3 : RS F φ w c3 s3) : RS F φ w (.tuple #[c1, c2, c3]) (.tup [s1, s2, s3]) := by
 refine .tup _ _ rfl ?_
 intro j c x q1 q2
 match j, q1, q2 with
 | 0, q1, q2 => cases q1; cases q2; exact h1
 | 1, q1, q2 => cases q1; cases q2; exact h2
 | 2, q1, q2 => cases q1; cases q2; exact h3
 | j + 3, q1, q2 => simp at q2
theorem mapT_inv (hT : TabOK P T) {t : Nat} {k : Nat → TI → Prop} (hk : mapT T t k) : ∃ kt e ei, P.underlying t = some (.map kt e) ∧ TIok P T e ei ∧ k kt ei := by
 unfold mapT at hk
 split at hk
 ·rename_i ti hti
  obtain ⟨i, z, d, hi, h1, h2, h3, h4, h5, hd, hkd⟩ := hT t ti hti
  split at hk
  ·rename_i kt e he
   simp only [he] at hkd
   subst hkd
   split at hk
   ·rename_i ei hei
    exact ⟨kt, e, ei, hd, hT e ei hei, hk⟩
   ·exact hk.elim
  ·exact hk.elim
 ·exact hk.elim

theorem bytes_toList_beq (x y : ByteArray) : (x == y) = (x.toList == y.toList) := by
 rw [Bool.eq_iff_iff, bytes_beq, beq_iff_eq, ByteArray.toList_eq, ByteArray.toList_eq]
 obtain ⟨⟨x⟩⟩ := x
 obtain ⟨⟨y⟩⟩ := y
 simp

theorem sameNow_sound {d : TypeDesc} {c c' : Value} {kv : V} {s : S} {b : Bool} (hd : d = .string ∨ ∃ q, d = .int q) (hc : RT F w c kv) (hs : RTS F w c' s) (hk : keyE (.c kv) s = some b) (hI : IsKey d c) : Instr.sameNow d c c' = some b := by
 unfold keyE at hk
 cases s with
 | c sv =>
  simp only at hk
  unfold keyB at hk
  split at hk
  ·cases hc
   have hs' : RT F w c' (.int _ _) := hs
   cases hs'
   rename_i ka x kb y
   cases hq : beqK ka kb with
   | false => simp [hq] at hk
   | true =>
    simp only [hq, cond_true, Option.some.injEq] at hk
    have := beqK_eq hq
    subst this
    rcases hd with rfl | ⟨q, rfl⟩
    ·exact hI.elim
    ·simp [Instr.sameNow, hk]
  ·cases hc
   have hs' : RT F w c' (.str _) := hs
   cases hs'
   simp only [Option.some.injEq] at hk
   rcases hd with rfl | ⟨q, rfl⟩
   ·simp only [Instr.sameNow, bytes_toList_beq, hk]
   ·exact hI.elim
  ·cases hk
 | _ => simp at hk

theorem findNow_sound {d : TypeDesc} {c : Value} {kv : V} (hd : d = .string ∨ ∃ q, d = .int q) (hc : RT F w c kv) (hI : IsKey d c) : ∀ (es : Ents) (ents : List MapEntry) (i : Nat) (r : Option (Nat × Nat × S)), P2 (REK F w) ents es → findM keyE (.c kv) es i = some r →
  match r with
  | none => Instr.findNow d c ents i = some none
  | some (j, n, v) => i ≤ j ∧ ∃ e x, ents[j - i]? = some e ∧ es[j - i]? = some x ∧ x.1 = n ∧ x.2.2 = v ∧ REK F w e x ∧ Instr.findNow d c ents i = some (some (j, e.val))
 | [], ents, i, r, hp, hk => by
  rw [hp.nil_inv]
  simp only [findM, Option.some.injEq] at hk
  subst hk
  rfl
 | x :: es, ents, i, r, hp, hk => by
  obtain ⟨e, ents', rfl, he, hp'⟩ := hp.cons_inv
  simp only [findM] at hk
  cases hb : keyE (.c kv) x.2.1 with
  | none => simp [hb] at hk
  | some b =>
   have hs := sameNow_sound hd hc he.2.1 hb hI
   cases b with
   | true =>
    simp only [hb, Option.some.injEq] at hk
    subst hk
    exact ⟨Nat.le_refl _, e, x, by simp, by simp, rfl, rfl, he, by simp [Instr.findNow, hs]⟩
   | false =>
    simp only [hb] at hk
    have ih := findNow_sound hd hc hI es ents' (i + 1) r hp' hk
    cases r with
    | none => simp only at ih ⊢; simp [Instr.findNow, hs, ih]
    | some q =>
     obtain ⟨j, n, v⟩ := q
     obtain ⟨h1, e', x', h2, h3, h4, h5, h6, h7⟩ := ih
     refine ⟨by omega, e', x', ?_, ?_, h4, h5, h6, by simp [Instr.findNow, hs, h7]⟩
     ·rw [show j - i = (j - (i + 1)) + 1 by omega]; simpa using h2
     ·rw [show j - i = (j - (i + 1)) + 1 by omega]; simpa using h3

theorem run_zeroValue {t : Nat} {ti : TI} (ht : TIok P T t ti) {k : S → Prop} (hk : zeroS ti k) : ∃ c s, (zeroValue t).run P w = .ok c w ∧ RTS F w c s ∧ k s := by
 have hag := ht.isAgg w
 obtain ⟨i, z, d, hi, h1, h2, h3, h4, h5, hd, hkd⟩ := ht
 have hrun : (zeroValue t).run P w = .ok z w := by simp [zeroValue, typeInfo, hi, h3]
 obtain ⟨h4, h6⟩ := h4
 have hall : ∀ (cs : List Value) (vs : List V), constVs cs = some vs → P2 (RT F w) cs vs := by
  intro cs
  induction cs with
  | nil => intro vs hv; simp [constVs] at hv; subst hv; exact P2.nil
  | cons c r ih =>
   intro vs hv
   simp only [constVs] at hv
   split at hv
   ·rename_i v hv1
    split at hv
    ·rename_i vs' hv2; cases hv; exact P2.cons (constV_sound hv1) (ih _ hv2)
    ·cases hv
   ·cases hv
 have hall := hall _ _ h5
 have hlen : ti.zero.length = ti.size := by rw [← hall.1, ← h4]; simp
 unfold zeroS mkS at hk
 cases hA : isAggK ti.kind with
 | true =>
  rw [hA] at h6
  cases z <;> simp only [aggV] at h6 <;> try (cases h6)
  rename_i cs
  simp only [hA, cond_true, hlen, Nat.ble_eq_true_of_le (Nat.le_refl _)] at hk
  rw [show takeN ti.size ti.zero = ti.zero by
   apply List.ext_getElem?
   intro j
   by_cases hj : j < ti.size
   ·exact takeN_get _ _ _ hj
   ·rw [List.getElem?_eq_none (by rw [takeN_len _ _ (by omega)]; omega), List.getElem?_eq_none (by omega)]] at hk
  exact ⟨_, .agg ti.zero, hrun, ⟨cs, rfl, hall⟩, hk⟩
 | false =>
  rw [hA] at h6
  simp only [hA, cond_false] at hk
  cases hzz : ti.zero with
  | nil => simp [hzz] at hk
  | cons v r =>
   simp only [hzz] at hk
   rw [hzz] at hall
   have hcz : z.cells = #[z] := by cases z <;> first | rfl | simp [aggV] at h6
   rw [hcz] at hall
   obtain ⟨x, xs, e1, e2, e3⟩ := hall.cons_inv
   simp only [List.cons.injEq] at e1
   obtain ⟨rfl, _⟩ := e1
   exact ⟨_, .c v, hrun, e2, hk⟩

theorem fzS_sound {s : S} {c : Value} {k : S → Ch → Prop} {l : Nat} (hr : Rp F φ X w h) (hX : ∀ b, w.heap.size ≤ b → X b) (hs : RS F φ w c s) (hk : fzS (fun l' => bif Nat.beq l' l then none else h l') s k) :
  ∃ F' ch s', Nx F φ w h N ch F' φ w ∧ chGet ch l = none ∧ RTS F' w c s' ∧ k s' ch := by
 have hh : ∀ l' ob, (bif Nat.beq l' l then none else h l') = some ob → l' ≠ l ∧ h l' = some ob := by
  intro l' ob hl'
  rw [beq_dec] at hl'
  by_cases e : l' = l
  ·simp [e] at hl'
  ·exact ⟨e, by simpa [e] using hl'⟩
 have hr0 : Rp F φ X w (fun l' => bif Nat.beq l' l then none else h l') :=
  ⟨fun l' ob hl' => hr.objs l' ob (hh l' ob hl').2, fun l1 l2 o1 o2 b h1 h2 => hr.inj l1 l2 o1 o2 b (hh l1 o1 h1).2 (hh l2 o2 h2).2, fun l' ob b hl' => hr.inX l' ob b (hh l' ob hl').2, hr.bd, hr.one, hr.tb⟩
 have key : ∀ (F1 : Nat → Prop) (ch : Ch), Nx F φ w (fun l' => bif Nat.beq l' l then none else h l') N ch F1 φ w → (∀ x, (chGet ch x).isSome → (bif Nat.beq x l then none else h x).isSome) → Nx F φ w h N ch F1 φ w ∧ chGet ch l = none := by
  intro F1 ch hn1 hsub
  refine ⟨⟨hn1.hF, hn1.hφ, hn1.nφ, hn1.os, hn1.tape, hn1.output, hn1.drawn, hn1.size, ?_, ?_, hn1.objs, ?_, hn1.inj⟩, ?_⟩
  ·intro b hb' hne; exact (hne rfl).elim
  ·intro b hb'
   rcases hn1.nF b hb' with h1 | ⟨h1, h2 | ⟨l', ob, k1, k2⟩⟩
   ·exact .inl h1
   ·exact .inr ⟨h1, .inl h2⟩
   ·exact .inr ⟨h1, .inr ⟨l', ob, (hh l' ob k1).2, k2⟩⟩
  ·intro l' ob b h1 h2 h3
   rcases hn1.own l' ob b h1 h2 h3 with h4 | ⟨l2, o2, k1, k2⟩
   ·exact .inl h4
   ·exact .inr ⟨l2, o2, (hh l2 o2 k1).2, k2⟩
  ·cases hc : chGet ch l with
   | none => rfl
   | some o' => have := hsub l (by rw [hc]; rfl); simp [beq_dec] at this
 unfold fzS at hk
 split at hk
 ·rename_i v
  cases hs with | c hv =>
  obtain ⟨F', ch, vs', h1, h2, h3, h4⟩ := fz_sound (N := N) [c] [v] _ _ _ hr0 hX (P2.cons hv P2.nil) hk
  obtain ⟨g1, g2⟩ := key _ _ h1 h4
  split at h3
  ·rename_i v'
   obtain ⟨x, xs, e1, e2, e3⟩ := h2.cons_inv
   cases e1
   exact ⟨F', ch, .c v', g1, g2, e2, h3⟩
  ·exact h3.elim
 ·rename_i vs
  cases hs with | agg cs vs hv =>
  obtain ⟨F', ch, vs', h1, h2, h3, h4⟩ := fz_sound (N := N) _ vs _ _ _ hr0 hX hv hk
  obtain ⟨g1, g2⟩ := key _ _ h1 h4
  exact ⟨F', ch, .agg vs', g1, g2, ⟨cs, rfl, h2⟩, h3⟩
 ·exact hk.elim

theorem Nx.noblk (hr : Rp F φ X w h) (hN : N id) (hid : φ id = none) (c : Value) (hc1 : c.oneCell' = true) (hc2 : hb c = none) (e sz : Nat) (ho : RO F (addφ φ id c) w id (.row e sz [])) : Nx F φ w h N [(id, .row e sz [])] F (addφ φ id c) w := by
 have hq : ∀ l x, chGet [(id, Ob.row e sz [])] l = some x → l = id ∧ x = .row e sz [] := by
  intro l x hx
  simp only [chGet] at hx
  split at hx
  ·rename_i e; subst e; cases hx; exact ⟨rfl, rfl⟩
  ·cases hx
 refine ⟨fun _ h => h, addφ_ext hid _, ?_, rfl, rfl, rfl, fun _ => Nat.le_refl _, Nat.le_refl _, fun b _ hne => (hne rfl).elim, fun b hb' => .inl hb', ?_, ?_, ?_⟩
 ·intro l c' hl
  unfold addφ at hl
  split at hl
  ·rename_i e; subst e; cases hl; exact .inr ⟨hN, hc1⟩
  ·exact .inl hl
 ·intro l x hx
  obtain ⟨rfl, rfl⟩ := hq l x hx
  exact ho
 ·intro l x b hx _ hb'
  obtain ⟨rfl, rfl⟩ := hq l x hx
  replace hb' := hb'.base; simp [blkOf, addφ, hc2] at hb'
 ·intro l l' x x' b hx hx' _ _ hb' _
  rw [(hq l x hx).1, (hq l' x' hx').1]

theorem op_slice0 {t : Nat} {x b m : Operand} {s1 s2 s3 : S} (hT : TabOK P T) (hr : Rp F φ X w h) (hN : N id) (hid : φ id = none) (ho : o.op = .slice t x none (some b) (some m)) (hx : RS F φ w (a.eval x) s1) (hb1 : RS F φ w (a.eval b) s2) (hm : RS F φ w (a.eval m) s3)
  (hk : elemTIe T t fun e ei => aSlice0 h id e ei s1 s2 s3 k) (hc : Ct F φ w h N o a k K) : o.wp P a w K Q := by
 obtain ⟨e, ei, hu, hei, hpos, hk2⟩ := elemTIe_inv hT hk
 clear hk
 have hk := hk2
 clear hk2
 have hsz := hei.sizeOf w
 unfold aSlice0 at hk
 split at hk
 ·rename_i k1 n k2 m'
  have e2 := hb1.int_inv
  have e3 := hm.int_inv
  simp only at hk
  split at hk
  ·have hrun : ∀ (ad : Option Addr) (n cap : Nat), a.eval x = .slice ad n cap → (execOp a.eval o).run P w = .ok (.value (.slice ad 0 0)) w := by
    intro ad n cap hev
    simp [execOp, ho, hev, e2, e3, Instr.sliceAt, run_underlying hu, Instr.slice, Instr.sliceBounds, Instr.sliceBound, asIntOf, hsz]
   have fin : ∀ (ad : Option Addr) (n cap sz : Nat), a.eval x = .slice ad n cap → (bif Nat.beq sz ei.size then k (.c (.row id)) [(id, .row e ei.size [])] else False) → o.wp P a w K Q := by
    intro ad n cap sz hev hk
    cases hq : Nat.beq sz ei.size with
    | false => simp [hq] at hk
    | true =>
     simp only [hq, cond_true] at hk
     have hro : RO F (addφ φ id (.slice ad 0 0)) w id (.row e ei.size []) := by
      cases ad with
      | none => exact RO.mkrow (c := .slice none 0 0) (xs := []) (by simp [addφ]) (fun b hb' => by simp [hb] at hb') (World.ownsRow_nil _ _ _ _) P2.nil (by simp)
      | some p => exact .inr ⟨rfl, p, by simp [addφ]⟩
     have hn := Nx.noblk hr hN hid (.slice ad 0 0) rfl (by cases ad <;> rfl) e ei.size hro
     exact wp_value (hrun ad n cap hev) (hc _ _ _ _ _ _ hn (.c (.row id _ (by simp [addφ]))) hk)
   generalize hev : a.eval x = cv at hx
   split at hk
   ·cases hx with | c hx => cases hx with | tree hx =>
     cases hx
     exact ct_same hc (.c (.tree .nils)) hk (hrun none 0 0 hev)
   ·cases hx with | c hx => cases hx with | tree hx =>
     obtain ⟨ad, cap, rfl⟩ := hx.lst_shape
     exact fin _ _ _ _ hev hk
   ·rename_i l
    have hl := hx.row_inv
    split at hk
    ·rename_i e2 sz rows hob
     obtain ⟨ad, n, cap, h1, h2⟩ := (hr.objs l _ hob).row_shape
     rw [hl] at h1; cases h1
     exact fin _ _ _ _ hev hk
    ·rename_i sz rows hob
     obtain ⟨c', h1, h2⟩ := hr.objs l _ hob
     rw [hl] at h1; cases h1
     obtain ⟨ad, cap, rfl⟩ := h2.lst_shape
     exact fin _ _ _ _ hev hk
    ·exact hk.elim
   ·exact hk.elim
  ·exact hk.elim
 ·exact hk.elim

theorem RS.mp_inv {c : Value} {l : Nat} (hs : RS F φ w c (.c (.mp l))) : φ l = some c := by
 cases hs with | c hv => cases hv with
  | tree hv => cases hv
  | mp l c hl => exact hl
theorem RS.nilm_inv {c : Value} (hs : RS F φ w c (.c .nilm)) : c = .map none := by
 cases hs with | c hv => cases hv with | tree hv => cases hv; rfl

theorem Nx.setObj (hr : Rp F φ X w h) {l : Nat} {ob ob' : Ob} (hl : h l = some ob) (hv : live ob = true) {g : Nat} (hg : blkOf φ l = some g) {old : Obj} (o : Obj) (w' : World) (hh : w.heap[g]? = some old) (hw : w'.heap = w.heap.setIfInBounds g o) (h1 : w'.os = w.os) (h2 : w'.tape = w.tape) (h3 : w'.output = w.output) (h4 : dm → w.drawn ≤ w'.drawn)
  (ho : RO F φ w' l ob') (hsub : ∀ b, insB ob' b → False := by exact fun _ h => h) : Nx F φ w h N [(l, ob')] F φ w' := by
 have hq : ∀ l2 x, chGet [(l, ob')] l2 = some x → l2 = l ∧ x = ob' := by
  intro l2 x hx
  simp only [chGet] at hx
  split at hx
  ·rename_i e; subst e; cases hx; exact ⟨rfl, rfl⟩
  ·cases hx
 refine ⟨fun _ h => h, fun _ _ h => h, fun _ _ h => .inl h, h1, h2, h3, h4, by rw [hw]; simp, ?_, fun b h => .inl h, ?_, ?_, ?_⟩
 ·intro b hb1 hne
  refine ⟨l, ob, hl, hv, ?_, by simp [chGet]⟩
  by_cases e : b = g
  ·subst e; exact .inl hg
  ·exact (hne (by rw [hw]; simp [Array.getElem?_setIfInBounds, Ne.symm e])).elim
 ·intro l2 x hx
  obtain ⟨rfl, rfl⟩ := hq l2 x hx
  exact ho
 ·intro l2 x b hx _ hbk
  obtain ⟨rfl, rfl⟩ := hq l2 x hx
  exact .inr ⟨l2, ob, hl, hv, .inl (hbk.base (hsub b)), by simp [chGet]⟩
 ·intro l2 l3 x x' b hx hx' _ _ _ _
  rw [(hq l2 x hx).1, (hq l3 x' hx').1]

theorem keepF_set {g : Nat} {o : Obj} (hg : ¬ F g) : ∀ b, F b → (w.heap.setIfInBounds g o)[b]? = w.heap[b]? := by
 intro b hb'
 by_cases e : b = g
 ·subst e; exact (hg hb').elim
 ·simp [Array.getElem?_setIfInBounds, Ne.symm e]

theorem op_nilcmp {op : BinOp} {t : Nat} {t2 : TypeId} {x y : Operand} {s1 : S} (hT : TabOK P T) (hr : Rp F φ X w h) (ho : o.op = .binOp op t x y t2) (hop : isEq op = true) (hx : RS F φ w (a.eval x) s1) (hy : RS F φ w (a.eval y) (.c .nils)) (hk : aNil T h t op s1 k) (hc : Ct F φ w h N o a k K) : o.wp P a w K Q := by
 have ey : a.eval y = .slice none 0 0 := by
  generalize a.eval y = c at hy
  cases hy with | c hv => cases hv with | tree hv => cases hv; rfl
 unfold aNil at hk
 split at hk
 ·rename_i ti hti
  obtain ⟨i, z, d, hi, h1, h2, h3, h4, h5, hd, hkd⟩ := hT t ti hti
  split at hk
  ·rename_i e he
   rw [he] at hkd
   subst hkd
   have hrun : ∀ (ad : Option Addr) (n cap : Nat), a.eval x = .slice ad n cap → (execOp a.eval o).run P w = .ok (.value (.bool (eqRes op ad.isNone))) w := by
    intro ad m cap hev
    have heq : (Op.equal t (.slice ad m cap) (.slice none 0 0)).run P w = .ok ad.isNone w := by
     have gen : ∀ n, (Op.equalIn (n + 1) t (.slice ad m cap) (.slice none 0 0)).run P w = .ok ad.isNone w := by
      intro n
      simp only [Op.equalIn, Sem.run_bind, run_underlying hd, Result.andThen_ok]
      cases ad <;> rfl
     exact gen 9999
    have hg : ∀ op, (eqGuard op t x y (.slice ad m cap) (.slice none 0 0)).run P w = .ok () w := by
     intro op
     unfold eqGuard
     cases op <;> rfl
    cases op <;> simp only [isEq] at hop <;> try (cases hop)
    ·have hb2 : (binOp .eql t (.slice ad m cap) (.slice none 0 0)).run P w = .ok (.bool ad.isNone) w := by
      show (do pure (.bool (← Op.equal t (.slice ad m cap) (.slice none 0 0))) : Sem Value).run P w = _
      rw [Sem.run_bind, heq]; rfl
     simp only [execOp, ho, hev, ey, Sem.run_bind, hg, Result.andThen_ok, hb2]
     rfl
    ·have hb2 : (binOp .neq t (.slice ad m cap) (.slice none 0 0)).run P w = .ok (.bool (!ad.isNone)) w := by
      show (do pure (.bool (!(← Op.equal t (.slice ad m cap) (.slice none 0 0)))) : Sem Value).run P w = _
      rw [Sem.run_bind, heq]; rfl
     simp only [execOp, ho, hev, ey, Sem.run_bind, hg, Result.andThen_ok, hb2]
     rfl
   have hb : ∀ b : Bool, RS F φ w (.bool b) (vtt b) := by
    intro b; cases b
    ·exact .c (.tree .ff)
    ·exact .c (.tree .tt)
   have fin : ∀ (ad : Option Addr) (n cap : Nat) (rows : List (List V)), a.eval x = .slice ad n cap → (ad = none → rows = []) → NilG rows (k (vtt (eqRes op true)) []) (k (vtt (eqRes op false)) []) → o.wp P a w K Q := by
    intro ad n cap rows hev hn hk
    cases ad with
    | none => exact ct_same hc (hb _) (hk.nil (hn rfl)) (hrun none n cap hev)
    | some p => exact ct_same hc (hb _) hk.non (hrun (some p) n cap hev)
   have hl0 : ∀ {c : Value} {sz : Nat} {rows : List (List V)}, RT F w c (.lst sz rows) → ∃ ad n cap, c = .slice ad n cap ∧ (ad = none → rows = []) := by
    intro c sz rows hh
    cases hh with
    | lst0 a cap sz h => exact ⟨_, _, _, rfl, fun _ => rfl⟩
    | lst b off n cap sz rows f _ hn => exact ⟨_, _, _, rfl, fun h => by cases h⟩
   generalize hev : a.eval x = cv at hx hrun fin
   split at hk
   ·cases hx with | c hx => cases hx with | tree hx =>
     cases hx
     exact ct_same hc (hb _) hk (hrun none 0 0 rfl)
   ·cases hx with | c hx => cases hx with | tree hx =>
     obtain ⟨ad, n, cap, rfl, hn⟩ := hl0 hx
     exact fin _ _ _ _ rfl hn hk
   ·rename_i l
    have hl := hx.row_inv
    split at hk
    ·rename_i e2 sz rows hob
     rcases hr.objs l _ hob with ⟨c', xs, g1, g2, ⟨g3, _⟩, g4, g5⟩ | ⟨rfl, p, g1⟩
     ·rw [hl] at g1; cases g1
      rcases g3.2 with ⟨rfl, hn⟩ | ⟨g, cap, cur, rfl, _⟩
      ·exact fin none 0 0 _ rfl (fun _ => List.eq_nil_of_length_eq_zero hn) hk
      ·exact fin _ _ _ _ rfl (fun h => by cases h) hk
     ·rw [hl] at g1; cases g1
      exact fin _ _ _ _ rfl (fun h => by cases h) hk
    ·rename_i sz rows hob
     obtain ⟨c', g1, g2⟩ := hr.objs l _ hob
     rw [hl] at g1; cases g1
     obtain ⟨ad, n, cap, rfl, hn⟩ := hl0 g2
     exact fin _ _ _ _ rfl hn hk
    ·exact hk.elim
   ·exact hk.elim
  ·exact hk.elim
 ·exact hk.elim

theorem op_makeMap {t : Nat} (hr : Rp F φ X w h) (hN : N id) (hid : φ id = none) (ho : o.op = .makeMap t none) (hk : k (.c (.mp id)) [(id, .map 0 [])]) (hc : Ct F φ w h N o a k K) : o.wp P a w K Q := by
 have hφ := addφ_ext hid (.map (some w.heap.size))
 have hn : Nx F φ w h N [(id, .map 0 [])] F (addφ φ id (.map (some w.heap.size))) (w.alloc (.map #[] 0)) := by
  refine Nx.new hr hN hid _ rfl _ _ (fun b hb' => by simpa [hb] using hb'.symm) ?_
  exact ⟨w.heap.size, #[], by simp [addφ], fun hF => by have := hr.bd _ hF; omega, heap_alloc_new w _, P2.nil, by simp⟩
 refine wp_value (v := .map (some w.heap.size)) (w' := w.alloc (.map #[] 0)) ?_ (hc _ _ _ _ _ _ hn (.c (.mp _ _ (by simp [addφ]))) hk)
 simp [execOp, ho, Instr.makeMap]

theorem sameC_eq {c c' : Value} {v v' : V} (hc : RT F w c v) (hs : RT F w c' v') (h : sameC v' v) : c' = c := by
 unfold sameC at h
 split at h
 ·obtain ⟨rfl, rfl⟩ := h
  cases hc; cases hs; rfl
 ·subst h
  cases hc; cases hs; rfl
 ·subst h
  cases hc; cases hs; rfl
 ·exact h.elim
theorem sameCs_eq : ∀ {cs cs' : List Value} {vs vs' : List V}, P2 (RT F w) cs vs → P2 (RT F w) cs' vs' → sameCs vs' vs → cs' = cs
 | cs, cs', [], [], h1, h2, _ => by rw [h1.nil_inv, h2.nil_inv]
 | cs, cs', [], _ :: _, _, _, h => by simp [sameCs] at h
 | cs, cs', _ :: _, [], _, _, h => by simp [sameCs] at h
 | cs, cs', v :: vs, v' :: vs', h1, h2, h => by
  obtain ⟨c, r, rfl, h3, h4⟩ := h1.cons_inv
  obtain ⟨c', r', rfl, h5, h6⟩ := h2.cons_inv
  rw [sameC_eq h3 h5 h.1, sameCs_eq h4 h6 h.2]
theorem leaf_tree {c : Value} {v : V} (hl : leafV v = true) (h : RV F φ w c v) : RT F w c v := by
 cases h with
 | tree h => exact h
 | _ => simp [leafV] at hl
theorem leafs_tree : ∀ {cs : List Value} {vs : List V}, leafVs vs = true → P2 (RV F φ w) cs vs → P2 (RT F w) cs vs
 | cs, [], _, h => by rw [h.nil_inv]; exact P2.nil
 | cs, v :: vs, hl, h => by
  obtain ⟨c, r, rfl, h1, h2⟩ := h.cons_inv
  unfold leafVs at hl
  cases hv : leafV v with
  | false => simp [hv] at hl
  | true => simp only [hv, cond_true] at hl; exact P2.cons (leaf_tree hv h1) (leafs_tree hl h2)
theorem leaf_bits {c : Value} {v : V} {n : Nat} (hl : leafV v = true) (h : RT F w c v) : Instr.sameBits (n + 1) c c = true := by
 cases h <;> simp [leafV] at hl <;> simp [Instr.sameBits, bytes_toList_beq]
structure KeyOk (P : Program) (T : List (Nat × TI)) (F : Nat → Prop) (w : World) (t : Nat) (c : Value) (key : S) : Prop where
 ck : ∀ em, (Instr.checkKey em 10000 t c).run P w = .ok () w
 rt : RTS F w c key
 find : ∀ (es : Ents) (ents : List MapEntry) (r : Option (Nat × Nat × S)), P2 (REK F w) ents es → findM (keyE2 T t) key es 0 = some r →
  match r with
  | none => (Instr.findKey t c ents).run P w = .ok none w
  | some (j, n, v) => ∃ e x, ents[j]? = some e ∧ es[j]? = some x ∧ x.1 = n ∧ x.2.2 = v ∧ REK F w e x ∧ (Instr.findKey t c ents).run P w = .ok (some (j, e.val)) w
 same : ∀ c' s, RTS F w c' s → sameK s key → c' = c
 stays : (Instr.keyThatStays c c).run P w = .ok c w
theorem KeyOk.findE {t : Nat} {c : Value} {key : S} (h : KeyOk P T F w t c key) (es : Ents) (ents : List MapEntry) (r : Option (Nat × Nat × S)) (hp : P2 (RE F w) ents es) (hf : findM (keyE2 T t) key es 0 = some r) :
  match r with
  | none => (Instr.findKey t c ents).run P w = .ok none w
  | some (j, n, v) => ∃ e x, ents[j]? = some e ∧ es[j]? = some x ∧ x.1 = n ∧ x.2.2 = v ∧ RE F w e x ∧ (Instr.findKey t c ents).run P w = .ok (some (j, e.val)) w := by
 have h1 := h.find es ents r (hp.mono fun _ _ q => ⟨q.1, q.2.1, trivial⟩) hf
 cases r with
 | none => exact h1
 | some q =>
  obtain ⟨j, n, v⟩ := q
  obtain ⟨e, x, g1, g2, g3, g4, _, g6⟩ := h1
  exact ⟨e, x, g1, g2, g3, g4, hp.2 j e x g1 g2, g6⟩
theorem checkKey_run (hT : TabOK P T) (em : Bool) : ∀ (n m t : Nat) (ti : TI) (xs : List V) (b : Bool) (cx : Value), n ≤ m → getA T t = some ti → CellsR F φ w ti cx xs → eqW T n t xs xs = some b → (Instr.checkKey em m t cx).run P w = .ok () w
 | 0, m, t, ti, xs, b, cx, _, _, _, h => by simp [eqW] at h
 | n + 1, 0, t, ti, xs, b, cx, hnd, _, _, _ => by omega
 | n + 1, m + 1, t, ti, xs, b, cx, hnd, hti, hx, h => by
  obtain ⟨i, z, ds, hi, q1, q2, q3, q4, q5, hd, hkd⟩ := hT t ti hti
  simp only [eqW, hti] at h
  cases hk : ti.kind with
  | int kk =>
   simp only [hk] at hkd
   subst hkd
   unfold Instr.checkKey
   simp only [Sem.run_bind, run_underlying hd, Result.andThen]
   cases cx <;> rfl
  | string =>
   simp only [hk] at hkd
   subst hkd
   unfold Instr.checkKey
   simp only [Sem.run_bind, run_underlying hd, Result.andThen]
   cases cx <;> rfl
  | bool =>
   simp only [hk] at hkd
   subst hkd
   unfold Instr.checkKey
   simp only [Sem.run_bind, run_underlying hd, Result.andThen]
   cases cx <;> rfl
  | struct fs =>
   simp only [hk] at h hkd
   obtain ⟨fields, rfl, ⟨hmap, hall, heq⟩, hf⟩ := hkd
   cases hq : ti.eq && (Nat.beq xs.length ti.size && Nat.beq xs.length ti.size) with
   | false => rw [hq] at h; cases h
   | true =>
    simp only [hq, cond_true] at h
    rcases hx with ⟨_, csx, rfl, hpx⟩ | ⟨hA, _⟩
    rotate_left
    ·simp [hk, isAggK] at hA
    unfold Instr.checkKey
    simp only [Sem.run_bind, run_underlying hd, Result.andThen]
    have key : ∀ (B : Field → PUnit → Sem (ForInStep PUnit)), (∀ f c1, (part f.type csx f.offset).run P w = .ok c1 w → (Instr.checkKey em m f.type c1).run P w = .ok () w → (B f PUnit.unit).run P w = .ok (.yield PUnit.unit) w) → ∀ (fl : List Field) (b : Bool), eqFs T (eqW T n) (fl.map fun f => (f.offset, f.type)) xs xs = some b →
      (forIn fl PUnit.unit B).run P w = .ok PUnit.unit w := by
     intro B hB fl
     induction fl with
     | nil => intro b _; simp [List.forIn_nil]
     | cons f r ih =>
      intro b h
      simp only [List.map_cons, eqFs] at h
      cases hfi : getA T f.type with
      | none => simp [hfi] at h
      | some fi =>
       simp only [hfi] at h
       cases hb1 : eqW T n f.type (takeN fi.size (dropN f.offset xs)) (takeN fi.size (dropN f.offset xs)) with
       | none => simp [hb1] at h
       | some b1 =>
        simp only [hb1] at h
        obtain ⟨s1, s2⟩ := eqW_shape hfi hb1
        obtain ⟨c1, r1, g1⟩ := part_cells (off := f.offset) (hT _ _ hfi) hpx (fun h => (s1 h).1) (fun h => (s2 h).1)
        have hr := checkKey_run hT em n m f.type fi _ b1 c1 (by omega) hfi g1 hb1
        have hrest : (forIn r PUnit.unit B).run P w = .ok PUnit.unit w := by
         cases r with
         | nil => simp [List.forIn_nil]
         | cons f' r' =>
          simp only [List.map_cons] at h
          cases hc : eqFs T (eqW T n) ((f'.offset, f'.type) :: r'.map fun f => (f.offset, f.type)) xs xs with
          | none => simp [hc] at h
          | some b2 => exact ih b2 hc
        rw [List.forIn_cons]
        simp only [Sem.run_bind, hB f c1 r1 hr, Result.andThen, hrest]
    rw [← hmap] at h
    rw [← Array.forIn_toList]
    rw [key _ ?_ fields.toList b h]
    ·rfl
    ·intro f c1 r1 hr
     by_cases hn : f.name = "_"
     ·simp [hn]
     ·simp [hn, r1, hr, Result.andThen]
  | _ => simp [hk] at h
theorem findAsking_sound (hT : TabOK P T) {t : Nat} {ti : TI} (hti : getA T t = some ti) {c : Value} {xs : List V} (hA : isAggK ti.kind = true) {cs : Array Value} (hc : c = .agg cs) (hp : P2 (RT F w) cs.toList xs) : ∀ (es : Ents) (ents : List MapEntry) (i : Nat) (r : Option (Nat × Nat × S)), P2 (REK F w) ents es → findM (keyE2 T t) (.agg xs) es i = some r →
  match r with
  | none => (Instr.findAsking t c ents i).run P w = .ok none w
  | some (j, n, v) => i ≤ j ∧ ∃ e x, ents[j - i]? = some e ∧ es[j - i]? = some x ∧ x.1 = n ∧ x.2.2 = v ∧ REK F w e x ∧ (Instr.findAsking t c ents i).run P w = .ok (some (j, e.val)) w
 | [], ents, i, r, hp, hk => by
  rw [hp.nil_inv]
  simp only [findM, Option.some.injEq] at hk
  subst hk
  simp [Instr.findAsking]
 | x :: es, ents, i, r, hp2, hk => by
  obtain ⟨e, ents', rfl, he, hp'⟩ := hp2.cons_inv
  simp only [findM] at hk
  cases hb : keyE2 T t (.agg xs) x.2.1 with
  | none => simp [hb] at hk
  | some b =>
   have hs : (Op.equal t c e.key).run P w = .ok b w := by
    have hq := he.2.1
    cases hx2 : x.2.1 with
    | agg ys =>
     rw [hx2] at hb hq
     obtain ⟨cs', he', hp''⟩ := hq
     refine eqW_run (φ := fun _ => none) hT 6 _ t ti xs ys b c e.key (by decide) hti (.inl ⟨hA, cs, hc, hp.mono fun _ _ h => .tree h⟩) (.inl ⟨hA, cs', he', hp''.mono fun _ _ h => .tree h⟩) hb
    | _ => rw [hx2] at hb; simp [keyE2] at hb
   cases b with
   | true =>
    simp only [hb, Option.some.injEq] at hk
    subst hk
    exact ⟨Nat.le_refl _, e, x, by simp, by simp, rfl, rfl, he, by simp [Instr.findAsking, hs]⟩
   | false =>
    simp only [hb] at hk
    have ih := findAsking_sound hT hti hA hc hp es ents' (i + 1) r hp' hk
    cases r with
    | none => simp only at ih ⊢; simp [Instr.findAsking, hs, ih]
    | some q =>
     obtain ⟨j, n, v⟩ := q
     obtain ⟨h1, e', x', h2, h3, h4, h5, h6, h7⟩ := ih
     refine ⟨by omega, e', x', ?_, ?_, h4, h5, h6, by simp [Instr.findAsking, hs, h7]⟩
     ·rw [show j - i = (j - (i + 1)) + 1 by omega]; simpa using h2
     ·rw [show j - i = (j - (i + 1)) + 1 by omega]; simpa using h3
theorem leafs_bits {n : Nat} : ∀ {cs : List Value} {vs : List V}, leafVs vs = true → P2 (RT F w) cs vs → (cs.zip cs).all (fun p => Instr.sameBits (n + 1) p.1 p.2) = true
 | cs, [], _, h => by rw [h.nil_inv]; rfl
 | cs, v :: vs, hl, h => by
  obtain ⟨c, r, rfl, h1, h2⟩ := h.cons_inv
  unfold leafVs at hl
  cases hv : leafV v with
  | false => simp [hv] at hl
  | true =>
   simp only [hv, cond_true] at hl
   simp only [List.zip_cons_cons, List.all_cons, leaf_bits hv h1, leafs_bits hl h2, Bool.and_self]
theorem findM_congr {q q' : S → S → Option Bool} {key : S} (h : ∀ s, q key s = q' key s) : ∀ (es : Ents) (i : Nat), findM q key es i = findM q' key es i
 | [], _ => rfl
 | e :: es, i => by simp only [findM, h, findM_congr h es]
theorem keyOk_base {d : TypeDesc} {t : Nat} {c : Value} {kv : V} (hd : P.underlying t = some d) (hI : IsKey d c) (hkv : RT F w c kv) (hdd : d = .string ∨ ∃ q, d = .int q) : KeyOk P T F w t c (.c kv) := by
 refine ⟨fun em => run_checkKey (n := 9999) hd hI em, hkv, ?_, ?_, run_keyThatStays hI⟩
 ·intro es ents r hp hf
  have hcg : findM (keyE2 T t) (.c kv) es 0 = findM keyE (.c kv) es 0 := findM_congr (fun s => by cases s <;> rfl) es 0
  rw [hcg] at hf
  have h := findNow_sound hdd hkv hI es ents 0 r hp hf
  cases r with
  | none => exact run_findKey hd h
  | some q =>
   obtain ⟨j, n, v⟩ := q
   obtain ⟨_, e, x, h1, h2, h3, h4, h5, h6⟩ := h
   exact ⟨e, x, h1, h2, h3, h4, h5, run_findKey hd h6⟩
 ·intro c' s hs h
  cases s with
  | c sv => exact sameC_eq hkv hs h
  | _ => exact h.elim
theorem keyFits_inv (hT : TabOK P T) {t : Nat} {key : S} {p : Prop} {c : Value} (hx : RS F φ w c key) (hk : keyFits T t key p) : KeyOk P T F w t c key ∧ p := by
 unfold keyFits at hk
 split at hk
 ·rename_i ti hti
  have hTt := hT t ti hti
  obtain ⟨i, z, d, hi, h1, h2, h3, h4, h5, hd, hkd⟩ := hTt
  split at hk
  ·rename_i q hq
   simp only [hq] at hkd
   subst hkd
   split at hk
   ·rename_i ka n
    have e := hx.int_inv
    subst e
    cases hb' : beqK q ka with
    | false => simp [hb'] at hk
    | true =>
     simp only [hb', cond_true] at hk
     have := beqK_eq hb'
     subst this
     exact ⟨keyOk_base hd rfl (.int _ _) (.inr ⟨_, rfl⟩), hk⟩
   ·exact hk.elim
  ·rename_i hq
   simp only [hq] at hkd
   subst hkd
   split at hk
   ·have e := hx.str_inv
    subst e
    exact ⟨keyOk_base hd trivial (.str _) (.inl rfl), hk⟩
   ·exact hk.elim
  ·rename_i fs hq
   split at hk
   ·rename_i cs
    cases hlf : leafVs cs with
    | false => simp [hlf] at hk
    | true =>
     simp only [hlf, cond_true] at hk
     cases hE : eqW T 6 t cs cs with
     | none => simp [hE] at hk
     | some b0 =>
      simp only [hE] at hk
      refine ⟨?_, hk⟩
      cases hx with | agg xs _ hp =>
      have hrt := leafs_tree hlf hp
      have hA : isAggK ti.kind = true := by rw [hq]; rfl
      refine ⟨fun em => checkKey_run (φ := φ) hT em 6 10000 t ti cs b0 _ (by decide) hti (.inl ⟨hA, xs, rfl, hp⟩) hE, ⟨xs, rfl, hrt⟩, ?_, ?_, ?_⟩
      ·intro es ents r hpe hf
       have hs := findAsking_sound hT hti hA rfl hrt es ents 0 r hpe hf
       have hfk : (Instr.findKey t (.agg xs) ents).run P w = (Instr.findAsking t (.agg xs) ents 0).run P w := by
        have hkd' := hkd
        simp only [hq] at hkd'
        obtain ⟨fields, rfl, _⟩ := hkd'
        cases ents with
        | nil => simp [Instr.findKey, run_underlying hd, Result.andThen, Instr.findNow, Instr.findAsking]
        | cons e0 r0 => simp [Instr.findKey, run_underlying hd, Result.andThen, Instr.findNow, Instr.sameNow]
       cases r with
       | none => exact hfk.trans hs
       | some q =>
        obtain ⟨j, n, v⟩ := q
        obtain ⟨_, e', x', h2', h3', h4', h5', h6', h7'⟩ := hs
        exact ⟨e', x', h2', h3', h4', h5', h6', hfk.trans h7'⟩
      ·intro c' s hs hsm
       cases s with
       | agg vs' =>
        obtain ⟨cs', rfl, hp'⟩ := hs
        have := sameCs_eq hrt hp' hsm
        rw [Array.toList_inj.1 this]
       | _ => exact hsm.elim
      ·have hsb : Instr.sameBits 10000 (Value.agg xs) (.agg xs) = true := by
        simp only [Instr.sameBits, beq_self_eq_true, Bool.true_and]
        exact leafs_bits (n := 9998) hlf hrt
       simp [Instr.keyThatStays, hsb]
   ·exact hk.elim
  ·exact hk.elim
 ·exact hk.elim

theorem pmap_k {ents : List MapEntry} {es : Ents} (h : P2 (PE F φ w) ents es) : P2 (REK F w) ents es := h.mono fun _ _ q => ⟨q.1, q.2.1, trivial⟩
theorem op_lookup {t : Nat} {kt : Nat} {e : Nat} {ei : TI} {m key : Operand} {s1 s2 : S} {ok : Bool} (hT : TabOK P T) (hr : Rp F φ X w h) (ho : o.op = .lookup t m key ok) (hm : P.underlying t = some (.map kt e)) (he : TIok P T e ei)
  (h1 : RS F φ w (a.eval m) s1) (h2 : RS F φ w (a.eval key) s2) (hk : aLookup T h kt ei s1 s2 ok k) (hc : Ct F φ w h N o a k K) : o.wp P a w K Q := by
 unfold aLookup at hk
 obtain ⟨hKo, hk2⟩ := keyFits_inv hT h2 hk
 clear hk
 have hk := hk2
 clear hk2
 have hck : ∀ em, (Instr.checkKey em 10000 kt (a.eval key)).run P w = .ok () w := hKo.ck
 split at hk
 ·rename_i l
  have hl := h1.mp_inv
  split at hk
  ·rename_i clock es hob
   obtain ⟨b, ents, g1, g2, g3, g4, g5⟩ := hr.objs l _ hob
   rw [hl] at g1
   simp only [Option.some.injEq] at g1
   obtain ⟨z, zs, hz1, hz2, hk2⟩ := run_zeroValue he hk
   have hk := hk2
   obtain ⟨v, bb, hf, hk⟩ := hk
   have hfin : ∀ c, RTS F w c v → (Instr.lookup t (.map (some b)) (a.eval key) ok).run P w = .ok (if ok then .tuple #[c, .bool bb] else c) w → o.wp P a w K Q := by
    intro c hcv hrun
    cases ok with
    | true => exact ct_same hc (RS.tup2 hcv.rs (.c (.tree (.bool bb)))) hk (by simp [execOp, ho, g1, hrun])
    | false => exact ct_same hc hcv.rs hk (by simp [execOp, ho, g1, hrun])
   rcases hf with ⟨i, n, hf, rfl⟩ | ⟨hf, rfl, rfl⟩
   ·obtain ⟨e', x, q1, q2, q3, q4, q5, q6⟩ := hKo.findE es ents.toList _ g4 hf
    refine hfin e'.val (q4 ▸ q5.2.2) ?_
    simp [Instr.lookup, run_underlying hm, Go.MapKept.run_getObj_map g3, hck, q6]
   ·have q6 := hKo.findE es ents.toList _ g4 hf
    refine hfin z hz2 ?_
    simp [Instr.lookup, run_underlying hm, Go.MapKept.run_getObj_map g3, hck, q6, hz1]
  ·rename_i q p clock es hob
   obtain ⟨b, ents, g1, g2, g3, g4, g5, g6⟩ := hr.objs l _ hob
   rw [hl] at g1
   simp only [Option.some.injEq] at g1
   obtain ⟨z, zs, hz1, hz2, hk2⟩ := run_zeroValue he hk
   have hk := hk2
   obtain ⟨v, bb, hf, hk⟩ := hk
   have hfin : ∀ c, RS F φ w c v → (Instr.lookup t (.map (some b)) (a.eval key) ok).run P w = .ok (if ok then .tuple #[c, .bool bb] else c) w → o.wp P a w K Q := by
    intro c hcv hrun
    cases ok with
    | true => exact ct_same hc (RS.tup2 hcv (.c (.tree (.bool bb)))) hk (by simp [execOp, ho, g1, hrun])
    | false => exact ct_same hc hcv hk (by simp [execOp, ho, g1, hrun])
   rcases hf with ⟨i, n, hf, rfl⟩ | ⟨hf, rfl, rfl⟩
   ·obtain ⟨e', x, q1, q2, q3, q4, q5, q6⟩ := hKo.find es ents.toList _ (pmap_k g4) hf
    refine hfin e'.val (q4 ▸ (g4.2 i e' x q1 q2).2.2) ?_
    simp [Instr.lookup, run_underlying hm, Go.MapKept.run_getObj_map g3, hck, q6]
   ·have q6 := hKo.find es ents.toList _ (pmap_k g4) hf
    refine hfin z hz2.rs ?_
    simp [Instr.lookup, run_underlying hm, Go.MapKept.run_getObj_map g3, hck, q6, hz1]
  ·exact hk.elim
 ·have e1 := h1.nilm_inv
  obtain ⟨z, zs, hz1, hz2, hk2⟩ := run_zeroValue he hk
  have hk := hk2
  have q6 := hKo.findE [] [] none P2.nil rfl
  cases ok with
  | true => exact ct_same hc (RS.tup2 hz2.rs (.c (.tree .ff))) hk (by simp [execOp, ho, e1, Instr.lookup, run_underlying hm, hck, q6, hz1])
  | false => exact ct_same hc hz2.rs hk (by simp [execOp, ho, e1, Instr.lookup, run_underlying hm, hck, q6, hz1])
 ·exact hk.elim

theorem P2.set {α β : Type} {R : α → β → Prop} {xs : List α} {ys : List β} (h : P2 R xs ys) (i : Nat) {x : α} {y : β} (hxy : R x y) : P2 R (xs.set i x) (ys.set i y) := by
 refine ⟨by simp [h.1], fun j a b h1 h2 => ?_⟩
 rw [List.getElem?_set] at h1 h2
 by_cases e : i = j
 ·subst e
  simp only [if_true] at h1 h2
  by_cases e2 : i < xs.length
  ·rw [if_pos e2] at h1; rw [if_pos (by rw [← h.1]; exact e2)] at h2; cases h1; cases h2; exact hxy
  ·rw [if_neg e2] at h1; cases h1
 ·simp only [if_neg e] at h1 h2
  exact h.2 j a b h1 h2
theorem P2.eraseIdx {α β : Type} {R : α → β → Prop} : ∀ {xs : List α} {ys : List β} (_ : P2 R xs ys) (i : Nat), P2 R (xs.eraseIdx i) (ys.eraseIdx i)
 | xs, [], h, i => by rw [h.nil_inv]; exact P2.nil
 | xs, y :: ys, h, i => by
  obtain ⟨x, xs', rfl, h1, h2⟩ := h.cons_inv
  cases i with
  | zero => exact h2
  | succ i => exact P2.cons h1 (P2.eraseIdx h2 i)
theorem modify_set {ents : Array MapEntry} {i : Nat} {e : MapEntry} (h : ents.toList[i]? = some e) (f : MapEntry → MapEntry) : (ents.modify i f).toList = ents.toList.set i (f e) := by
 apply List.ext_getElem?
 intro j
 rw [Array.getElem?_toList, Array.getElem?_modify, List.getElem?_set]
 have hi : i < ents.toList.length := (List.getElem?_eq_some_iff.1 h).1
 by_cases e2 : i = j
 ·subst e2
  rw [Array.getElem?_toList] at h
  simp only [if_true, h, Option.map_some, hi]
 ·simp [e2]

theorem run_setObj_map2 {P : Program} {w : World} {r : Nat} {es : Array MapEntry} {clock : Nat} (o : Obj) (hb : w.heap[r]? = some (.map es clock)) : (setObj r o).run P w = .ok () (setBlock w r o) := by
 simp [setObj, Sem.run, hb, setBlock]

theorem map_set {F1 : Nat → Prop} {ch : Ch} {l b clock clock' : Nat} {es es' : Ents} {ents ents' : Array MapEntry} (hr : Rp F φ X w h) (hX : ∀ b, w.heap.size ≤ b → X b) (hob : h l = some (.map clock es)) (g1 : φ l = some (.map (some b))) (g3 : w.heap[b]? = some (.map ents clock))
  (hn1 : Nx F φ w h N ch F1 φ w) (hnone : chGet ch l = none) (hp : P2 (RE F1 w) ents'.toList es') (hlt : ∀ e ∈ ents'.toList, e.born < clock') : Nx F φ w h N (ch ++ [(l, .map clock' es')]) F1 φ (setBlock w b (.map ents' clock')) := by
 have hr1 := hr.next hn1 hX
 have hob1 : updF h ch l = some (.map clock es) := by unfold updF; rw [hnone]; exact hob
 obtain ⟨b2, ents2, k1, k2, k3, _⟩ := hr1.objs l _ hob1
 rw [g1] at k1; cases k1
 have hlt' : b < w.heap.size := lt_heap g3
 have hset : (setBlock w b (.map ents' clock')).heap = w.heap.setIfInBounds b (.map ents' clock') := rfl
 refine Nx.trans hr hX hn1 (Nx.setObj hr1 hob1 rfl (by simp [blkOf, g1, hb]) (.map ents' clock') _ g3 hset rfl rfl rfl (fun _ => by first | exact Nat.le_refl _ | exact Nat.le_add_right _ _ | simp) ?_)
 refine ⟨b, ents', g1, k2, ?_, ?_, hlt⟩
 ·rw [hset]; simp [hlt']
 ·exact hp.mono fun _ _ hh => hh.up (fun _ h => h) (by rw [hset]; exact keepF_set k2)

theorem pmap_set {l b p clock clock' : Nat} {q : Bool} {es es' : Ents} {ents ents' : Array MapEntry} (hr : Rp F φ X w h) (hob : h l = some (.pmap q p clock es)) (g1 : φ l = some (.map (some b))) (g3 : w.heap[b]? = some (.map ents clock))
  (hp : P2 (PE F φ w) ents'.toList es') (hlt : ∀ e ∈ ents'.toList, e.born < clock') : Nx F φ w h N [(l, .pmap true p clock' es')] F φ (setBlock w b (.map ents' clock')) := by
 obtain ⟨b2, ents2, k1, k2, k3, _⟩ := hr.objs l _ hob
 rw [g1] at k1; cases k1
 have hlt' : b < w.heap.size := lt_heap g3
 have hset : (setBlock w b (.map ents' clock')).heap = w.heap.setIfInBounds b (.map ents' clock') := rfl
 refine Nx.setObj hr hob rfl (by simp [blkOf, g1, hb]) (.map ents' clock') _ g3 hset rfl rfl rfl (fun _ => by first | exact Nat.le_refl _ | exact Nat.le_add_right _ _ | simp) ?_
 refine ⟨b, ents', g1, k2, ?_, ?_, hlt, fun h => by cases h⟩
 ·rw [hset]; simp [hlt']
 ·exact hp.mono fun _ _ hh => ⟨hh.1, hh.2.1.up (fun _ h => h) (by rw [hset]; exact keepF_set k2), hh.2.2.up (fun _ h => h) (fun _ _ h => h) (by rw [hset]; exact keepF_set k2)⟩
theorem op_mapUpdate {t : Nat} {kt : Nat} {e : Nat} {m key val : Operand} {s1 s2 s3 : S} (hT : TabOK P T) (hr : Rp F φ X w h) (hX : ∀ b, w.heap.size ≤ b → X b) (hop : o.op = .mapUpdate t m key val ∨ o.op = .insert t m key val) (hm : P.underlying t = some (.map kt e))
  (h1 : RS F φ w (a.eval m) s1) (h2 : RS F φ w (a.eval key) s2) (h3 : RS F φ w (a.eval val) s3) (hk : aMapUpdate T h kt s1 s2 s3 k) (hc : Ct F φ w h N o a k K) : o.wp P a w K Q := by
 unfold aMapUpdate at hk
 obtain ⟨hKo, hk2⟩ := keyFits_inv hT h2 hk
 clear hk
 have hk := hk2
 clear hk2
 have hck : ∀ em, (Instr.checkKey em 10000 kt (a.eval key)).run P w = .ok () w := hKo.ck
 split at hk
 ·rename_i l
  have hl := h1.mp_inv
  split at hk
  ·rename_i clock es hob
   obtain ⟨b, ents, g1, g2, g3, g4, g5⟩ := hr.objs l _ hob
   have g1' := g1
   rw [hl] at g1
   simp only [Option.some.injEq] at g1
   obtain ⟨F1, ch, s', hn1, hnone, hs', hk⟩ := fzS_sound (N := N) hr hX h3 hk
   obtain ⟨clock', es', hf, hk⟩ := hk
   have hfin : ∀ ents' : Array MapEntry, P2 (RE F1 w) ents'.toList es' → (∀ e ∈ ents'.toList, e.born < clock') → (Instr.mapUpdate t (.map (some b)) (a.eval key) (a.eval val)).run P w = .ok () (setBlock w b (.map ents' clock')) → o.wp P a w K Q := by
    intro ents' hp hlt hrun
    refine wp_skip (w' := setBlock w b (.map ents' clock')) ?_ (hc _ _ _ _ _ _ (map_set hr hX hob g1' g3 hn1 hnone hp hlt) (.bot _) hk)
    rcases hop with ho | ho <;> simp [execOp, ho, g1, hrun]
   have g4' : P2 (RE F1 w) ents.toList es := g4.mono fun _ _ hh => hh.up hn1.hF (fun _ _ => rfl)
   have hkv' : RTS F1 w (a.eval key) _ := hKo.rt.up hn1.hF (fun _ _ => rfl)
   rcases hf with ⟨i, n, v0, hf, ⟨x, hx1, hx2⟩, rfl, rfl⟩ | ⟨hf, rfl, rfl⟩
   ·obtain ⟨e', x', q1, q2, q3, q4, q5, q6⟩ := hKo.findE es ents.toList _ g4 hf
    rw [hx1] at q2
    cases q2
    have hke : e'.key = a.eval key := hKo.same _ _ q5.2.1 hx2
    refine hfin (ents.modify i fun e => { e with key := a.eval key, val := a.eval val }) ?_ ?_ ?_
    ·rw [modify_set q1]
     exact g4'.set i ⟨q5.1.trans q3, hkv', hs'⟩
    ·rw [modify_set q1]
     intro y hy
     rcases List.mem_or_eq_of_mem_set hy with h6 | rfl
     ·exact g5 y h6
     ·exact g5 e' (List.mem_of_getElem? q1)
    ·have hik : ((ents[i]?).map (·.key)).getD (a.eval key) = a.eval key := by
      rw [← Array.getElem?_toList, q1]; exact hke
     simp [Instr.mapUpdate, run_underlying hm, Go.MapKept.run_getObj_map g3, hck, q6, hik, hKo.stays, run_setObj_map2 _ g3]
   ·have q6 := hKo.findE es ents.toList _ g4 hf
    refine hfin (ents.push { key := a.eval key, val := a.eval val, born := clock }) ?_ ?_ ?_
    ·rw [Array.toList_push]
     exact g4'.append (P2.cons ⟨rfl, hkv', hs'⟩ P2.nil)
    ·rw [Array.toList_push]
     intro y hy
     rcases List.mem_append.1 hy with h6 | h6
     ·have := g5 y h6; omega
     ·simp at h6; subst h6; simp
    ·simp [Instr.mapUpdate, run_underlying hm, Go.MapKept.run_getObj_map g3, hck, q6, run_setObj_map2 _ g3]
  ·rename_i q p clock es hob
   split at hk
   ·rename_i q2
    obtain ⟨b, ents, g1, g2, g3, g4, g5, g6⟩ := hr.objs l _ hob
    have g1' := g1
    rw [hl] at g1
    simp only [Option.some.injEq] at g1
    obtain ⟨clock', es', hf, hk⟩ := hk
    have hfin : ∀ ents' : Array MapEntry, P2 (PE F φ w) ents'.toList es' → (∀ e ∈ ents'.toList, e.born < clock') → (Instr.mapUpdate t (.map (some b)) (a.eval key) (a.eval val)).run P w = .ok () (setBlock w b (.map ents' clock')) → o.wp P a w K Q := by
     intro ents' hp hlt hrun
     refine wp_skip (w' := setBlock w b (.map ents' clock')) ?_ (hc _ _ _ _ _ _ (pmap_set hr hob g1' g3 hp hlt) (.bot _) hk)
     rcases hop with ho | ho <;> simp [execOp, ho, g1, hrun]
    rcases hf with ⟨i, n, v0, hf, ⟨x, hx1, hx2⟩, rfl, rfl⟩ | ⟨hf, rfl, rfl⟩
    ·obtain ⟨e', x', q1, q2, q3, q4, q5, q6⟩ := hKo.find es ents.toList _ (pmap_k g4) hf
     rw [hx1] at q2
     cases q2
     have hke : e'.key = a.eval key := hKo.same _ _ q5.2.1 hx2
     refine hfin (ents.modify i fun e => { e with key := a.eval key, val := a.eval val }) ?_ ?_ ?_
     ·rw [modify_set q1]
      exact g4.set i ⟨q5.1.trans q3, hKo.rt, h3⟩
     ·rw [modify_set q1]
      intro y hy
      rcases List.mem_or_eq_of_mem_set hy with h6 | rfl
      ·exact g5 y h6
      ·exact g5 e' (List.mem_of_getElem? q1)
     ·have hik : ((ents[i]?).map (·.key)).getD (a.eval key) = a.eval key := by
       rw [← Array.getElem?_toList, q1]; exact hke
      simp [Instr.mapUpdate, run_underlying hm, Go.MapKept.run_getObj_map g3, hck, q6, hik, hKo.stays, run_setObj_map2 _ g3]
    ·have q6 := hKo.find es ents.toList _ (pmap_k g4) hf
     refine hfin (ents.push { key := a.eval key, val := a.eval val, born := clock }) ?_ ?_ ?_
     ·rw [Array.toList_push]
      exact g4.append (P2.cons ⟨rfl, hKo.rt, h3⟩ P2.nil)
     ·rw [Array.toList_push]
      intro y hy
      rcases List.mem_append.1 hy with h6 | h6
      ·have := g5 y h6; omega
      ·simp at h6; subst h6; simp
     ·simp [Instr.mapUpdate, run_underlying hm, Go.MapKept.run_getObj_map g3, hck, q6, run_setObj_map2 _ g3]
   ·exact hk.elim
  ·exact hk.elim
 ·exact hk.elim

theorem op_mapEntry {t : Nat} {kt : Nat} {e : Nat} {ei : TI} {m key : Operand} {s1 s2 : S} (hT : TabOK P T) (hr : Rp F φ X w h) (hX : ∀ b, w.heap.size ≤ b → X b) (ho : o.op = .mapEntry t m key) (hm : P.underlying t = some (.map kt e)) (he : TIok P T e ei)
  (h1 : RS F φ w (a.eval m) s1) (h2 : RS F φ w (a.eval key) s2) (hk : aMapEntry T h kt ei s1 s2 k) (hc : Ct F φ w h N o a k K) : o.wp P a w K Q := by
 unfold aMapEntry at hk
 obtain ⟨hKo, hk2⟩ := keyFits_inv hT h2 hk
 clear hk
 have hk := hk2
 clear hk2
 have hck : ∀ em, (Instr.checkKey em 10000 kt (a.eval key)).run P w = .ok () w := hKo.ck
 split at hk
 ·rename_i l
  have hl := h1.mp_inv
  split at hk
  ·rename_i clock es hob
   obtain ⟨b, ents, g1, g2, g3, g4, g5⟩ := hr.objs l _ hob
   have g1' := g1
   rw [hl] at g1
   simp only [Option.some.injEq] at g1
   obtain ⟨z, zs, hz1, hz2, hk2⟩ := run_zeroValue he hk
   have hk := hk2
   obtain ⟨v, n, clock', es', hf, hk⟩ := hk
   have hfin : ∀ (c : Value) (ents' : Array MapEntry), RTS F w c v → P2 (RE F w) ents'.toList es' → (∀ e ∈ ents'.toList, e.born < clock') → (Instr.mapEntry t (.map (some b)) (a.eval key)).run P w = .ok (.tuple #[c, goInt n]) (setBlock w b (.map ents' clock')) → o.wp P a w K Q := by
    intro c ents' hcv hp hlt hrun
    have hnx := map_set (N := N) hr hX hob g1' g3 Nx.refl rfl hp hlt
    have hkF : ∀ b', F b' → (setBlock w b (.map ents' clock')).heap[b']? = w.heap[b']? := keepF_set g2
    refine wp_value (v := .tuple #[c, goInt n]) (w' := setBlock w b (.map ents' clock')) ?_ (hc _ _ _ _ _ _ hnx (RS.tup2 (hcv.up (fun _ h => h) hkF).rs (.c (.tree (.int _ _)))) hk)
    simp [execOp, ho, g1, hrun]
   rcases hf with ⟨i, hf, ⟨x, hx1, hx2⟩, rfl, rfl⟩ | ⟨hf, rfl, rfl, rfl, rfl⟩
   ·obtain ⟨e', x', q1, q2, q3, q4, q5, q6⟩ := hKo.findE es ents.toList _ g4 hf
    rw [hx1] at q2
    cases q2
    have hke : e'.key = a.eval key := hKo.same _ _ q5.2.1 hx2
    refine hfin e'.val (ents.modify i fun e => { e with key := a.eval key }) (q4 ▸ q5.2.2) ?_ ?_ ?_
    ·rw [modify_set q1]
     exact g4.set i ⟨q5.1.trans q3, hKo.rt, q4 ▸ q5.2.2⟩
    ·rw [modify_set q1]
     intro y hy
     rcases List.mem_or_eq_of_mem_set hy with h6 | rfl
     ·exact g5 y h6
     ·exact g5 e' (List.mem_of_getElem? q1)
    ·have hik : ((ents[i]?).map (·.key)).getD (a.eval key) = a.eval key := by
      rw [← Array.getElem?_toList, q1]; exact hke
     have hib : ((ents[i]?).map (fun e => (e.born : Int))).getD 0 = n := by
      rw [← Array.getElem?_toList, q1]; exact congrArg Int.ofNat (q5.1.trans q3)
     simp [Instr.mapEntry, run_underlying hm, Go.MapKept.run_getObj_map g3, hck, q6, hik, hib, hKo.stays, run_setObj_map2 _ g3]
   ·have q6 := hKo.findE es ents.toList _ g4 hf
    refine hfin z (ents.push { key := a.eval key, val := z, born := n }) hz2 ?_ ?_ ?_
    ·rw [Array.toList_push]
     exact g4.append (P2.cons ⟨rfl, hKo.rt, hz2⟩ P2.nil)
    ·rw [Array.toList_push]
     intro y hy
     rcases List.mem_append.1 hy with h6 | h6
     ·have := g5 y h6; omega
     ·simp at h6; subst h6; simp
    ·simp [Instr.mapEntry, run_underlying hm, Go.MapKept.run_getObj_map g3, hck, q6, hz1, run_setObj_map2 _ g3]
  ·rename_i q p clock es hob
   obtain ⟨b, ents, g1, g2, g3, g4, g5, g6⟩ := hr.objs l _ hob
   have g1' := g1
   rw [hl] at g1
   simp only [Option.some.injEq] at g1
   obtain ⟨z, zs, hz1, hz2, hk2⟩ := run_zeroValue he hk
   have hk := hk2
   obtain ⟨v, n, clock', es', hf, hk⟩ := hk
   have hfin : ∀ (c : Value) (ents' : Array MapEntry), RS F φ w c v → P2 (PE F φ w) ents'.toList es' → (∀ e ∈ ents'.toList, e.born < clock') → (Instr.mapEntry t (.map (some b)) (a.eval key)).run P w = .ok (.tuple #[c, goInt n]) (setBlock w b (.map ents' clock')) → o.wp P a w K Q := by
    intro c ents' hcv hp hlt hrun
    have hnx := pmap_set (N := N) hr hob g1' g3 hp hlt
    have hkF : ∀ b', F b' → (setBlock w b (.map ents' clock')).heap[b']? = w.heap[b']? := keepF_set g2
    refine wp_value (v := .tuple #[c, goInt n]) (w' := setBlock w b (.map ents' clock')) ?_ (hc _ _ _ _ _ _ hnx (RS.tup2 (hcv.up (fun _ h => h) (fun _ _ h => h) hkF) (.c (.tree (.int _ _)))) hk)
    simp [execOp, ho, g1, hrun]
   rcases hf with ⟨i, hf, ⟨x, hx1, hx2⟩, rfl, rfl⟩ | ⟨hf, rfl, rfl, rfl, rfl⟩
   ·obtain ⟨e', x', q1, q2, q3, q4, q5, q6⟩ := hKo.find es ents.toList _ (pmap_k g4) hf
    have hge := (g4.2 i e' x' q1 q2).2.2
    rw [hx1] at q2
    cases q2
    have hke : e'.key = a.eval key := hKo.same _ _ q5.2.1 hx2
    refine hfin e'.val (ents.modify i fun e => { e with key := a.eval key }) (q4 ▸ hge) ?_ ?_ ?_
    ·rw [modify_set q1]
     exact g4.set i ⟨q5.1.trans q3, hKo.rt, q4 ▸ hge⟩
    ·rw [modify_set q1]
     intro y hy
     rcases List.mem_or_eq_of_mem_set hy with h6 | rfl
     ·exact g5 y h6
     ·exact g5 e' (List.mem_of_getElem? q1)
    ·have hik : ((ents[i]?).map (·.key)).getD (a.eval key) = a.eval key := by
      rw [← Array.getElem?_toList, q1]; exact hke
     have hib : ((ents[i]?).map (fun e => (e.born : Int))).getD 0 = n := by
      rw [← Array.getElem?_toList, q1]; exact congrArg Int.ofNat (q5.1.trans q3)
     simp [Instr.mapEntry, run_underlying hm, Go.MapKept.run_getObj_map g3, hck, q6, hik, hib, hKo.stays, run_setObj_map2 _ g3]
   ·have q6 := hKo.find es ents.toList _ (pmap_k g4) hf
    refine hfin z (ents.push { key := a.eval key, val := z, born := n }) hz2.rs ?_ ?_ ?_
    ·rw [Array.toList_push]
     exact g4.append (P2.cons ⟨rfl, hKo.rt, hz2.rs⟩ P2.nil)
    ·rw [Array.toList_push]
     intro y hy
     rcases List.mem_append.1 hy with h6 | h6
     ·have := g5 y h6; omega
     ·simp at h6; subst h6; simp
    ·simp [Instr.mapEntry, run_underlying hm, Go.MapKept.run_getObj_map g3, hck, q6, hz1, run_setObj_map2 _ g3]
  ·exact hk.elim
 ·exact hk.elim

theorem op_entryStore {t : Nat} {m st val : Operand} {s1 s2 s3 : S} (hr : Rp F φ X w h) (hX : ∀ b, w.heap.size ≤ b → X b) (ho : o.op = .entryStore t m st val)
  (h1 : RS F φ w (a.eval m) s1) (h2 : RS F φ w (a.eval st) s2) (h3 : RS F φ w (a.eval val) s3) (hk : aEntryStore h s1 s2 s3 k) (hc : Ct F φ w h N o a k K) : o.wp P a w K Q := by
 unfold aEntryStore at hk
 split at hk
 ·rename_i ks s
  have e2 := h2.int_inv
  split at hk
  ·rename_i l
   have hl := h1.mp_inv
   split at hk
   ·rename_i clock es hob
    obtain ⟨b, ents, g1, g2, g3, g4, g5⟩ := hr.objs l _ hob
    have g1' := g1
    rw [hl] at g1
    simp only [Option.some.injEq] at g1
    obtain ⟨F1, ch, s', hn1, hnone, hs', hk⟩ := fzS_sound (N := N) hr hX h3 hk
    obtain ⟨i, n, key, v0, ⟨q1, q2, q3⟩, hk⟩ := hk
    have g4' : P2 (RE F1 w) ents.toList es := g4.mono fun _ _ hh => hh.up hn1.hF (fun _ _ => rfl)
    obtain ⟨e', hq1, hq2⟩ := g4'.get q1
    have hfi : ents.findIdx? (fun e => (e.born : Int) == s) = some i := by
     rw [show ents.findIdx? (fun e => (e.born : Int) == s) = ents.toList.findIdx? (fun e => (e.born : Int) == s) by obtain ⟨l⟩ := ents; simp [List.findIdx?_toArray], List.findIdx?_eq_some_iff_getElem]
     have hi : i < ents.toList.length := (List.getElem?_eq_some_iff.1 hq1).1
     refine ⟨hi, ?_, ?_⟩
     ·have : ents.toList[i] = e' := (List.getElem?_eq_some_iff.1 hq1).2
      rw [this, beq_iff_eq, ← q2, hq2.1]
     ·intro j hj
      have hj' : j < ents.toList.length := by omega
      have hj2 : j < es.length := by rw [← g4.1]; exact hj'
      have hre := g4.2 j _ _ (List.getElem?_eq_getElem hj') (List.getElem?_eq_getElem hj2)
      have := q3 j hj _ (List.getElem?_eq_getElem hj2)
      rw [hre.1]
      simpa using this
    have hnx := map_set (clock' := clock) (es' := es.set i (n, key, s')) (ents' := ents.modify i fun e => { e with val := a.eval val }) hr hX hob g1' g3 hn1 hnone (by
     rw [modify_set hq1]
     exact g4'.set i ⟨hq2.1, hq2.2.1, hs'⟩) (by
     rw [modify_set hq1]
     intro y hy
     rcases List.mem_or_eq_of_mem_set hy with h6 | rfl
     ·exact g5 y h6
     ·exact g5 e' (List.mem_of_getElem? hq1))
    refine wp_skip (w' := setBlock w b (.map (ents.modify i fun e => { e with val := a.eval val }) clock)) ?_ (hc _ _ _ _ _ _ hnx (.bot _) hk)
    simp [execOp, ho, g1, e2, Instr.entryStore, Go.MapKept.run_getObj_map g3, asInt, asIntOf, hfi, run_setObj_map2 _ g3]
   ·rename_i q p clock es hob
    split at hk
    ·rename_i q0
     obtain ⟨b, ents, g1, g2, g3, g4, g5, g6⟩ := hr.objs l _ hob
     have g1' := g1
     rw [hl] at g1
     simp only [Option.some.injEq] at g1
     obtain ⟨i, n, key, v0, ⟨q1, q2, q3⟩, hk⟩ := hk
     obtain ⟨e', hq1, hq2⟩ := g4.get q1
     have hfi : ents.findIdx? (fun e => (e.born : Int) == s) = some i := by
      rw [show ents.findIdx? (fun e => (e.born : Int) == s) = ents.toList.findIdx? (fun e => (e.born : Int) == s) by obtain ⟨l⟩ := ents; simp [List.findIdx?_toArray], List.findIdx?_eq_some_iff_getElem]
      have hi : i < ents.toList.length := (List.getElem?_eq_some_iff.1 hq1).1
      refine ⟨hi, ?_, ?_⟩
      ·have : ents.toList[i] = e' := (List.getElem?_eq_some_iff.1 hq1).2
       rw [this, beq_iff_eq, ← q2, hq2.1]
      ·intro j hj
       have hj' : j < ents.toList.length := by omega
       have hj2 : j < es.length := by rw [← g4.1]; exact hj'
       have hre := g4.2 j _ _ (List.getElem?_eq_getElem hj') (List.getElem?_eq_getElem hj2)
       have := q3 j hj _ (List.getElem?_eq_getElem hj2)
       rw [hre.1]
       simpa using this
     have hnx := pmap_set (N := N) (clock' := clock) (es' := es.set i (n, key, .c (.row q0))) (ents' := ents.modify i fun e => { e with val := a.eval val }) hr hob g1' g3 (by
      rw [modify_set hq1]
      exact g4.set i ⟨hq2.1, hq2.2.1, h3⟩) (by
      rw [modify_set hq1]
      intro y hy
      rcases List.mem_or_eq_of_mem_set hy with h6 | rfl
      ·exact g5 y h6
      ·exact g5 e' (List.mem_of_getElem? hq1))
     refine wp_skip (w' := setBlock w b (.map (ents.modify i fun e => { e with val := a.eval val }) clock)) ?_ (hc _ _ _ _ _ _ hnx (.bot _) hk)
     simp [execOp, ho, g1, e2, Instr.entryStore, Go.MapKept.run_getObj_map g3, asInt, asIntOf, hfi, run_setObj_map2 _ g3]
    ·exact hk.elim
   ·exact hk.elim
  ·exact hk.elim
 ·exact hk.elim

theorem op_delete {t : Nat} {kt : Nat} {e : Nat} {m key : Operand} {s1 s2 : S} {c : Call} {ts : List TypeId} (hT : TabOK P T) (hr : Rp F φ X w h) (hX : ∀ b, w.heap.size ≤ b → X b) (ho : o.op = .call c) (hcal : c.callee = .builtin .delete) (ha : c.args.toList = [m, key]) (hts : c.argTypes.toList = t :: ts)
  (hm : P.underlying t = some (.map kt e)) (h1 : RS F φ w (a.eval m) s1) (h2 : RS F φ w (a.eval key) s2) (hk : aDelete T h kt s1 s2 k) (hc : Ct F φ w h N o a k K) : o.wp P a w K Q := by
 unfold aDelete at hk
 obtain ⟨hKo, hk2⟩ := keyFits_inv hT h2 hk
 clear hk
 have hk := hk2
 clear hk2
 have hck : ∀ em, (Instr.checkKey em 10000 kt (a.eval key)).run P w = .ok () w := hKo.ck
 have hts0 : c.argTypes[0]? = some t := by rw [← Array.getElem?_toList, hts]; rfl
 split at hk
 ·rename_i l
  have hl := h1.mp_inv
  split at hk
  ·rename_i clock es hob
   obtain ⟨b, ents, g1, g2, g3, g4, g5⟩ := hr.objs l _ hob
   have g1' := g1
   rw [hl] at g1
   simp only [Option.some.injEq] at g1
   obtain ⟨es', hf, hk⟩ := hk
   have hfin : ∀ ents' : Array MapEntry, P2 (RE F w) ents'.toList es' → (∀ e ∈ ents'.toList, e.born < clock) → (Builtin.delete_ c.argTypes o.type #[.map (some b), a.eval key]).run P w = .ok (.tuple #[]) (setBlock w b (.map ents' clock)) → o.wp P a w K Q := by
    intro ents' hp hlt hrun
    refine wp_value (v := .tuple #[]) (w' := setBlock w b (.map ents' clock)) (run_call_builtin ho hcal ha ?_) (hc _ _ _ _ _ _ (map_set (N := N) hr hX hob g1' g3 Nx.refl rfl hp hlt) (.bot _) hk)
    simp [builtin, g1, hrun]
   rcases hf with ⟨i, n, v, hf, rfl⟩ | ⟨hf, rfl⟩
   ·obtain ⟨e', x', q1, q2, q3, q4, q5, q6⟩ := hKo.findE es ents.toList _ g4 hf
    have hi : i < ents.size := by simpa using (List.getElem?_eq_some_iff.1 q1).1
    have hel : (ents.eraseIdxIfInBounds i).toList = ents.toList.eraseIdx i := by
     unfold Array.eraseIdxIfInBounds
     rw [dif_pos hi, Array.toList_eraseIdx]
    refine hfin (ents.eraseIdxIfInBounds i) (hel ▸ g4.eraseIdx i) ?_ ?_
    ·intro y hy
     rw [hel] at hy
     exact g5 y ((List.eraseIdx_sublist _ _).subset hy)
    ·simp [Builtin.delete_, hts0, run_underlying hm, Go.MapKept.run_getObj_map g3, hck, q6, run_setObj_map2 _ g3]
   ·have q6 := hKo.findE _ ents.toList _ g4 hf
    refine hfin ents g4 g5 ?_
    simp [Builtin.delete_, hts0, run_underlying hm, Go.MapKept.run_getObj_map g3, hck, q6, run_setObj_map2 _ g3]
  ·exact hk.elim
 ·exact hk.elim

theorem op_range {t kt e : Nat} {m : Operand} {s1 : S} (hr : Rp F φ X w h) (hN : N id) (hid : φ id = none) (ho : o.op = .range t m) (hm : P.underlying t = some (.map kt e)) (h1 : RS F φ w (a.eval m) s1) (hk : aRange h id s1 k) (hc : Ct F φ w h N o a k K) : o.wp P a w K Q := by
 unfold aRange at hk
 split at hk
 ·rename_i l
  have hl := h1.mp_inv
  split at hk
  ·rename_i clock es hob
   obtain ⟨b, ents, g1, g2, g3, g4, g5⟩ := hr.objs l _ hob
   have g1' := g1
   rw [hl] at g1
   simp only [Option.some.injEq] at g1
   have hn : Nx F φ w h N [(id, .iter l clock [])] F (addφ φ id (.pointer (some ⟨w.heap.size, 0, none⟩))) (w.alloc (.mapIter (some b) clock #[] clock)) := by
    refine Nx.new hr hN hid _ rfl _ _ (fun b hb' => by simpa [hb] using hb'.symm) ?_
    exact ⟨w.heap.size, b, by simp [addφ], fun hF => by have := hr.bd _ hF; omega, heap_alloc_new w _, addφ_ext hid _ _ _ g1'⟩
   refine wp_value (v := .pointer (some ⟨w.heap.size, 0, none⟩)) (w' := w.alloc (.mapIter (some b) clock #[] clock)) ?_ (hc _ _ _ _ _ _ hn (.c (.ptr _ _ _ (by simp [addφ]))) hk)
   simp [execOp, ho, g1, run_range_map w t kt e b ents clock hm g3]
  ·exact hk.elim
 ·exact hk.elim

theorem RS.ptr_inv0 {c : Value} {j : Nat} (hs : RS F φ w c (.c (.ptr j 0))) : ∃ b, c = .pointer (some ⟨b, 0, none⟩) ∧ φ j = some c := by
 cases hs with | c hv => cases hv with
  | tree hv => cases hv
  | ptr l off b hl => exact ⟨b, rfl, hl⟩

theorem left_p2 {seen : List Nat} {ents : Array MapEntry} {es : Ents} (h : P2 (RE F w) ents.toList es) : P2 (RE F w) (leftOf ents seen.reverse.toArray).toList (unseen seen es) := by
 have hl : (leftOf ents seen.reverse.toArray).toList = ents.toList.filter fun e => !seen.contains e.born := by
  unfold leftOf
  rw [Array.toList_filter]
  congr 1
  funext e
  congr 1
  rw [Bool.eq_iff_iff]
  simp
 rw [hl]
 unfold unseen
 have key : ∀ (xs : List MapEntry) (ys : Ents), P2 (RE F w) xs ys → P2 (RE F w) (xs.filter fun e => !seen.contains e.born) (ys.filter fun e => !seen.contains e.1) := by
  intro xs
  induction xs with
  | nil => intro ys hp; have := hp.1; cases ys with | nil => exact P2.nil | cons => simp at this
  | cons x r ih =>
   intro ys hp
   cases ys with
   | nil => have := hp.1; simp at this
   | cons y ys =>
    obtain ⟨x', xs', he, h1, h2⟩ := hp.cons_inv
    cases he
    simp only [List.filter_cons, h1.1]
    split
    ·exact P2.cons h1 (ih _ h2)
    ·exact ih _ h2
 exact key _ _ h

theorem op_next {it : Operand} {s1 : S} (hr : Rp F φ X w h) (ho : o.op = .next it false) (h1 : RS F φ w (a.eval it) s1) (hk : aNext h s1 k) (hc : Ct F φ w h N o a k K) : o.wp P a w K Q := by
 unfold aNext at hk
 split at hk
 ·rename_i j off
  cases hz : Nat.beq off 0 with
  | false => simp [hz] at hk
  | true =>
   have := beq_eqn hz
   subst this
   simp only [hz, cond_true] at hk
   obtain ⟨r, hev, hj⟩ := h1.ptr_inv0
   split at hk
   ·rename_i l since seen hob
    obtain ⟨r2, b, g1, g2, g3, g4⟩ := hr.objs j _ hob
    rw [hev] at hj
    rw [hj] at g1
    cases g1
    split at hk
    ·rename_i clock es hob2
     obtain ⟨b2, ents, k1, k2, k3, k4, k5⟩ := hr.objs l _ hob2
     rw [g4] at k1
     cases k1
     obtain ⟨hcs, hk⟩ := hk
     subst hcs
     obtain ⟨en, xs, hxs, h0, h1'⟩ := hk
     have hp := left_p2 (seen := seen) k4
     rcases run_next_at (P := P) w o.type r b clock clock seen.reverse.toArray ents clock g3 k3 k5 (Nat.le_refl _) with ⟨hl0, hrun⟩ | ⟨e, he, w1, hw1, hrun⟩
     ·have : xs = [] := by
       have h6 : (leftOf ents seen.reverse.toArray).toList.length = 0 := by simpa using hl0
       have h7 := hp.1
       rw [h6, hxs] at h7
       simpa using h7.symm
      exact ct_same (c := .tuple #[.bool false]) hc (RS.tup1 (.c (.tree .ff))) (h0 this) (by simp [execOp, ho, hev, hrun])
     ·obtain ⟨i, hi, hi2⟩ := List.getElem_of_mem he
      have hi3 : i < (unseen seen es).length := by rw [← hp.1]; exact hi
      have hre := hp.2 i _ _ (List.getElem?_eq_getElem hi) (List.getElem?_eq_getElem hi3)
      rw [hi2] at hre
      have hx : ∃ x ∈ xs, (unseen seen es)[i] = en x := by
       have h6 : (unseen seen es)[i] ∈ unseen seen es := List.getElem_mem _
       generalize (unseen seen es)[i] = z at h6 ⊢
       rw [hxs] at h6
       obtain ⟨x, h7, h8⟩ := List.mem_map.1 h6
       exact ⟨x, h7, h8.symm⟩
      obtain ⟨x, hx1, hx2⟩ := hx
      rw [hx2] at hre
      have hgoal := h1' x hx1
      have hh1 : w1.heap = w.heap := by rcases hw1 with rfl | rfl <;> rfl
      have hset : (setBlock w1 r (.mapIter (some b) clock (seen.reverse.toArray.push e.born) clock)).heap = w.heap.setIfInBounds r (.mapIter (some b) clock (seen.reverse.toArray.push e.born) clock) := by
       rw [← hh1]; rfl
      have hlt : r < w.heap.size := lt_heap g3
      have hkF : ∀ b', F b' → (setBlock w1 r (.mapIter (some b) clock (seen.reverse.toArray.push e.born) clock)).heap[b']? = w.heap[b']? := by rw [hset]; exact keepF_set g2
      have hnx : Nx F φ w h N [(j, .iter l clock ((en x).1 :: seen))] F φ (setBlock w1 r (.mapIter (some b) clock (seen.reverse.toArray.push e.born) clock)) := by
       refine Nx.setObj hr hob rfl (by simp [blkOf, hj, hb]) _ _ g3 hset (by rcases hw1 with rfl | rfl <;> rfl) (by rcases hw1 with rfl | rfl <;> rfl) (by rcases hw1 with rfl | rfl <;> rfl) (fun _ => by rcases hw1 with rfl | rfl <;> first | exact Nat.le_refl _ | exact Nat.le_add_right _ _) ?_
       refine ⟨r, b, hj, g2, ?_, g4⟩
       rw [hset]
       simp [hlt, hre.1]
      refine wp_value (v := .tuple #[.bool true, e.key, e.val]) (w' := setBlock w1 r (.mapIter (some b) clock (seen.reverse.toArray.push e.born) clock)) ?_ (hc _ _ _ _ _ _ hnx (RS.tup3 (.c (.tree .tt)) (hre.2.1.up (fun _ h => h) hkF).rs (hre.2.2.up (fun _ h => h) hkF).rs) hgoal)
      simp [execOp, ho, hev, hrun]
    ·exact hk.elim
   ·exact hk.elim
 ·exact hk.elim

theorem op_entry {it : Operand} {s1 : S} (hr : Rp F φ X w h) (ho : o.op = .entry it) (h1 : RS F φ w (a.eval it) s1) (hk : aEntry h s1 k) (hc : Ct F φ w h N o a k K) : o.wp P a w K Q := by
 unfold aEntry at hk
 split at hk
 ·rename_i j off
  cases hz : Nat.beq off 0 with
  | false => simp [hz] at hk
  | true =>
   have := beq_eqn hz
   subst this
   simp only [hz, cond_true] at hk
   obtain ⟨r, hev, hj⟩ := h1.ptr_inv0
   split at hk
   ·rename_i l since seen hob
    obtain ⟨r2, b, g1, g2, g3, g4⟩ := hr.objs j _ hob
    rw [hev] at hj
    rw [hj] at g1
    cases g1
    split at hk
    ·rename_i n seen'
     split at hk
     ·rename_i clock es hob2
      obtain ⟨b2, ents, k1, k2, k3, k4, k5⟩ := hr.objs l _ hob2
      rw [g4] at k1
      cases k1
      obtain ⟨hcs, hk⟩ := hk
      subst hcs
      obtain ⟨key, val, hf, hk⟩ := hk
      have hfe : ∃ e, ents.find? (fun e => e.born == n) = some e ∧ RE F w e (n, key, val) := by
       have gen : ∀ (xs : List MapEntry) (ys : Ents), P2 (RE F w) xs ys → ys.find? (fun e => e.1 == n) = some (n, key, val) → ∃ e, xs.find? (fun e => e.born == n) = some e ∧ RE F w e (n, key, val) := by
        intro xs
        induction xs with
        | nil => intro ys hp hq; have := hp.1; cases ys with | nil => simp at hq | cons => simp at this
        | cons x q ih =>
         intro ys hp hq
         cases ys with
         | nil => simp at hq
         | cons y ys =>
          obtain ⟨x', xs', he, h1, h2⟩ := hp.cons_inv
          cases he
          by_cases hyn : y.1 = n
          ·simp [List.find?_cons, hyn] at hq
           subst hq
           exact ⟨x, by simp [List.find?_cons, h1.1, hyn], h1⟩
          ·simp [List.find?_cons, hyn] at hq
           obtain ⟨e, g1, g2⟩ := ih ys h2 (by simpa using hq)
           exact ⟨e, by simpa [List.find?_cons, h1.1, hyn] using g1, g2⟩
       obtain ⟨e, he1, he2⟩ := gen _ _ k4 hf
       exact ⟨e, by rw [← Array.find?_toList]; exact he1, he2⟩
      obtain ⟨e, he1, he2⟩ := hfe
      have hrun : (Instr.entry (.pointer (some ⟨r, 0, none⟩))).run P w = .ok (.tuple #[e.key, e.val]) w := by
       have hback : (n :: seen').reverse.toArray.back? = some n := by simp
       simp only [Instr.entry, getObj, Sem.run_bind, Sem.run, g3, k3, Result.andThen, hback, bne_self_eq_false, Bool.false_eq_true, if_false, he1]
       rfl
      exact ct_same hc (RS.tup2 he2.2.1.rs he2.2.2.rs) hk (by simp [execOp, ho, hev, hrun])
     ·exact hk.elim
    ·exact hk.elim
   ·exact hk.elim
 ·exact hk.elim
end
end Abs
end Go.Proofs.YtkefgcleaalnnaaGreat
