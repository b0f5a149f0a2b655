/- Code, and whole functions. -/
import Derived.Test.YtkefgcleaalnnaaGreatAbsN
import Derived.Deep.LoopGhost
namespace Go.Proofs.YtkefgcleaalnnaaGreat
set_option linter.unusedVariables false
set_option linter.unusedSimpArgs false
namespace Abs

theorem clo_pre (h : Nat → Option Ob) : ∀ (n : Nat) (ids acc : List Nat), ∃ suf, clo h n ids acc = acc ++ suf
 | 0, _, acc => ⟨[], by simp [clo]⟩
 | _ + 1, [], acc => ⟨[], by simp [clo]⟩
 | n + 1, l :: r, acc => by
  simp only [clo]
  cases hasN acc l with
  | true => exact clo_pre h n r acc
  | false =>
   obtain ⟨suf, hs⟩ := clo_pre h n (idsO (h l) ++ r) (acc ++ [l])
   exact ⟨l :: suf, by simp [hs]⟩
theorem rangeL_get : ∀ (n i j : Nat), j < n → (rangeL i n)[j]? = some (i + j)
 | 0, _, _, h => by omega
 | n + 1, i, 0, _ => by simp [rangeL]
 | n + 1, i, j + 1, h => by simp only [rangeL, List.getElem?_cons_succ]; rw [rangeL_get n (i + 1) j (by omega)]; congr 1; omega
theorem rangeL_len : ∀ (n i : Nat), (rangeL i n).length = n
 | 0, _ => rfl
 | n + 1, i => by simp [rangeL, rangeL_len n]

section
variable {P : Program} {T : List (Nat × TI)} {mt : List Nat} {F : Nat → Prop} {φ : Nat → Option Value} {w : World} {h : Nat → Option Ob} {E : Env} {a : Act} {σ : St}

theorem getA_zipO : ∀ (os : List Ob) (i l : Nat), getA (zipO i os) l = if i ≤ l then os[l - i]? else none
 | [], i, l => by simp [zipO, getA]
 | o :: r, i, l => by
  simp only [zipO, getA, getA_zipO r, beq_dec]
  by_cases h1 : i = l
  ·subst h1; simp
  ·by_cases h2 : i ≤ l
   ·rw [if_pos (by omega), if_pos h2, show l - i = (l - (i + 1)) + 1 by omega]; simp [h1]
   ·rw [if_neg (by omega), if_neg h2]; simp [h1]

theorem anew_sound {vs : List S} {cs : List Value} {ex : List Nat} {K : List S → List Ob → Prop} (hg : GM E F φ w h) (hv : P2 (RS F φ w) cs vs) (hk : anew E.m h vs ex K) :
  ∃ φ2 vs' os, GM E F φ2 w (getA (zipO 0 os)) ∧ P2 (RS F φ2 w) cs vs' ∧ (∀ l, os.length ≤ l → φ2 l = none) ∧ E.m ≤ os.length ∧ K vs' os := by
 unfold anew at hk
 simp only [forceNs_eq] at hk
 obtain ⟨suf, hsuf⟩ := clo_pre h 60 (conts h (rangeL 0 E.m) ++ idsS.idsSs vs ++ ex) (rangeL 0 E.m)
 generalize clo h 60 (conts h (rangeL 0 E.m) ++ idsS.idsSs vs ++ ex) (rangeL 0 E.m) = ids at hk hsuf
 cases hnd : nodupB ids with
 | false => simp [hnd] at hk
 | true =>
 simp only [hnd, cond_true] at hk
 obtain ⟨os, ho1, ho2, hk⟩ := getAll_sound ids hk
 have hosinv : ∀ (i : Nat) (ob : Ob), os[i]? = some ob → ∃ l, ids[i]? = some l ∧ h l = some ob := by
  intro i ob hi
  have hlt' : i < ids.length := by rw [← ho1]; exact (List.getElem?_eq_some_iff.1 hi).1
  obtain ⟨ob2, k1, k2⟩ := ho2 i ids[i] (List.getElem?_eq_getElem hlt')
  rw [hi] at k2; cases k2
  exact ⟨_, List.getElem?_eq_getElem hlt', k1⟩
 let φc : Nat → Option Value := fun i => (ids[i]?).bind φ
 have hgi : ∀ l i d, idx ids l = some i → φ l = some d → φc i = some d := by
  intro l i d hl hd
  show (ids[i]?).bind φ = some d
  rw [idx_some hl]; exact hd
 obtain ⟨vs', hvs', hk⟩ := rnSs_sound hgi vs hv hk
 obtain ⟨os2, hs1, hs2, hk⟩ := rnOs_sound (F := F) (w := w) hgi os (fun i => (ids[i]?).getD 0) (by
  intro i ob hi
  obtain ⟨l, k1, k2⟩ := hosinv i ob hi
  simp only [k1, Option.getD_some]
  exact hg.rp.objs l ob k2) hk
 have hbc : ∀ (i l : Nat), ids[i]? = some l → blkOf φc i = blkOf φ l := by
  intro i l hi
  show (((ids[i]?).bind φ).bind hb) = _
  rw [hi]; rfl
 have hbcB : ∀ (i l : Nat) (o' o : Ob) (b : Nat), ids[i]? = some l → Like o' o → Blk φc i o' b → Blk φ l o b := by
  intro i l o' o b hi lk hB
  rcases hB with hB | hB
  ·rw [hbc i l hi] at hB; exact .inl hB
  ·exact .inr ((lk.2 b).1 hB)
 have hc2 : ∀ (i : Nat) (ob' : Ob), getA (zipO 0 os2) i = some ob' → ∃ (l : Nat) (ob : Ob), ids[i]? = some l ∧ h l = some ob ∧ Like ob' ob ∧ RO F φc w i ob' := by
  intro i ob' hi
  rw [getA_zipO] at hi
  simp only [Nat.zero_le, if_true, Nat.sub_zero] at hi
  obtain ⟨ob, k1, k2, k3⟩ := hs2 i ob' hi
  obtain ⟨l, j1, j2⟩ := hosinv i ob k1
  refine ⟨l, ob, j1, j2, k2, k3 i ?_⟩
  intro d hd
  simp only [j1, Option.getD_some] at hd
  show (ids[i]?).bind φ = some d
  rw [j1]; exact hd
 have hm : os2.length = ids.length := hs1.trans ho1
 refine ⟨φc, vs', os2, ⟨⟨?_, ?_, ?_, hg.rp.bd, ?_, hg.rp.tb⟩, ?_, hg.hF, hg.nF, hg.os, hg.tape, hg.output, hg.drawn, hg.size, hg.keep⟩, hvs', ?_, ?_, hk⟩
 ·intro i ob' hi
  obtain ⟨l, ob, _, _, _, h5⟩ := hc2 i ob' hi
  exact h5
 ·intro i i' ob ob' b h1 h2 h3 h4 h5 h6
  obtain ⟨l, x, j1, j2, j3, _⟩ := hc2 i ob h1
  obtain ⟨l', x', j1', j2', j3', _⟩ := hc2 i' ob' h2
  have h5 := hbcB i l _ _ b j1 j3 h5
  have h6 := hbcB i' l' _ _ b j1' j3' h6
  have := hg.rp.inj l l' x x' b j2 j2' (j3.1 ▸ h3) (j3'.1 ▸ h4) h5 h6
  subst this
  exact nodup_inj hnd j1 j1'
 ·intro i ob b h1 h2 h3
  obtain ⟨l, x, j1, j2, j3, _⟩ := hc2 i ob h1
  exact hg.rp.inX l x b j2 (j3.1 ▸ h2) (hbcB i l _ _ b j1 j3 h3)
 ·intro i c hc
  have hc' : (ids[i]?).bind φ = some c := hc
  cases hi : ids[i]? with
  | none => simp [hi] at hc'
  | some l => simp only [hi, Option.bind_some] at hc'; exact hg.rp.one l c hc'
 ·intro l hl
  show (ids[l]?).bind φ = _
  have : ids[l]? = some l := by
   rw [hsuf, List.getElem?_append_left (by rw [rangeL_len]; exact hl), rangeL_get _ _ _ hl, Nat.zero_add]
  rw [this]
  exact hg.pin l hl
 ·intro l hl
  show (ids[l]?).bind φ = none
  rw [List.getElem?_eq_none (by rw [← hm]; exact hl)]; rfl
 ·rw [hm, hsuf, List.length_append, rangeL_len]; omega

structure Good (E : Env) (F : Nat → Prop) (φ : Nat → Option Value) (w : World) (σ : St) (a : Act) : Prop where
 gm : GM E F φ w (getA σ.hp)
 gf : GF E.n F φ w (slot σ) a
 fr : ∀ l, σ.nx ≤ l → φ l = none
 mn : E.m ≤ σ.nx

theorem slotsOf_sound (hf : GF E.n F φ w (slot σ) a) : ∀ (cs : List Nat), P2 (RS F φ w) (cs.map fun t => a.tmps.getD t undef) (slotsOf σ cs)
 | [] => P2.nil
 | t :: r => P2.cons (hf.slots t) (slotsOf_sound hf r)
theorem zipF_sound {sl : Nat → Value} : ∀ {cs : List Nat} {vs : List S}, P2 (RS F φ w) (cs.map sl) vs → ∀ t, RS F φ w (sl t) (slot ⟨zipF cs vs, [], 0⟩ t)
 | [], vs, hp, t => by cases vs <;> exact .bot _
 | c :: r, [], hp, t => by have := hp.1; simp at this
 | c :: r, v :: vs, hp, t => by
  obtain ⟨x, xs, he, h1, h2⟩ := hp.cons_inv
  simp only [List.map_cons, List.cons.injEq] at he
  obtain ⟨rfl, rfl⟩ := he
  have ih := zipF_sound h2 t
  simp only [slot, zipF, getA, beq_dec] at ih ⊢
  by_cases e : c = t
  ·subst e; simpa using h1
  ·simpa [e] using ih

theorem nil_newO {ob : Ob} (hg : Good E F φ w σ a) (hro : RO F (addφ φ σ.nx (.slice none 0 0)) w σ.nx ob) (hi : ∀ b, insB ob b → False) : Nx F φ w (getA σ.hp) (fun l => l = σ.nx) [(σ.nx, ob)] F (addφ φ σ.nx (.slice none 0 0)) w := by
 have hid : φ σ.nx = none := hg.fr _ (Nat.le_refl _)
 have hq : ∀ l x, chGet [(σ.nx, ob)] l = some x → l = σ.nx ∧ x = ob := by
  intro l x hx
  simp only [chGet] at hx
  split at hx
  ·rename_i e; subst e; cases hx; exact ⟨rfl, rfl⟩
  ·cases hx
 refine ⟨fun _ h => h, addφ_ext hid _, ?_, rfl, rfl, rfl, fun _ => Nat.le_refl _, Nat.le_refl _, fun b _ hne => (hne rfl).elim, fun b hb' => .inl hb', ?_, ?_, ?_⟩
 ·intro l c hl
  unfold addφ at hl
  split at hl
  ·rename_i e; cases hl; exact .inr ⟨e, rfl⟩
  ·exact .inl hl
 ·intro l x hx
  obtain ⟨rfl, rfl⟩ := hq l x hx
  exact hro
 ·intro l x b hx _ hb'
  obtain ⟨rfl, rfl⟩ := hq l x hx
  replace hb' := hb'.base (hi b)
  simp [blkOf, addφ, hb] at hb'
 ·intro l l' x x' b hx hx' _ _ hb' _
  rw [(hq l x hx).1, (hq l' x' hx').1]
theorem nil_new {e sz : Nat} (hg : Good E F φ w σ a) : Nx F φ w (getA σ.hp) (fun l => l = σ.nx) [(σ.nx, .row e sz [])] F (addφ φ σ.nx (.slice none 0 0)) w :=
 nil_newO hg (RO.mkrow (c := .slice none 0 0) (xs := []) (by simp [addφ]) (fun b hb' => by simp [hb] at hb') (World.ownsRow_nil _ _ _ _) P2.nil (by simp)) fun _ h => h
theorem mergeP_sound {e sz : Nat} : ∀ (ks : List Nat) (acc : Option Nat) {σ : St} {φ : Nat → Option Value}, Good E F φ w σ a → ∃ φ', Good E F φ' w (mergeP e sz ks acc σ) a
 | [], none, σ, φ, hg => by
  have hid : φ σ.nx = none := hg.fr _ (Nat.le_refl _)
  have hn : Nx F φ w (getA σ.hp) (fun x => x = σ.nx) [(σ.nx, .pool e sz [])] F (addφ φ σ.nx (.slice none 0 0)) w := by
   exact Nx.virt (N := fun x => x = σ.nx) (ob := .pool e sz []) rfl hid (.slice none 0 0) rfl rfl ⟨by simp [addφ], by simp, by simp⟩ (by rintro b ⟨p, hp, _⟩; cases hp)
  refine ⟨addφ φ σ.nx (.slice none 0 0), ?_, ⟨fun x => (hg.gf.slots x).up hn.hF hn.hφ (fun _ _ => rfl), hg.gf.defers, hg.gf.size⟩, ?_, Nat.le_succ_of_le hg.mn⟩
  ·have := hg.gm.next (fun l hl => by subst hl; exact hg.mn) hn
   rwa [show updF (getA σ.hp) [(σ.nx, Ob.pool e sz [])] = getA (setA σ.hp σ.nx (.pool e sz [])) by
    funext l; simp only [updF, chGet, getA_setA]; by_cases e : σ.nx = l <;> simp [e]] at this
  ·intro l hl
   have hl' : σ.nx + 1 ≤ l := hl
   unfold addφ
   rw [if_neg (by omega)]
   exact hg.fr l (by omega)
 | [], some _, σ, φ, hg => ⟨φ, hg⟩
 | l :: r, acc, σ, φ, hg => by
  simp only [mergeP]
  split
  ·rename_i e' sz' ins hob
   cases hq : Nat.beq e' e && Nat.beq sz' sz with
   | false => simp only [cond_false]; exact mergeP_sound r acc hg
   | true =>
    simp only [cond_true]
    rw [Bool.and_eq_true] at hq
    have h1 := beq_eqn hq.1
    have h2 := beq_eqn hq.2
    subst h1 h2
    split
    ·exact mergeP_sound r _ hg
    ·rename_i p
     cases hpl : Nat.beq p l with
     | true => simp only [cond_true]; exact mergeP_sound r _ hg
     | false =>
      simp only [cond_false]
      split
      ·rename_i e0 sz0 ins0 hob0
       cases hq0 : Nat.beq e0 e' && Nat.beq sz0 sz' with
       | false => simp only [cond_false]; exact mergeP_sound r _ hg
       | true =>
        simp only [cond_true]
        rw [Bool.and_eq_true] at hq0
        have h1 := beq_eqn hq0.1
        have h2 := beq_eqn hq0.2
        subst h1 h2
        have hne : p ≠ l := fun e => by subst e; rw [Nat.beq_refl] at hpl; cases hpl
        have hn := Nx.merge (N := fun x => x = σ.nx) hg.gm.rp hne hob0 hob
        refine mergeP_sound r _ (φ := φ) ⟨?_, ⟨hg.gf.slots, hg.gf.defers, hg.gf.size⟩, hg.fr, hg.mn⟩
        have := hg.gm.next (fun l hl => by subst hl; exact hg.mn) hn
        rwa [show updF (getA σ.hp) [(l, Ob.dead), (p, Ob.pool e0 sz0 (ins0 ++ ins))] = getA (updH σ.hp [(l, Ob.dead), (p, Ob.pool e0 sz0 (ins0 ++ ins))]) by
         funext l2; rw [getA_updH]; rfl] at this
      ·exact mergeP_sound r _ hg
  ·exact mergeP_sound r acc hg
theorem ownNil_sound : ∀ (ow : List Own) {σ : St} {φ : Nat → Option Value}, Good E F φ w σ a → ∃ φ', Good E F φ' w (ownNil σ ow) a
 | [], σ, φ, hg => ⟨φ, hg⟩
 | .sl t e sz :: r, σ, φ, hg => by
  simp only [ownNil]
  split
  ·rename_i hs
   have hn := nil_new (e := e) (sz := sz) hg
   refine ownNil_sound r (φ := addφ φ σ.nx (.slice none 0 0)) ⟨?_, ⟨?_, hg.gf.defers, hg.gf.size⟩, ?_, Nat.le_succ_of_le hg.mn⟩
   ·have := hg.gm.next (fun l hl => by subst hl; exact hg.mn) hn
    rwa [show updF (getA σ.hp) [(σ.nx, Ob.row e sz [])] = getA (setA σ.hp σ.nx (.row e sz [])) by
     funext l; simp only [updF, chGet, getA_setA]; by_cases e : σ.nx = l <;> simp [e]] at this
   ·intro x
    have hx := hg.gf.slots x
    simp only [slot, getA_setA]
    by_cases e1 : t = x
    ·subst e1
     rw [hs] at hx
     simp only [if_true]
     generalize a.tmps.getD t undef = cv at hx ⊢
     cases hx with | c hx => cases hx with | tree hx =>
      cases hx
      exact .c (.row _ _ (by simp [addφ]))
    ·simp only [if_neg e1]
     exact hx.up hn.hF hn.hφ (fun _ _ => rfl)
   ·intro l hl
    have hl' : σ.nx + 1 ≤ l := hl
    unfold addφ
    rw [if_neg (by omega)]
    exact hg.fr l (by omega)
  ·exact ownNil_sound r hg
 | .bx t off e sz :: r, σ, φ, hg => by
  simp only [ownNil]
  split
  ·split
   ·rename_i l o hs _ cs tq hob
    split
    ·rename_i hnth
     cases hlt : Nat.blt l σ.nx with
     | false => simp only [cond_false]; exact ownNil_sound r hg
     | true =>
      simp only [cond_true]
      have hlt' : l < σ.nx := Nat.le_of_ble_eq_true hlt
      rw [nth_eq] at hnth
      obtain ⟨b, cs', T, g1, g2, g3, g4, g5⟩ := hg.gm.rp.objs l _ hob
      have hid : φ σ.nx = none := hg.fr _ (Nat.le_refl _)
      have hφ := addφ_ext hid (.slice none 0 0)
      have hlen : o + off < cs.length := (List.getElem?_eq_some_iff.1 hnth).1
      have hput : putL (o + off) [.row σ.nx] cs = cs.set (o + off) (.row σ.nx) := by
       rw [putL_eq _ _ _ (by simp; omega), List.set_eq_take_append_cons_drop, if_pos hlen]; simp
      have hq : ∀ x y, chGet [(l, Ob.box (putL (o + off) [.row σ.nx] cs) tq), (σ.nx, Ob.row e sz [])] x = some y → (x = σ.nx ∧ y = .row e sz []) ∨ (x = l ∧ y = .box (putL (o + off) [.row σ.nx] cs) tq) := by
       intro x y hx
       simp only [chGet] at hx
       by_cases e1 : σ.nx = x
       ·subst e1; simp at hx; exact .inl ⟨rfl, hx.symm⟩
       ·simp only [if_neg e1] at hx
        split at hx
        ·rename_i e2; cases hx; exact .inr ⟨e2.symm, rfl⟩
        ·cases hx
      have hn : Nx F φ w (getA σ.hp) (fun x => x = σ.nx) [(l, .box (putL (o + off) [.row σ.nx] cs) tq), (σ.nx, .row e sz [])] F (addφ φ σ.nx (.slice none 0 0)) w := by
       refine ⟨fun _ h => h, hφ, ?_, rfl, rfl, rfl, fun _ => Nat.le_refl _, Nat.le_refl _, fun b _ hne => (hne rfl).elim, fun b hb' => .inl hb', ?_, ?_, ?_⟩
       ·intro x c hl
        unfold addφ at hl
        split at hl
        ·rename_i e; cases hl; exact .inr ⟨e, rfl⟩
        ·exact .inl hl
       ·intro x y hx
        rcases hq x y hx with ⟨rfl, rfl⟩ | ⟨rfl, rfl⟩
        ·exact RO.mkrow (c := .slice none 0 0) (xs := []) (by simp [addφ]) (fun b hb' => by simp [hb] at hb') (World.ownsRow_nil _ _ _ _) P2.nil (by simp)
        ·refine ⟨b, cs', T, hφ _ _ g1, g2, g3, ?_, g5⟩
         rw [hput]
         refine ⟨by simp [g4.1], fun j c v h1 h2 => ?_⟩
         rw [List.getElem?_set] at h2
         split at h2
         ·rename_i e3
          subst e3
          cases h2
          have := g4.2 _ _ _ h1 hnth
          cases this with | tree hx => cases hx; exact .row _ _ (by simp [addφ])
         ·exact (g4.2 j c v h1 h2).up (fun _ h => h) hφ (fun _ _ => rfl)
       ·intro x y b' hx hv hb'
        rcases hq x y hx with ⟨rfl, rfl⟩ | ⟨rfl, rfl⟩
        ·replace hb' := hb'.base; simp [blkOf, addφ, hb] at hb'
        ·refine .inr ⟨x, _, hob, rfl, .inl (blkOf_down hφ ⟨_, g1⟩ hb'.base), ?_⟩
         simp only [chGet]
         rw [if_neg (by omega)]; simp
       ·intro x x' y y' b' hx hx' hv hv' hb1 hb2
        rcases hq x y hx with ⟨rfl, rfl⟩ | ⟨rfl, rfl⟩
        ·replace hb1 := hb1.base; simp [blkOf, addφ, hb] at hb1
        ·rcases hq x' y' hx' with ⟨rfl, rfl⟩ | ⟨rfl, rfl⟩
         ·replace hb2 := hb2.base; simp [blkOf, addφ, hb] at hb2
         ·rfl
      refine ownNil_sound r (φ := addφ φ σ.nx (.slice none 0 0)) ⟨?_, ⟨fun x => (hg.gf.slots x).up hn.hF hn.hφ (fun _ _ => rfl), hg.gf.defers, hg.gf.size⟩, ?_, Nat.le_succ_of_le hg.mn⟩
      ·have := hg.gm.next (fun x hx => by subst hx; exact hg.mn) hn
       rwa [show updF (getA σ.hp) [(l, Ob.box (putL (o + off) [.row σ.nx] cs) tq), (σ.nx, Ob.row e sz [])] = getA (setA (setA σ.hp l (.box (putL (o + off) [.row σ.nx] cs) tq)) σ.nx (.row e sz [])) by
        funext x; simp only [updF, chGet, getA_setA]; by_cases e : σ.nx = x <;> by_cases e2 : l = x <;> simp [e, e2]] at this
      ·intro x hl
       have hl' : σ.nx + 1 ≤ x := hl
       unfold addφ
       rw [if_neg (by omega)]
       exact hg.fr x (by omega)
    ·exact ownNil_sound r hg
   ·exact ownNil_sound r hg
  ·exact ownNil_sound r hg
 | .ob l off e sz :: r, σ, φ, hg => by
  simp only [ownNil]
  split
  ·rename_i _ cs tq hob
   split
   ·rename_i hnth
    cases hlt : Nat.blt l σ.nx with
    | false => simp only [cond_false]; exact ownNil_sound r hg
    | true =>
     simp only [cond_true]
     have hlt' : l < σ.nx := Nat.le_of_ble_eq_true hlt
     rw [nth_eq] at hnth
     obtain ⟨b, cs', T, g1, g2, g3, g4, g5⟩ := hg.gm.rp.objs l _ hob
     have hid : φ σ.nx = none := hg.fr _ (Nat.le_refl _)
     have hφ := addφ_ext hid (.slice none 0 0)
     have hlen : off < cs.length := (List.getElem?_eq_some_iff.1 hnth).1
     have hput : putL (off) [.row σ.nx] cs = cs.set (off) (.row σ.nx) := by
      rw [putL_eq _ _ _ (by simp; omega), List.set_eq_take_append_cons_drop, if_pos hlen]; simp
     have hq : ∀ x y, chGet [(l, Ob.box (putL (off) [.row σ.nx] cs) tq), (σ.nx, Ob.row e sz [])] x = some y → (x = σ.nx ∧ y = .row e sz []) ∨ (x = l ∧ y = .box (putL (off) [.row σ.nx] cs) tq) := by
      intro x y hx
      simp only [chGet] at hx
      by_cases e1 : σ.nx = x
      ·subst e1; simp at hx; exact .inl ⟨rfl, hx.symm⟩
      ·simp only [if_neg e1] at hx
       split at hx
       ·rename_i e2; cases hx; exact .inr ⟨e2.symm, rfl⟩
       ·cases hx
     have hn : Nx F φ w (getA σ.hp) (fun x => x = σ.nx) [(l, .box (putL (off) [.row σ.nx] cs) tq), (σ.nx, .row e sz [])] F (addφ φ σ.nx (.slice none 0 0)) w := by
      refine ⟨fun _ h => h, hφ, ?_, rfl, rfl, rfl, fun _ => Nat.le_refl _, Nat.le_refl _, fun b _ hne => (hne rfl).elim, fun b hb' => .inl hb', ?_, ?_, ?_⟩
      ·intro x c hl
       unfold addφ at hl
       split at hl
       ·rename_i e; cases hl; exact .inr ⟨e, rfl⟩
       ·exact .inl hl
      ·intro x y hx
       rcases hq x y hx with ⟨rfl, rfl⟩ | ⟨rfl, rfl⟩
       ·exact RO.mkrow (c := .slice none 0 0) (xs := []) (by simp [addφ]) (fun b hb' => by simp [hb] at hb') (World.ownsRow_nil _ _ _ _) P2.nil (by simp)
       ·refine ⟨b, cs', T, hφ _ _ g1, g2, g3, ?_, g5⟩
        rw [hput]
        refine ⟨by simp [g4.1], fun j c v h1 h2 => ?_⟩
        rw [List.getElem?_set] at h2
        split at h2
        ·rename_i e3
         subst e3
         cases h2
         have := g4.2 _ _ _ h1 hnth
         cases this with | tree hx => cases hx; exact .row _ _ (by simp [addφ])
        ·exact (g4.2 j c v h1 h2).up (fun _ h => h) hφ (fun _ _ => rfl)
      ·intro x y b' hx hv hb'
       rcases hq x y hx with ⟨rfl, rfl⟩ | ⟨rfl, rfl⟩
       ·replace hb' := hb'.base; simp [blkOf, addφ, hb] at hb'
       ·refine .inr ⟨x, _, hob, rfl, .inl (blkOf_down hφ ⟨_, g1⟩ hb'.base), ?_⟩
        simp only [chGet]
        rw [if_neg (by omega)]; simp
      ·intro x x' y y' b' hx hx' hv hv' hb1 hb2
       rcases hq x y hx with ⟨rfl, rfl⟩ | ⟨rfl, rfl⟩
       ·replace hb1 := hb1.base; simp [blkOf, addφ, hb] at hb1
       ·rcases hq x' y' hx' with ⟨rfl, rfl⟩ | ⟨rfl, rfl⟩
        ·replace hb2 := hb2.base; simp [blkOf, addφ, hb] at hb2
        ·rfl
     refine ownNil_sound r (φ := addφ φ σ.nx (.slice none 0 0)) ⟨?_, ⟨fun x => (hg.gf.slots x).up hn.hF hn.hφ (fun _ _ => rfl), hg.gf.defers, hg.gf.size⟩, ?_, Nat.le_succ_of_le hg.mn⟩
     ·have := hg.gm.next (fun x hx => by subst hx; exact hg.mn) hn
      rwa [show updF (getA σ.hp) [(l, Ob.box (putL (off) [.row σ.nx] cs) tq), (σ.nx, Ob.row e sz [])] = getA (setA (setA σ.hp l (.box (putL (off) [.row σ.nx] cs) tq)) σ.nx (.row e sz [])) by
       funext x; simp only [updF, chGet, getA_setA]; by_cases e : σ.nx = x <;> by_cases e2 : l = x <;> simp [e, e2]] at this
     ·intro x hl
      have hl' : σ.nx + 1 ≤ x := hl
      unfold addφ
      rw [if_neg (by omega)]
      exact hg.fr x (by omega)
   ·exact ownNil_sound r hg
  ·exact ownNil_sound r hg
 | .gn t e e2 sz :: r, σ, φ, hg => by
  simp only [ownNil]
  split
  ·rename_i hs
   have hn := nil_newO (ob := .grid e e2 sz []) hg ⟨.slice none 0 0, by simp [addφ], fun b hb' => by simp [hb] at hb', ⟨World.ownsRow_nil _ _ _ _, trivial⟩, by simp, by simp, by simp⟩ (by rintro b ⟨p, hp, _⟩; cases hp)
   refine ownNil_sound r (φ := addφ φ σ.nx (.slice none 0 0)) ⟨?_, ⟨?_, hg.gf.defers, hg.gf.size⟩, ?_, Nat.le_succ_of_le hg.mn⟩
   ·have := hg.gm.next (fun l hl => by subst hl; exact hg.mn) hn
    rwa [show updF (getA σ.hp) [(σ.nx, Ob.grid e e2 sz [])] = getA (setA σ.hp σ.nx (.grid e e2 sz [])) by
     funext l; simp only [updF, chGet, getA_setA]; by_cases e : σ.nx = l <;> simp [e]] at this
   ·intro x
    have hx := hg.gf.slots x
    simp only [slot, getA_setA]
    by_cases e1 : t = x
    ·subst e1
     rw [hs] at hx
     simp only [if_true]
     generalize a.tmps.getD t undef = cv at hx ⊢
     cases hx with | c hx => cases hx with | tree hx =>
      cases hx
      exact .c (.row _ _ (by simp [addφ]))
    ·simp only [if_neg e1]
     exact hx.up hn.hF hn.hφ (fun _ _ => rfl)
   ·intro l hl
    have hl' : σ.nx + 1 ≤ l := hl
    unfold addφ
    rw [if_neg (by omega)]
    exact hg.fr l (by omega)
  ·exact ownNil_sound r hg
 | .wx t off sz :: r, σ, φ, hg => by
  simp only [ownNil]
  split
  ·split
   ·rename_i l o hs _ cs q hob
    split
    ·rename_i hnth
     rw [nth_eq] at hnth
     obtain ⟨b, cs', T, g1, g2, g3, g4, g5⟩ := hg.gm.rp.objs l _ hob
     have hlen : o + off < cs.length := (List.getElem?_eq_some_iff.1 hnth).1
     have hput : putL (o + off) [.lst sz []] cs = cs.set (o + off) (.lst sz []) := by
      rw [putL_eq _ _ _ (by simp; omega), List.set_eq_take_append_cons_drop, if_pos hlen]; simp
     have hq : ∀ x y, chGet [(l, Ob.box (putL (o + off) [.lst sz []] cs) q)] x = some y → x = l ∧ y = .box (putL (o + off) [.lst sz []] cs) q := by
      intro x y hx
      simp only [chGet] at hx
      split at hx
      ·rename_i e2; cases hx; exact ⟨e2.symm, rfl⟩
      ·cases hx
     have hn : Nx F φ w (getA σ.hp) (fun x => x = σ.nx) [(l, .box (putL (o + off) [.lst sz []] cs) q)] F φ w := by
      refine ⟨fun _ h => h, fun _ _ h => h, fun _ _ h => .inl h, rfl, rfl, rfl, fun _ => Nat.le_refl _, Nat.le_refl _, fun b _ hne => (hne rfl).elim, fun b hb' => .inl hb', ?_, ?_, ?_⟩
      ·intro x y hx
       obtain ⟨rfl, rfl⟩ := hq x y hx
       refine ⟨b, cs', T, g1, g2, g3, ?_, g5⟩
       rw [hput]
       refine ⟨by simp [g4.1], fun j c v h1 h2 => ?_⟩
       rw [List.getElem?_set] at h2
       split at h2
       ·rename_i e3
        subst e3
        cases h2
        have := g4.2 _ _ _ h1 hnth
        cases this with | tree hx => cases hx; exact .tree (.lst0 none 0 sz (Nat.zero_le _))
       ·exact g4.2 j c v h1 h2
      ·intro x y b' hx hv hb'
       obtain ⟨rfl, rfl⟩ := hq x y hx
       exact .inr ⟨x, _, hob, rfl, .inl hb'.base, by simp [chGet]⟩
      ·intro x x' y y' b' hx hx' _ _ _ _
       rw [(hq x y hx).1, (hq x' y' hx').1]
     refine ownNil_sound r (φ := φ) ⟨?_, ⟨hg.gf.slots, hg.gf.defers, hg.gf.size⟩, hg.fr, hg.mn⟩
     have := hg.gm.next (fun l hl => by subst hl; exact hg.mn) hn
     rwa [show updF (getA σ.hp) [(l, Ob.box (putL (o + off) [.lst sz []] cs) q)] = getA (setA σ.hp l (.box (putL (o + off) [.lst sz []] cs) q)) by
      funext x; simp only [updF, chGet, getA_setA]; by_cases e : l = x <;> simp [e]] at this
    ·exact ownNil_sound r hg
   ·exact ownNil_sound r hg
  ·exact ownNil_sound r hg
 | .po e sz :: r, σ, φ, hg => by
  simp only [ownNil]
  obtain ⟨φ1, hg1⟩ := mergeP_sound (e := e) (sz := sz) (keys σ.hp) none hg
  exact ownNil_sound r hg1
 | .gr t e2 sz :: r, σ, φ, hg => by
  simp only [ownNil]
  split
  ·rename_i l hs
   split
   ·rename_i e s1 rows hob
    split
    ·rename_i ins hins
     cases hq : Nat.beq s1 1 && !rows.isEmpty with
     | false => simp only [cond_false]; exact ownNil_sound r hg
     | true =>
      simp only [cond_true]
      rw [Bool.and_eq_true] at hq
      have := beq_eqn hq.1
      subst this
      have hn := nils_grid (e2 := e2) (sz := sz) (N := fun x => x = σ.nx) hg.gm.rp hob (by intro e0; subst e0; simp at hq) hins
      refine ownNil_sound r (φ := φ) ⟨?_, ⟨hg.gf.slots, hg.gf.defers, hg.gf.size⟩, hg.fr, hg.mn⟩
      have := hg.gm.next (fun l hl => by subst hl; exact hg.mn) hn
      rwa [show updF (getA σ.hp) [(l, Ob.grid e e2 sz ins)] = getA (setA σ.hp l (.grid e e2 sz ins)) by
       funext x; simp only [updF, chGet, getA_setA]; by_cases e : l = x <;> simp [e]] at this
    ·exact ownNil_sound r hg
   ·exact ownNil_sound r hg
  ·exact ownNil_sound r hg

theorem norm_sound {ow : List Own} {cs : List Nat} {K : St → Prop} (hg : Good E F φ w σ a) (hk : norm E.m ow cs σ K) : ∃ φ' σ', Good E F φ' w σ' a ∧ K σ' := by
 unfold norm at hk
 simp only at hk
 obtain ⟨φ1, hg1⟩ := ownNil_sound ow hg
 obtain ⟨φ2, vs', os, h1, h2, h3, h4, h5⟩ := anew_sound hg1.gm (slotsOf_sound hg1.gf cs) hk
 rw [forceOs_eq, forceN_eq, lenA_eq, Nat.zero_add] at h5
 exact ⟨φ2, ⟨zipF cs vs', zipO 0 os, os.length⟩, ⟨h1, ⟨zipF_sound h2, hg1.gf.defers, hg1.gf.size⟩, h3, h4⟩, h5⟩

def codeOK (n : Nat) : Code → Bool
 | .region _ ops draw => bif draw then regOK n ops else ops.toList.all fun o => match o.dst with | some d => Nat.blt d n | none => true
 | .seq x y => codeOK n x && codeOK n y
 | .cond _ x y => codeOK n x && codeOK n y
 | .block _ c => codeOK n c
 | .loop c => codeOK n c
 | _ => true

theorem ghostG_sound {E : Env} {F : Nat → Prop} {φ : Nat → Option Value} {w : World} {K : St → Prop} {σ : St} (h : GhostG K σ) : GM E F φ w (getA σ.hp) → ∃ hp', GM E F φ w (getA hp') ∧ K ⟨σ.fr, hp', σ.nx⟩ := by
 induction h with
 | @done σ h => exact fun hg => ⟨σ.hp, hg, h⟩
 | @adopt σ l p a clock e sz i es es' ins rows h1 h2 h3 hi he hk ih =>
  intro hg
  obtain ⟨c, hc⟩ := (hg.rp.objs a _ h3).has rfl
  have hn := Nx.adopt (N := fun _ => False) hg.rp h1 h2 h3 hc hi (he c)
  have hg2 := hg.next (fun _ h => h.elim) hn
  refine ih c ?_
  have : getA (updH σ.hp [(a, .dead), (p, .pool e sz (putAt ins i (c, some rows))), (l, .pmap true p clock (es' c))]) = updF (getA σ.hp) [(a, .dead), (p, .pool e sz (putAt ins i (c, some rows))), (l, .pmap true p clock (es' c))] := by
   funext l2; rw [getA_updH]; rfl
  rw [this]
  exact hg2
 | @shut σ l p clock es h1 he hk ih =>
  intro hg
  have hn := Nx.shut (N := fun _ => False) hg.rp h1 he
  have hg2 := hg.next (fun _ h => h.elim) hn
  refine ih ?_
  have : getA (updH σ.hp [(l, .pmap false p clock es)]) = updF (getA σ.hp) [(l, .pmap false p clock es)] := by
   funext l2; rw [getA_updH]; rfl
  rw [this]
  exact hg2
theorem ghost_sound {E : Env} {F : Nat → Prop} {φ : Nat → Option Value} {w : World} {K : St → Prop} {σ : St} (h : ghost σ K) (hg : GM E F φ w (getA σ.hp)) : ∃ hp', GM E F φ w (getA hp') ∧ K ⟨σ.fr, hp', σ.nx⟩ := by
 unfold ghost at h
 split at h
 ·exact ⟨σ.hp, hg, h⟩
 ·exact ghostG_sound h hg
theorem awp_sound (hT : TabOK P T) (hmix : P.follows .mixedOrders = true) : ∀ (c : Code) {σ : St} {Q : Exit → St → Prop} {F : Nat → Prop} {φ : Nat → Option Value} {w : World} {a : Act} {Qc : Exit → Act → World → Prop}, codeOK E.n c = true → Good E F φ w σ a → awp T mt (PCx P) E.m c σ Q →
  (∀ e F φ w σ a, Good E F φ w σ a → Q e σ → Qc e a w) → c.wp P Qc a w
 | .skip, σ, Q, F, φ, w, a, Qc, _, hg, hk, hq => Go.wp_skip (hq _ _ _ _ _ _ hg hk)
 | .region id ops draw, σ, Q, F, φ, w, a, Qc, hok, hg, hk, hq => by
  simp only [codeOK] at hok
  simp only [awp, forceStF_eq] at hk
  cases draw with
  | true =>
   simp only [cond_true] at hok
   exact region_draw hT hmix hok hg.gm hg.gf hg.fr hg.mn hk (fun F φ w σ a h1 h2 h3 h4 h5 => by
    obtain ⟨hp', k1, k2⟩ := ghost_sound h5 h1
    exact hq .normal F φ w ⟨σ.fr, hp', σ.nx⟩ a ⟨k1, h2, h3, h4⟩ k2)
  | false =>
   simp only [cond_false, List.all_eq_true] at hok
   refine wp_region_list ?_
   have := arun_seq (P := P) (Q := Qc) (mt := mt) (E := E) hT ops.toList (Q .normal) (fun F φ w σ a h1 h2 h3 h4 h5 => hq _ _ _ _ _ _ ⟨h1, h2, h3, h4⟩ h5) ops.toList 0 σ F φ w a (by
    intro o ho d hd
    have := hok o ho
    rw [hd] at this
    exact Nat.le_of_ble_eq_true this) hg.gm hg.gf (by simpa using hg.fr) hg.mn hk
   simpa using this
 | .seq x y, σ, Q, F, φ, w, a, Qc, hok, hg, hk, hq => by
  simp only [codeOK, Bool.and_eq_true] at hok
  simp only [awp] at hk
  refine wp_seq (awp_sound hT hmix x hok.1 hg hk ?_)
  intro e F φ w σ a hg hk
  cases e with
  | normal => exact awp_sound hT hmix y hok.2 hg hk hq
  | _ => exact hq _ _ _ _ _ _ hg hk
 | .cond c x y, σ, Q, F, φ, w, a, Qc, hok, hg, hk, hq => by
  simp only [codeOK, Bool.and_eq_true] at hok
  simp only [awp] at hk
  split at hk
  ·rename_i b hb'
   have h1 := ev_sound hg.gf.slots c
   rw [hb'] at h1
   cases hk with
   | mk ht hf => exact wp_cond_split h1.bool_inv (fun e => awp_sound hT hmix x hok.1 hg (ht e) hq) (fun e => awp_sound hT hmix y hok.2 hg (hf e) hq)
   | join ow cs R ht hf hj =>
    have hq' : ∀ (e : Exit) (F : Nat → Prop) (φ : Nat → Option Value) (w : World) (σ : St) (a : Act), Good E F φ w σ a → (match e with | .normal => norm E.m ow cs σ R | e => Q e σ) → Qc e a w := by
     intro e F φ w σ a hg hk
     cases e with
     | normal =>
      obtain ⟨φ', σ'', hg', hR⟩ := norm_sound hg hk
      exact hq _ _ _ _ _ _ hg' (hj _ hR)
     | _ => exact hq _ _ _ _ _ _ hg hk
    exact wp_cond_split h1.bool_inv (fun e => awp_sound hT hmix x hok.1 hg (ht e) hq') (fun e => awp_sound hT hmix y hok.2 hg (hf e) hq')
  ·rename_i hb'
   have h1 := ev_sound hg.gf.slots c
   rw [hb'] at h1
   exact wp_cond_true h1.tt_inv (awp_sound hT hmix x hok.1 hg hk hq)
  ·rename_i hb'
   have h1 := ev_sound hg.gf.slots c
   rw [hb'] at h1
   exact wp_cond_false h1.ff_inv (awp_sound hT hmix y hok.2 hg hk hq)
  ·exact hk.elim
 | .block i c, σ, Q, F, φ, w, a, Qc, hok, hg, hk, hq => by
  simp only [codeOK] at hok
  simp only [awp] at hk
  refine wp_block (awp_sound hT hmix c hok hg hk ?_)
  intro e F φ w σ a hg hk
  cases e with
  | exit j =>
   simp only [Exit.inBlock]
   simp only [beq_dec] at hk
   by_cases e : j = i
   ·simp only [e, decide_true, cond_true] at hk
    rw [if_pos e]; exact hq _ _ _ _ _ _ hg hk
   ·simp only [e, decide_false, cond_false] at hk
    rw [if_neg e]; exact hq _ _ _ _ _ _ hg hk
  | _ => exact hq _ _ _ _ _ _ hg hk
 | .loop c, σ, Q, F, φ, w, a, Qc, hok, hg, hk, hq => by
  simp only [codeOK] at hok
  simp only [awp] at hk
  cases hk with
  | mk ow cs I n h0 hround =>
   obtain ⟨φ0, σ0, hg0, hI0⟩ := norm_sound hg h0
   refine wp_loop_ghost (fun n a w => ∃ F φ σ, Good E F φ w σ a ∧ I n σ) n ⟨F, φ0, σ0, hg0, hI0⟩ ?_
   rintro n a w ⟨F, φ, σ, hg, hI⟩
   refine awp_sound hT hmix c hok hg (hround n σ hI) ?_
   intro e F φ w σ' a hg hk
   cases e with
   | normal =>
    obtain ⟨φ', σ'', hg', j, hlt, hI'⟩ := norm_sound hg hk
    exact ⟨j, hlt, F, φ', σ'', hg', hI'⟩
   | _ => exact hq _ _ _ _ _ _ hg hk
  | un n h =>
   refine wp_loop_ghost (fun n a w => ∃ F φ σ, Good E F φ w σ a ∧ unr (awp T mt (PCx P) E.m c) Q n σ) n ⟨F, φ, σ, hg, h⟩ ?_
   rintro n a w ⟨F, φ, σ, hg, hI⟩
   cases n with
   | zero => exact hI.elim
   | succ n =>
    refine awp_sound hT hmix c hok hg hI ?_
    intro e F φ w σ' a hg hk
    cases e with
    | normal => exact ⟨n, Nat.lt_succ_self n, F, φ, σ', hg, hk⟩
    | _ => exact hq _ _ _ _ _ _ hg hk
 | .exit i, σ, Q, F, φ, w, a, Qc, _, hg, hk, hq => wp_exit (hq _ _ _ _ _ _ hg hk)
 | .ret, σ, Q, F, φ, w, a, Qc, _, hg, hk, hq => wp_ret (hq _ _ _ _ _ _ hg hk)
 | .label l, σ, Q, F, φ, w, a, Qc, _, hg, hk, hq => wp_label (hq _ _ _ _ _ _ hg hk)
 | .goto l, σ, Q, F, φ, w, a, Qc, _, hg, hk, hq => hk.elim
 | .scope c, σ, Q, F, φ, w, a, Qc, _, hg, hk, hq => hk.elim
 | .rangeFunc f p x y, σ, Q, F, φ, w, a, Qc, _, hg, hk, hq => hk.elim
 | .refuse why, σ, Q, F, φ, w, a, Qc, _, hg, hk, hq => hk.elim
end
end Abs
end Go.Proofs.YtkefgcleaalnnaaGreat
