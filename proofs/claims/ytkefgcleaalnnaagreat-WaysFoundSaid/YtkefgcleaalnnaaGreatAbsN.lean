/- Operations in whatever order is drawn: the region. -/
import Derived.Test.YtkefgcleaalnnaaGreatAbsM
namespace Go.Proofs.YtkefgcleaalnnaaGreat
set_option linter.unusedVariables false
set_option linter.unusedSimpArgs false
namespace Abs

theorem clo_acc (h : Nat → Option Ob) : ∀ (n : Nat) (ids acc : List Nat) (x : Nat), x ∈ acc → x ∈ clo h n ids acc
 | 0, _, _, _, hx => by simpa [clo] using hx
 | _ + 1, [], _, _, hx => by simpa [clo] using hx
 | n + 1, l :: r, acc, x, hx => by
  simp only [clo]
  cases hasN acc l with
  | true => exact clo_acc h n r acc x hx
  | false => exact clo_acc h n _ _ x (by simp [hx])
theorem clo_congr {h h' : Nat → Option Ob} : ∀ (n : Nat) (ids acc : List Nat), (∀ l ∈ clo h n ids acc, h' l = h l) → clo h' n ids acc = clo h n ids acc
 | 0, _, _, _ => rfl
 | _ + 1, [], _, _ => rfl
 | n + 1, l :: r, acc, hh => by
  simp only [clo] at hh ⊢
  cases hq : hasN acc l with
  | true => simp only [hq, cond_true] at hh ⊢; exact clo_congr n r acc hh
  | false =>
   simp only [hq, cond_false] at hh ⊢
   have := hh l (clo_acc h n _ _ l (by simp))
   rw [this]
   exact clo_congr n _ _ hh

section
variable {P : Program} {T : List (Nat × TI)} {PC : Nat → List S → List Ob → (S → List Ob → Prop) → Prop} {mt : List Nat} {Q : Exit → Act → World → Prop}

theorem vals_congr {sl sl' : Nat → S} {o : Op} (hs : ∀ t, Operand.tmp t ∈ o.operands.toList → sl' t = sl t) : vals sl' o = vals sl o := by
 unfold vals
 apply List.map_congr_left
 intro x hx
 cases x with
 | tmp t => exact hs t hx
 | _ => rfl
theorem aopAt_congr {sl sl' : Nat → S} {h h' : Nat → Option Ob} {id : Nat} {o : Op} {k : S → Ch → Prop} (hs : ∀ t, Operand.tmp t ∈ o.operands.toList → sl' t = sl t) (hh : ∀ l ∈ reads h o (vals sl o), h' l = h l) :
  aopAt T mt PC sl' h' id o k = aopAt T mt PC sl h id o k ∧ reads h' o (vals sl' o) = reads h o (vals sl o) := by
 have h1 := vals_congr hs
 have h2 : reads h' o (vals sl' o) = reads h o (vals sl o) := by
  rw [h1]
  revert hh
  unfold reads
  split <;> intro hh <;> first | rfl | exact clo_congr _ _ _ hh | exact clo_congr _ _ _ fun l hl => by unfold hideP; rw [hh l hl]
 refine ⟨?_, h2⟩
 simp only [aopAt, forceSs_eq, forceNs_eq]
 rw [h2, h1]
 congr 1
 funext l
 unfold only
 cases hq : hasN (reads h o (vals sl o)) l with
 | true => simp only [cond_true]; exact hh l ((hasN_iff _ _).1 hq)
 | false => rfl

variable (T mt PC) in
def Stp (all : List Oper) (o : Oper) (j : Nat) (σ : St) (t : Rc) : Prop :=
 (t.on = true ∧ (∀ g, o.guard = some g → boolV (gslot all σ g.1) = some g.2) ∧ aopAt T mt PC (slot σ) (getA σ.hp) (σ.nx + j * 16) o.op (fun v ch => split1 (isG all j) v fun v => v = t.v ∧ ch = t.ch) ∧ t.rd = reads (getA σ.hp) o.op (vals (slot σ) o.op)) ∨
 (t.on = false ∧ (∃ g, o.guard = some g ∧ (boolV (gslot all σ g.1) = some (!g.2) ∨ gslot all σ g.1 = .tup [])) ∧ t.v = .tup [] ∧ t.ch = [] ∧ t.rd = [])
variable (T mt PC) in
def TrOK (all : List Oper) : List Oper → Nat → St → List Rc → St → Prop
 | [], _, σ, ts, σ' => ts = [] ∧ σ' = σ
 | o :: r, j, σ, ts, σ' => ∃ t ts', ts = t :: ts' ∧ Stp T PC mt all o j σ t ∧ TrOK all r (j + 1) (upd σ o.dst t.v t.ch) ts' σ'
def pr (t : Rc) : List Nat × List Nat := (t.rd, keys t.ch)

theorem dm_split1 (g : Bool) (v : S) : DM (split1 g v) := by
 intro k hk
 unfold split1 at hk ⊢
 cases g with
 | false => exact ⟨v, hk, fun k' hk' => hk'⟩
 | true =>
  simp only [cond_true] at hk ⊢
  split at hk
  ·rename_i b
   cases b
   ·exact ⟨_, hk.2 rfl, fun k' hk' => ⟨by simp, fun _ => hk'⟩⟩
   ·exact ⟨_, hk.1 rfl, fun k' hk' => ⟨fun _ => hk', by simp⟩⟩
  ·rename_i hne
   exact ⟨v, hk, fun k' hk' => hk'⟩

theorem arun_trace {all : List Oper} {K : St → Prop} : ∀ (rest : List Oper) (j : Nat) (tr : List (List Nat × List Nat)) (σ : St), arun T mt PC all rest j tr σ K →
  ∃ ts σ', TrOK T PC mt all rest j σ ts σ' ∧ okTr (befs all []) 0 [] (tr ++ ts.map pr) = true ∧ K ⟨σ'.fr, σ'.hp, σ'.nx + (j + rest.length) * 16⟩
 | [], j, tr, σ, hk => by
  simp only [arun, withSt_eq] at hk
  cases hq : okTr (befs all []) 0 [] tr with
  | false => simp [hq] at hk
  | true =>
   simp only [hq, cond_true, forceSt_eq] at hk
   exact ⟨[], σ, ⟨rfl, rfl⟩, by simpa using hq, by simpa using hk⟩
 | o :: r, j, tr, σ, hk => by
  have step : (∀ g, o.guard = some g → boolV (gslot all σ g.1) = some g.2) → aopAt T mt PC (slot σ) (getA σ.hp) (σ.nx + j * 16) o.op (fun v ch => split1 (isG all j) v fun v => arun T mt PC all r (j + 1) (tr ++ [(reads (getA σ.hp) o.op (vals (slot σ) o.op), keys ch)]) (upd σ o.dst v ch) K) →
    ∃ ts σ', TrOK T PC mt all (o :: r) j σ ts σ' ∧ okTr (befs all []) 0 [] (tr ++ ts.map pr) = true ∧ K ⟨σ'.fr, σ'.hp, σ'.nx + (j + (o :: r).length) * 16⟩ := by
   intro hg hk
   simp only [aopAt, forceSs_eq, forceNs_eq] at hk
   obtain ⟨v, ch, h1, h2⟩ := dm_aop _ _ _ _ _ hk
   obtain ⟨v', h1, h2'⟩ := dm_split1 _ _ _ h1
   obtain ⟨ts, σ', h3, h4, h5⟩ := arun_trace r (j + 1) _ _ h1
   refine ⟨⟨v', ch, reads (getA σ.hp) o.op (vals (slot σ) o.op), true⟩ :: ts, σ', ⟨_, ts, rfl, .inl ⟨rfl, hg, (by simp only [aopAt, forceSs_eq, forceNs_eq]; exact h2 _ (h2' _ ⟨rfl, rfl⟩)), rfl⟩, h3⟩, by simpa [pr, keys] using h4, ?_⟩
   rwa [show j + 1 + r.length = j + (o :: r).length by simp; omega] at h5
  have skip : (∃ g, o.guard = some g ∧ (boolV (gslot all σ g.1) = some (!g.2) ∨ gslot all σ g.1 = .tup [])) → arun T mt PC all r (j + 1) (tr ++ [([], [])]) (upd σ o.dst (.tup []) []) K →
    ∃ ts σ', TrOK T PC mt all (o :: r) j σ ts σ' ∧ okTr (befs all []) 0 [] (tr ++ ts.map pr) = true ∧ K ⟨σ'.fr, σ'.hp, σ'.nx + (j + (o :: r).length) * 16⟩ := by
   intro hg hk
   obtain ⟨ts, σ', h3, h4, h5⟩ := arun_trace r (j + 1) _ _ hk
   refine ⟨⟨.tup [], [], [], false⟩ :: ts, σ', ⟨_, ts, rfl, .inr ⟨rfl, hg, rfl, rfl, rfl⟩, h3⟩, by simpa [pr, keys] using h4, ?_⟩
   rwa [show j + 1 + r.length = j + (o :: r).length by simp; omega] at h5
  simp only [arun, withSt_eq, stepD_eq, forceSt_eq, forceN_eq, forceNs_eq] at hk
  cases hgd : o.guard with
  | none =>
   simp only [hgd] at hk
   exact step (fun g hg => by rw [hgd] at hg; cases hg) hk
  | some g =>
   simp only [hgd] at hk
   split at hk
   ·rename_i hb'
    cases hg2 : g.2 with
    | true => simp only [hg2, cond_true] at hk; exact step (fun g' hg' => by rw [hgd] at hg'; cases hg'; rw [hb', hg2]; rfl) hk
    | false => simp only [hg2, cond_false] at hk; exact skip ⟨g, hgd, .inl (by rw [hb', hg2]; rfl)⟩ hk
   ·rename_i hb'
    cases hg2 : g.2 with
    | false => simp only [hg2, cond_false] at hk; exact step (fun g' hg' => by rw [hgd] at hg'; cases hg'; rw [hb', hg2]; rfl) hk
    | true => simp only [hg2, cond_true] at hk; exact skip ⟨g, hgd, .inl (by rw [hb', hg2]; rfl)⟩ hk
   ·rename_i hb'
    exact skip ⟨g, hgd, .inr hb'⟩ hk
   ·exact hk.elim

theorem TrOK.len {all : List Oper} : ∀ {rest : List Oper} {j : Nat} {σ : St} {ts : List Rc} {σ' : St}, TrOK T PC mt all rest j σ ts σ' → ts.length = rest.length
 | [], _, _, _, _, h => by rw [h.1]; rfl
 | o :: r, j, σ, ts, σ', h => by
  obtain ⟨t, ts', rfl, _, h2⟩ := h
  simp [h2.len]
theorem TrOK.step {all : List Oper} : ∀ {rest : List Oper} {j0 : Nat} {σ : St} {ts : List Rc} {σ' : St}, TrOK T PC mt all rest j0 σ ts σ' → ∀ (j : Nat) (o : Oper), rest[j]? = some o →
  ∃ t, ts[j]? = some t ∧ Stp T PC mt all o (j0 + j) (runD (fun i => decide (i < j0 + j)) rest ts j0 σ) t
 | [], _, _, _, _, _, j, o, ho => by simp at ho
 | o0 :: r, j0, σ, ts, σ', h, j, o, ho => by
  obtain ⟨t, ts', rfl, h1, h2⟩ := h
  cases j with
  | zero =>
   simp at ho; subst ho
   refine ⟨t, by simp, ?_⟩
   have hz : ∀ (os : List Oper) (ts : List Rc) (j : Nat) (s : St), j0 ≤ j → runD (fun i => decide (i < j0)) os ts j s = s := by
    intro os
    induction os with
    | nil => intro ts j s _; rfl
    | cons o r ih =>
     intro ts j s hj
     cases ts with
     | nil => rfl
     | cons t ts => simp only [runD, show ¬ j < j0 by omega, decide_false]; exact ih ts (j + 1) s (by omega)
   simp only [Nat.add_zero, hz _ _ _ _ (Nat.le_refl _)]
   exact h1
  | succ j =>
   obtain ⟨t', h3, h4⟩ := h2.step j o (by simpa using ho)
   refine ⟨t', by simpa using h3, ?_⟩
   simp only [runD, show j0 < j0 + (j + 1) by omega, decide_true, if_true]
   rwa [show j0 + 1 + j = j0 + (j + 1) by omega] at h4
theorem TrOK.last {all : List Oper} : ∀ {rest : List Oper} {j0 : Nat} {σ : St} {ts : List Rc} {σ' : St}, TrOK T PC mt all rest j0 σ ts σ' → ∀ (D : Nat → Bool), (∀ i, i < rest.length → D (j0 + i) = true) → runD D rest ts j0 σ = σ'
 | [], _, _, _, _, h, D, _ => by rw [h.2]; rfl
 | o0 :: r, j0, σ, ts, σ', h, D, hD => by
  obtain ⟨t, ts', rfl, h1, h2⟩ := h
  have h0 := hD 0 (by simp)
  simp only [Nat.add_zero] at h0
  simp only [runD, h0, if_true]
  exact h2.last D (fun i hi => by have := hD (i + 1) (by simp; omega); rwa [show j0 + (i + 1) = j0 + 1 + i by omega] at this)

theorem set_true {l : Array Bool} {i j : Nat} (h : l.getD i false = true) : (l.setIfInBounds j true).getD i false = true := getD_set_true h

theorem region_draw {E : Env} {id : Nat} {ops : Array Oper} {σ : St} {K : St → Prop} {F : Nat → Prop} {φ : Nat → Option Value} {w : World} {a : Act} (hT : TabOK P T) (hmix : P.follows .mixedOrders = true) (hok : regOK E.n ops = true)
  (hm : GM E F φ w (getA σ.hp)) (hf : GF E.n F φ w (slot σ) a) (hfr : ∀ l, σ.nx ≤ l → φ l = none) (hmn : E.m ≤ σ.nx) (hk : arun T mt (PCx P) ops.toList ops.toList 0 [] σ K)
  (hend : ∀ F φ w σ a, GM E F φ w (getA σ.hp) → GF E.n F φ w (slot σ) a → (∀ l, σ.nx ≤ l → φ l = none) → E.m ≤ σ.nx → K σ → Q .normal a w) : (Code.region id ops true).wp P Q a w := by
 obtain ⟨ts, σ', htr, hchk, hKσ⟩ := arun_trace _ _ _ _ hk
 clear hk
 simp only [List.nil_append, Nat.zero_add] at hchk hKσ
 simp only [regOK, Bool.and_eq_true] at hok
 obtain ⟨hbw, hdst, htmp⟩ := hok
 have hlen := htr.len
 have hto : ∀ (j : Nat) (o : Oper), ops[j]? = some o ↔ ops.toList[j]? = some o := by intro j o; simp
 refine wp_region_any hmix ?_
 have hleft : leftOver (Array.replicate ops.size false) ≤ ops.size := by
  unfold leftOver; exact Nat.le_trans List.countP_le_length (by simp)
 have hz : ∀ i, (Array.replicate ops.size false).getD i false = false := by
  intro i; by_cases hi : i < ops.size <;> simp [hi]
 let J : Array Bool → Act → World → Prop := fun listed a w =>
  (listed.size = ops.size ∧ ∀ (i : Nat) (oi : Oper), ops[i]? = some oi → listed.getD i false = true → ∀ e ∈ oi.after, Region.binds .any e = true → listed.getD e.on false = true) ∧
  ∃ F φ, GM E F φ w (getA (runD (fun i => listed.getD i false) ops.toList ts 0 σ).hp) ∧ GF E.n F φ w (slot (runD (fun i => listed.getD i false) ops.toList ts 0 σ)) a ∧
   ∀ l, σ.nx ≤ l → φ l ≠ none → ∃ i, listed.getD i false = true ∧ σ.nx + i * 16 ≤ l ∧ l < σ.nx + i * 16 + 16
 have hz0 : ∀ (os : List Oper) (ts : List Rc) (j : Nat) (s : St) (D : Nat → Bool), (∀ i, D i = false) → runD D os ts j s = s := by
  intro os
  induction os with
  | nil => intro ts j s D _; rfl
  | cons o r ih =>
   intro ts j s D hD
   cases ts with
   | nil => rfl
   | cons t ts => simp only [runD, hD, Bool.false_eq_true, if_false]; exact ih ts (j + 1) s D hD
 refine wpAny_inv (J := J) hbw ?_ ?_ _ _ _ _ (by simp) hleft ?_
 ·intro listed a w j o hs ho hnj hdeps hJ
  obtain ⟨⟨_, hcl⟩, F, φ, hm, hf, hfr'⟩ := hJ
  have hoL := (hto j o).1 ho
  have hj : j < ops.size := (Array.getElem?_eq_some_iff.1 ho).1
  have hjl : j < listed.size := by omega
  have hnD : listed.getD j false = false := by
   simp [hjl] at hnj ⊢; exact hnj
  obtain ⟨t, ht, hst⟩ := htr.step j o hoL
  simp only [Nat.zero_add] at hst
  have hclos := befs_closed (D := fun i => listed.getD i false) ops.toList [] (by intro i b h; simp [nth] at h) (by
   intro k o' ho' hD e he hbi
   simp only [List.length_nil, Nat.zero_add] at hD
   exact hcl k o' ((hto k o').2 ho') hD e he hbi)
  have hclosj : ∀ b, nth (befs ops.toList []) j = some b → ∀ x, bit b x = true → listed.getD x false = true := by
   intro b hb' x hx
   have h := befs_closed (D := fun i => listed.getD i false || decide (i = j)) ops.toList [] (by intro i b h; simp [nth] at h) (by
    intro k o' ho' hD e he hbi
    simp only [List.length_nil, Nat.zero_add, Bool.or_eq_true, decide_eq_true_eq] at hD ⊢
    rcases hD with hD | rfl
    ·exact .inl (hcl k o' ((hto k o').2 ho') hD e he hbi)
    ·rw [hoL] at ho'; cases ho'
     exact .inl (hdeps e he hbi)) j b hb' (by simp) x hx
   simp only [Bool.or_eq_true, decide_eq_true_eq] at h
   rcases h with h | h
   ·exact h
   ·have := befs_lt ops.toList [] (by intro i b h; simp [nth] at h) (by
     intro k o' ho' e he hbi
     simp only [List.length_nil, Nat.zero_add]
     exact backward_spec hbw ((hto k o').2 ho') e he hbi) j b hb' x hx
    omega
  have hslots : ∀ x ∈ looks ops.toList o, slot (runD (fun i => listed.getD i false) ops.toList ts 0 σ) x = slot (runD (fun i => decide (i < j)) ops.toList ts 0 σ) x := by
   intro x hx
   refine runD_slot _ _ x _ _ _ _ _ rfl ?_
   intro i oi hoi hdi
   simp only [Nat.zero_add]
   by_cases hij : i = j
   ·subst hij; simp [hnD]
   ·have h1 := tmpAll_spec htmp j o hoL x hx
    simp only [Nat.zero_add] at h1
    have h2 := tmpOne_spec h1 i oi hoi hdi (by omega)
    simp only [Nat.zero_add] at h2
    rcases h2 with ⟨h3, b, h4, h5⟩ | ⟨h3, b, h4, h5⟩
    ·rw [hclosj b h4 i h5]; simp [h3]
    ·have : ¬ i < j := by omega
     simp only [this, decide_false]
     cases hDi : listed.getD i false with
     | false => rfl
     | true => rw [hclos i b h4 hDi j h5] at hnD; cases hnD
  have hpair : ∀ (i : Nat) (t' : Rc), ts[i]? = some t' → i ≠ j → listed.getD i false ≠ decide (i < j) → (∀ l ∈ keys t'.ch, l ∉ t.rd ∧ l ∉ keys t.ch) := by
   intro i t' ht' hij hne l hl
   rcases Nat.lt_or_ge i j with hlt | hge
   ·have := okTr_spec (past := []) rfl hchk j i (pr t) (pr t') (by simp [ht]) (by simp [ht']) (by omega)
    rcases this with ⟨b, h1, h2⟩ | ⟨h1, h2, h3⟩
    ·simp only [List.length_nil, Nat.zero_add] at h1
     rw [hclosj b h1 i h2] at hne; simp [hlt] at hne
    ·exact ⟨disj_spec h1 l hl, fun h => disj_spec h3 l h hl⟩
   ·have hlt : j < i := by omega
    have := okTr_spec (past := []) rfl hchk i j (pr t') (pr t) (by simp [ht']) (by simp [ht]) (by omega)
    rcases this with ⟨b, h1, h2⟩ | ⟨h1, h2, h3⟩
    ·simp only [List.length_nil, Nat.zero_add] at h1
     cases hDi : listed.getD i false with
     | false => rw [hDi] at hne; simp [show ¬ i < j by omega] at hne
     | true => rw [hclos i b h1 hDi j h2] at hnD; cases hnD
    ·exact ⟨disj_spec h2 l hl, disj_spec h3 l hl⟩
  have hheap : ∀ l ∈ t.rd, getA (runD (fun i => listed.getD i false) ops.toList ts 0 σ).hp l = getA (runD (fun i => decide (i < j)) ops.toList ts 0 σ).hp l := by
   intro l hl
   refine runD_heap _ _ l _ _ _ _ _ rfl ?_
   intro i t' ht' hlk
   simp only [Nat.zero_add]
   by_cases hij : i = j
   ·subst hij; simp [hnD]
   ·by_cases hne : listed.getD i false = decide (i < j)
    ·exact hne
    ·exact ((hpair i t' ht' hij hne l hlk).1 hl).elim
  have hset : ∀ i, (listed.setIfInBounds j true).getD i false = (listed.getD i false || decide (i = j)) := by
   intro i
   by_cases hij : i = j
   ·subst hij; simp [hjl]
   ·simp [hij, Array.getElem?_setIfInBounds_ne (Ne.symm hij)]
  have hcl' : (listed.setIfInBounds j true).size = ops.size ∧ ∀ (i : Nat) (oi : Oper), ops[i]? = some oi → (listed.setIfInBounds j true).getD i false = true → ∀ e ∈ oi.after, Region.binds .any e = true → (listed.setIfInBounds j true).getD e.on false = true := by
   refine ⟨by simpa using hs, ?_⟩
   intro i oi hi hDi e he hbi
   rw [hset] at hDi ⊢
   simp only [Bool.or_eq_true, decide_eq_true_eq] at hDi ⊢
   rcases hDi with hDi | rfl
   ·exact .inl (hcl i oi hi hDi e he hbi)
   ·rw [ho] at hi; cases hi
    exact .inl (hdeps e he hbi)
  have hafterS : slot (runD (fun i => (listed.setIfInBounds j true).getD i false) ops.toList ts 0 σ) = putS (slot (runD (fun i => listed.getD i false) ops.toList ts 0 σ)) o.dst t.v := by
   funext x
   cases hd : o.dst with
   | none =>
    refine runD_slot _ _ x _ _ _ _ _ rfl ?_
    intro i oi hoi hdi
    simp only [Nat.zero_add, hset]
    by_cases hij : i = j
    ·subst hij; rw [hoL] at hoi; cases hoi; rw [hd] at hdi; cases hdi
    ·simp [hij]
   | some d =>
    simp only [putS]
    by_cases e : d = x
    ·subst e
     rw [if_pos rfl]
     refine runD_slot_at _ d _ _ _ _ j o t hoL ht hd (by simp [hset]) ?_
     intro i' o' ho' hd'
     by_cases hij : i' = j
     ·exact hij
     ·exact ((apartDsts_spec hdst ho hd).2 i' o' ((hto i' o').2 ho') hij hd').elim
    ·rw [if_neg e]
     refine runD_slot _ _ x _ _ _ _ _ rfl ?_
     intro i oi hoi hdi
     simp only [Nat.zero_add, hset]
     by_cases hij : i = j
     ·subst hij; rw [hoL] at hoi; cases hoi; rw [hd] at hdi; cases hdi; exact (e rfl).elim
     ·simp [hij]
  have hafterH : getA (runD (fun i => (listed.setIfInBounds j true).getD i false) ops.toList ts 0 σ).hp = updF (getA (runD (fun i => listed.getD i false) ops.toList ts 0 σ).hp) t.ch := by
   funext l
   unfold updF
   cases hc : chGet t.ch l with
   | some ob =>
    refine runD_heap_at _ l ob _ _ _ _ j t hlen ht hc (by simp [hset]) ?_
    intro i t' ht' hlk hji
    simp only [Nat.zero_add, hset, show ¬ i = j by omega, decide_false, Bool.or_false]
    cases hDi : listed.getD i false with
    | false => rfl
    | true => exact ((hpair i t' ht' (by omega) (by rw [hDi]; simp; omega) l hlk).2 (mem_keys (by rw [hc]; rfl))).elim
   | none =>
    refine runD_heap _ _ l _ _ _ _ _ rfl ?_
    intro i t' ht' hlk
    simp only [Nat.zero_add, hset]
    by_cases hij : i = j
    ·subst hij; rw [ht] at ht'; cases ht'
     have := keys_mem hlk; rw [hc] at this; cases this
    ·simp [hij]
  have hDj : ∀ d, o.dst = some d → d < E.n := fun d hd => (apartDsts_spec hdst ho hd).1
  unfold wpOp
  simp only [ho]
  have hnxD : ∀ D, (runD D ops.toList ts 0 σ).nx = σ.nx := fun D => runD_nx D _ _ _ _
  have hgl : ∀ g, o.guard = some g → gslot ops.toList (runD (fun i => listed.getD i false) ops.toList ts 0 σ) g.1 = gslot ops.toList (runD (fun i => decide (i < j)) ops.toList ts 0 σ) g.1 := by
   intro g hg
   unfold gslot
   cases hn : nth ops.toList g.1 with
   | none => rfl
   | some o' =>
    simp only
    cases hd' : o'.dst with
    | none => rfl
    | some d' =>
     simp only
     exact hslots d' (by simp [looks, hg, hn, hd'])
  rcases hst with ⟨hon, hgd, hop, hrd⟩ | ⟨hon, ⟨g, hg, hgs⟩, hv, hch, hrd⟩
  ·have hw : Region.wanted o (yielded ops a.tmps) = true := by
    unfold Region.wanted
    cases hg : o.guard with
    | none => rfl
    | some g =>
     have h1 := hgd g hg
     rw [← hgl g hg] at h1
     have h2 := gslot_sound hf h1
     simp only [Array.toArray_toList] at h2
     simp [h2]
   rw [if_pos hw]
   left
   have hcong := aopAt_congr (T := T) (mt := mt) (PC := PCx P) (sl := slot (runD (fun i => decide (i < j)) ops.toList ts 0 σ)) (sl' := slot (runD (fun i => listed.getD i false) ops.toList ts 0 σ)) (h := getA (runD (fun i => decide (i < j)) ops.toList ts 0 σ).hp) (h' := getA (runD (fun i => listed.getD i false) ops.toList ts 0 σ).hp)
    (id := σ.nx + j * 16) (o := o.op) (k := fun v ch => split1 (isG ops.toList j) v fun v => v = t.v ∧ ch = t.ch) (fun x hx => hslots x (by
     unfold looks
     refine List.mem_append_left _ (List.mem_filterMap.2 ⟨_, hx, rfl⟩))) (fun l hl => hheap l (by rw [hrd]; exact hl))
   rw [hnxD] at hop
   have hop' := hcong.1.symm ▸ hop
   simp only [aopAt, forceSs_eq, forceNs_eq] at hop'
   refine aop_sound hT (hm.rp.restrict _) hm.hX (fun l h1 h2 => ?_) hf.slots hop' ?_
   ·cases hφl : φ l with
    | none => rfl
    | some c =>
     obtain ⟨i, h3, h4, h5⟩ := hfr' l (by omega) (by rw [hφl]; simp)
     have : i = j := by omega
     subst this
     rw [hnD] at h3; cases h3
   ·intro c w' F' φ' v ch hn hs hsp
    obtain ⟨v, hs, rfl, rfl⟩ := split1_sound hs hsp
    have hn' := hn.widen
    refine ⟨hcl', F', φ', ?_, ?_, ?_⟩
    ·rw [hafterH]; exact hm.next (fun l hl => by omega) hn'
    ·rw [hafterS]; exact hf.put hn.hF hn.hφ (hm.rp.keepF hn') hDj hs
    ·intro l hl hne
     cases hφl : φ' l with
     | none => exact (hne hφl).elim
     | some d =>
      rcases hn.nφ l d hφl with h1 | ⟨h1, _⟩
      ·obtain ⟨i, h3, h4⟩ := hfr' l hl (by rw [h1]; simp)
       exact ⟨i, set_true h3, h4⟩
      ·exact ⟨j, by simp [hset], h1⟩
  ·have hw : Region.wanted o (yielded ops a.tmps) = false := by
    unfold Region.wanted
    rw [hg]
    have h1 := hgs
    rw [← hgl g hg] at h1
    rcases h1 with h1 | h1
    ·have h2 := gslot_sound hf h1
     simp only [Array.toArray_toList] at h2
     simp [h2]
    ·have h2 := gslot_und hf h1
     simp only [Array.toArray_toList] at h2
     simp [h2]
   rw [if_neg (by rw [hw]; simp)]
   refine ⟨hcl', F, φ, ?_, ?_, ?_⟩
   ·rw [hafterH, hch]; exact hm
   ·rw [hafterS, hv]; exact hf.put (fun _ h => h) (fun _ _ h => h) (fun _ _ => rfl) hDj RS.und
   ·intro l hl hne
    obtain ⟨i, h3, h4⟩ := hfr' l hl hne
    exact ⟨i, set_true h3, h4⟩
 ·rintro listed a w hall ⟨_, F, φ, hm, hf, hfr'⟩
  have hlast := htr.last (fun i => listed.getD i false) (fun i hi => by simpa using hall i (by simpa using hi))
  rw [hlast] at hm hf
  have hnx' : σ'.nx = σ.nx := by rw [← hlast, runD_nx]
  refine hend F φ w ⟨σ'.fr, σ'.hp, σ'.nx + ops.toList.length * 16⟩ a hm hf ?_ (by show E.m ≤ σ'.nx + _; rw [hnx']; omega) hKσ
  intro l hl
  have hl' : σ'.nx + ops.toList.length * 16 ≤ l := hl
  rw [hnx'] at hl'
  cases hφl : φ l with
  | none => rfl
  | some c =>
   obtain ⟨i, h3, h4, h5⟩ := hfr' l (by omega) (by rw [hφl]; simp)
   have hi : i < listed.size := by
    rcases Nat.lt_or_ge i listed.size with h6 | h6
    ·exact h6
    ·simp [h6] at h3
   have : listed.size = ops.size := by
    rename_i hx; exact hx.1
   simp at hl'
   omega
 ·refine ⟨⟨by simp, ?_⟩, F, φ, ?_, ?_, ?_⟩
  ·intro i oi _ hD; rw [hz] at hD; cases hD
  ·rw [hz0 _ _ _ _ _ hz]
   exact ⟨⟨fun l ob hl => (hm.rp.objs l ob hl).up (fun _ h => h) (fun _ _ h => h) (fun _ _ => rfl) (fun hv b hb' => ⟨rfl, ((hm.rp.objs l ob hl).lt hv hb').2⟩), hm.rp.inj, hm.rp.inX, hm.rp.bd, hm.rp.one, hm.rp.tb⟩, hm.pin, hm.hF, hm.nF, hm.os, hm.tape, hm.output, fun d => Nat.le_trans (hm.drawn d) (by first | exact Nat.le_refl _ | exact Nat.le_add_right _ _ | simp), hm.size, hm.keep⟩
  ·rw [hz0 _ _ _ _ _ hz]; exact ⟨fun t => (hf.slots t).up (fun _ h => h) (fun _ _ h => h) (fun _ _ => rfl), hf.defers, hf.size⟩
  ·intro l hl hne; exact (hne (hfr l hl)).elim
end
end Abs
end Go.Proofs.YtkefgcleaalnnaaGreat
