/- Names told anew; calls. -/
import Derived.Test.YtkefgcleaalnnaaGreatAbsH
namespace Go.Proofs.YtkefgcleaalnnaaGreat
set_option linter.unusedVariables false
set_option linter.unusedSimpArgs false
namespace Abs

theorem hasN_iff (l : List Nat) (n : Nat) : hasN l n = true ↔ n ∈ l := by
 induction l with
 | nil => simp [hasN]
 | cons x r ih =>
  by_cases e : x = n
  ·simp [hasN, beq_dec, e]
  ·simp [hasN, beq_dec, e, ih, Ne.symm e]
theorem idx_some : ∀ {ids : List Nat} {l i : Nat}, idx ids l = some i → ids[i]? = some l
 | [], l, i, h => by simp [idx] at h
 | x :: r, l, i, h => by
  by_cases e : x = l
  ·simp [idx, beq_dec, e] at h; subst h; simp [e]
  ·simp only [idx, beq_dec, e, decide_false, cond_false] at h
   cases hr : idx r l with
   | none => simp [hr] at h
   | some j => simp only [hr, Option.some.injEq] at h; subst h; simpa using idx_some hr
theorem nodup_inj : ∀ {ids : List Nat}, nodupB ids = true → ∀ {i j l : Nat}, ids[i]? = some l → ids[j]? = some l → i = j
 | [], _, i, j, l, h, _ => by simp at h
 | x :: r, hn, i, j, l, h, h' => by
  simp only [nodupB, Bool.and_eq_true, Bool.not_eq_true'] at hn
  have hx : ∀ k : Nat, r[k]? = some x → False := by
   intro k hk
   have : hasN r x = true := (hasN_iff r x).2 (List.mem_of_getElem? hk)
   rw [hn.1] at this; cases this
  cases i with
  | zero =>
   simp at h; subst h
   cases j with
   | zero => rfl
   | succ j => exact (hx j (by simpa using h')).elim
  | succ i =>
   cases j with
   | zero => simp at h'; subst h'; exact (hx i (by simpa using h)).elim
   | succ j => exact congrArg (· + 1) (nodup_inj (l := l) hn.2 (by simpa using h) (by simpa using h'))
theorem allLt_get : ∀ {ids : List Nat} {n : Nat}, allLt ids n = true → ∀ {i l : Nat}, ids[i]? = some l → l < n
 | [], _, _, i, l, h => by simp at h
 | x :: r, n, ha, i, l, h => by
  simp only [allLt, Bool.and_eq_true] at ha
  cases i with
  | zero => simp at h; subst h; exact Nat.le_of_ble_eq_true ha.1
  | succ i => exact allLt_get ha.2 (by simpa using h)

section
variable {P : Program} {T : List (Nat × TI)} {F : Nat → Prop} {φ φ2 : Nat → Option Value} {X : Nat → Prop} {w : World} {h : Nat → Option Ob} {id : Nat} {N : Nat → Prop} {a : Act} {o : Oper} {k : S → Ch → Prop} {K : Act → World → Prop} {Q : Exit → Act → World → Prop} {PC : Nat → List S → List Ob → (S → List Ob → Prop) → Prop} {mt : List Nat} {g : Nat → Option Nat}

mutual
theorem rnV_sound (hg : ∀ l i d, g l = some i → φ l = some d → φ2 i = some d) : ∀ (v : V) {c : Value} {k : V → Prop}, RV F φ w c v → rnV g v k → ∃ v', RV F φ2 w c v' ∧ k v'
 | .row l, c, k, hv, hk => by
  simp only [rnV] at hk
  cases hv with
  | tree hv => cases hv
  | row l c hl =>
   cases hgl : g l with
   | none => simp [hgl] at hk
   | some i => simp only [hgl] at hk; exact ⟨_, .row i c (hg l i c hgl hl), hk⟩
 | .mp l, c, k, hv, hk => by
  simp only [rnV] at hk
  cases hv with
  | tree hv => cases hv
  | mp l c hl =>
   cases hgl : g l with
   | none => simp [hgl] at hk
   | some i => simp only [hgl] at hk; exact ⟨_, .mp i c (hg l i c hgl hl), hk⟩
 | .ptr l off, c, k, hv, hk => by
  simp only [rnV] at hk
  cases hv with
  | tree hv => cases hv
  | ptr l off b hl =>
   cases hgl : g l with
   | none => simp [hgl] at hk
   | some i => simp only [hgl] at hk; exact ⟨_, .ptr i off b (hg l i _ hgl hl), hk⟩
 | .eptr l sz p off, c, k, hv, hk => by
  simp only [rnV] at hk
  cases hv with
  | tree hv => cases hv
  | eptr l sz p off b n cap hl =>
   cases hgl : g l with
   | none => simp [hgl] at hk
   | some i => simp only [hgl] at hk; exact ⟨_, .eptr i sz p off b n cap (hg l i _ hgl hl), hk⟩
 | .vw l sz p n, c, k, hv, hk => by
  simp only [rnV] at hk
  cases hv with
  | tree hv => cases hv
  | vw l sz p n ad a' N cap c' hl hn hc' hcc' ha0' ha' =>
   cases hgl : g l with
   | none => simp [hgl] at hk
   | some i => simp only [hgl] at hk; exact ⟨_, .vw i sz p n ad a' N cap c' (hg l i _ hgl hl) hn hc' hcc' ha0' ha', hk⟩
 | .inn l p v0, c, k, hv, hk => by
  simp only [rnV] at hk
  cases hv with
  | tree hv => cases hv
  | inn l p v0 hs =>
   cases hgl : g l with
   | none => simp [hgl] at hk
   | some i => simp only [hgl] at hk; exact ⟨_, .inn i p _ hs, hk⟩
 | .iptr l p sz j off v0, c, k, hv, hk => by
  simp only [rnV] at hk
  cases hv with
  | tree hv => cases hv
  | iptr l p sz j off b n cap =>
   cases hgl : g l with
   | none => simp [hgl] at hk
   | some i => simp only [hgl] at hk; exact ⟨_, .iptr i p sz j off b n cap, hk⟩
 | .fn f caps, c, k, hv, hk => by
  simp only [rnV] at hk
  cases hv with
  | tree hv => cases hv
  | fn f caps cs hl hh =>
   obtain ⟨vs', h1, h2⟩ := rnVs_sound hg caps ⟨hl, hh⟩ hk
   exact ⟨_, .fn f vs' cs h1.1 h1.2, h2⟩
 | .int a b, c, k, hv, hk => by cases hv with | tree hv => exact ⟨_, .tree hv, hk⟩
 | .bool b, c, k, hv, hk => by cases hv with | tree hv => exact ⟨_, .tree hv, hk⟩
 | .tt, c, k, hv, hk => by cases hv with | tree hv => cases hv; exact ⟨_, .tree (.bool true), hk⟩
 | .ff, c, k, hv, hk => by cases hv with | tree hv => cases hv; exact ⟨_, .tree (.bool false), hk⟩
 | .str b, c, k, hv, hk => by cases hv with | tree hv => exact ⟨_, .tree hv, hk⟩
 | .nils, c, k, hv, hk => by cases hv with | tree hv => exact ⟨_, .tree hv, hk⟩
 | .nilp, c, k, hv, hk => by cases hv with | tree hv => exact ⟨_, .tree hv, hk⟩
 | .nilf, c, k, hv, hk => by cases hv with | tree hv => exact ⟨_, .tree hv, hk⟩
 | .nili, c, k, hv, hk => by cases hv with | tree hv => exact ⟨_, .tree hv, hk⟩
 | .nilm, c, k, hv, hk => by cases hv with | tree hv => exact ⟨_, .tree hv, hk⟩
 | .lst a b, c, k, hv, hk => by cases hv with | tree hv => exact ⟨_, .tree hv, hk⟩
 | .cptr a, c, k, hv, hk => by cases hv with | tree hv => exact ⟨_, .tree hv, hk⟩
 | .cmap a, c, k, hv, hk => by cases hv with | tree hv => exact ⟨_, .tree hv, hk⟩
 | .bot, c, k, hv, hk => by cases hv with | tree hv => exact ⟨_, .tree hv, hk⟩
theorem rnVs_sound (hg : ∀ l i d, g l = some i → φ l = some d → φ2 i = some d) : ∀ (vs : List V) {cs : List Value} {k : List V → Prop}, P2 (RV F φ w) cs vs → rnV.rnVs g vs k → ∃ vs', P2 (RV F φ2 w) cs vs' ∧ k vs'
 | [], cs, k, hp, hk => by
  have := hp.nil_inv; subst this
  exact ⟨[], P2.nil, hk⟩
 | v :: r, cs, k, hp, hk => by
  obtain ⟨c, cs', rfl, hv, hp'⟩ := hp.cons_inv
  simp only [rnV.rnVs] at hk
  obtain ⟨v', h1, hk⟩ := rnV_sound hg v hv hk
  obtain ⟨vs', h2, hk⟩ := rnVs_sound hg r hp' hk
  exact ⟨_, P2.cons h1 h2, hk⟩
end

mutual
theorem rnS_sound (hg : ∀ l i d, g l = some i → φ l = some d → φ2 i = some d) : ∀ (s : S) {c : Value} {k : S → Prop}, RS F φ w c s → rnS g s k → ∃ s', RS F φ2 w c s' ∧ k s'
 | .c v, c, k, hs, hk => by
  cases hs with | c hv =>
   obtain ⟨v', h1, h2⟩ := rnV_sound hg v hv hk
   exact ⟨_, .c h1, h2⟩
 | .agg vs, c, k, hs, hk => by
  cases hs with | agg cs vs hp =>
   obtain ⟨v', h1, h2⟩ := rnVs_sound hg vs hp hk
   exact ⟨_, .agg cs _ h1, h2⟩
 | .tup xs, c, k, hs, hk => by
  cases hs with | tup cs xs hl hh =>
   simp only [rnS] at hk
   obtain ⟨xs', h1, h2⟩ := rnSs_sound hg xs ⟨hl, hh⟩ hk
   exact ⟨_, .tup cs _ h1.1 h1.2, h2⟩
 | .bot, c, k, hs, hk => ⟨.bot, .bot c, hk⟩
theorem rnSs_sound (hg : ∀ l i d, g l = some i → φ l = some d → φ2 i = some d) : ∀ (vs : List S) {cs : List Value} {k : List S → Prop}, P2 (RS F φ w) cs vs → rnS.rnSs g vs k → ∃ vs', P2 (RS F φ2 w) cs vs' ∧ k vs'
 | [], cs, k, hp, hk => by
  have := hp.nil_inv; subst this
  exact ⟨[], P2.nil, hk⟩
 | v :: r, cs, k, hp, hk => by
  obtain ⟨c, cs', rfl, hv, hp'⟩ := hp.cons_inv
  simp only [rnS.rnSs] at hk
  obtain ⟨v', h1, hk⟩ := rnS_sound hg v hv hk
  obtain ⟨vs', h2, hk⟩ := rnSs_sound hg r hp' hk
  exact ⟨_, P2.cons h1 h2, hk⟩
end

def Like (o' o : Ob) : Prop := live o' = live o ∧ ∀ b, insB o' b ↔ insB o b
theorem rnO_sound (hg : ∀ l i d, g l = some i → φ l = some d → φ2 i = some d) (ob : Ob) {l : Nat} {k : Ob → Prop} (hro : RO F φ w l ob) (hk : rnO g ob k) :
  ∃ ob', Like ob' ob ∧ (∀ l2, (∀ d, φ l = some d → φ2 l2 = some d) → RO F φ2 w l2 ob') ∧ k ob' := by
 cases ob with
 | box cells t =>
  obtain ⟨b, cs, E, h1, h2, h3, h4, h7⟩ := hro
  simp only [rnO] at hk
  obtain ⟨vs', h5, h6⟩ := rnVs_sound hg cells h4 hk
  exact ⟨.box vs' t, ⟨rfl, fun _ => Iff.rfl⟩, fun l2 hl2 => ⟨b, cs, E, hl2 _ h1, h2, h3, h5, h7⟩, h6⟩
 | row e sz rows =>
  refine ⟨.row e sz rows, ⟨rfl, fun _ => Iff.rfl⟩, fun l2 hl2 => ?_, hk⟩
  rcases hro with ⟨c, xs, h1, h2⟩ | ⟨h0, p, h1⟩
  ·exact .inl ⟨c, xs, hl2 _ h1, h2⟩
  ·exact .inr ⟨h0, p, hl2 _ h1⟩
 | frow sz rows =>
  obtain ⟨c, h1, h2⟩ := hro
  exact ⟨.frow sz rows, ⟨rfl, fun _ => Iff.rfl⟩, fun l2 hl2 => ⟨c, hl2 _ h1, h2⟩, hk⟩
 | map clock es =>
  obtain ⟨b, ents, h1, h2⟩ := hro
  exact ⟨.map clock es, ⟨rfl, fun _ => Iff.rfl⟩, fun l2 hl2 => ⟨b, ents, hl2 _ h1, h2⟩, hk⟩
 | iter m since seen =>
  obtain ⟨r, b, h1, h2, h3, h4⟩ := hro
  simp only [rnO] at hk
  cases hgm : g m with
  | none => simp [hgm] at hk
  | some i => simp only [hgm] at hk; exact ⟨.iter i since seen, ⟨rfl, fun _ => Iff.rfl⟩, fun l2 hl2 => ⟨r, b, hl2 _ h1, h2, h3, hg m i _ hgm h4⟩, hk⟩
 | grid e e2 sz ins =>
  obtain ⟨c, h1, h2⟩ := hro
  exact ⟨.grid e e2 sz ins, ⟨rfl, fun _ => Iff.rfl⟩, fun l2 hl2 => ⟨c, hl2 _ h1, h2⟩, hk⟩
 | pmap q p clock es =>
  obtain ⟨b, ents, h1, h2, h3, h4, h5, h6⟩ := hro
  simp only [rnO] at hk
  cases q with
  | true => exact hk.elim
  | false =>
   simp only [cond_false] at hk
   cases hgm : g p with
   | none => simp [hgm] at hk
   | some i =>
    simp only [hgm] at hk
    refine ⟨.pmap false i clock es, ⟨rfl, fun _ => Iff.rfl⟩, fun l2 hl2 => ⟨b, ents, hl2 _ h1, h2, h3, ⟨h4.1, fun j x y hx hy => ?_⟩, h5, h6⟩, hk⟩
    have hg := h4.2 j x y hx hy
    refine ⟨hg.1, hg.2.1, ?_⟩
    have hi := h6 rfl y (List.mem_of_getElem? hy)
    have hv := hg.2.2
    generalize y.2.2 = s at hi hv ⊢
    generalize x.val = u at hv ⊢
    cases hv with
    | c hv =>
     cases hv with
     | tree hv => exact .c (.tree hv)
     | inn l i c hc => exact .c (.inn l i _ hc)
     | _ => exact hi.elim
    | _ => exact hi.elim
 | pool e sz ins =>
  exact ⟨.pool e sz ins, ⟨rfl, fun _ => Iff.rfl⟩, fun l2 hl2 => ⟨hl2 _ hro.1, hro.2⟩, hk⟩
 | dead => exact ⟨.dead, ⟨rfl, fun _ => Iff.rfl⟩, fun _ _ => trivial, hk⟩

theorem rnOs_sound (hg : ∀ l i d, g l = some i → φ l = some d → φ2 i = some d) : ∀ (os : List Ob) (src : Nat → Nat) {k : List Ob → Prop}, (∀ i ob, os[i]? = some ob → RO F φ w (src i) ob) → rnOs g os k →
  ∃ os', os'.length = os.length ∧ (∀ (i : Nat) (ob' : Ob), os'[i]? = some ob' → ∃ ob, os[i]? = some ob ∧ Like ob' ob ∧ ∀ l2, (∀ d, φ (src i) = some d → φ2 l2 = some d) → RO F φ2 w l2 ob') ∧ k os'
 | [], src, k, _, hk => ⟨[], rfl, fun i ob' h => by simp at h, hk⟩
 | ob :: r, src, k, hro, hk => by
  simp only [rnOs] at hk
  obtain ⟨ob', h1, h2, hk⟩ := rnO_sound hg ob (hro 0 ob (by simp)) hk
  obtain ⟨os', h3, h4, hk⟩ := rnOs_sound hg r (fun i => src (i + 1)) (fun i x hx => hro (i + 1) x (by simpa using hx)) hk
  refine ⟨ob' :: os', by simp [h3], ?_, hk⟩
  intro i x hx
  cases i with
  | zero => simp at hx; subst hx; exact ⟨ob, by simp, h1, h2⟩
  | succ i =>
   obtain ⟨y, k1, k2, k3⟩ := h4 i x (by simpa using hx)
   exact ⟨y, by simpa using k1, k2, k3⟩

theorem getAll_sound : ∀ (ids : List Nat) {k : List Ob → Prop}, getAll h ids k → ∃ os, os.length = ids.length ∧ (∀ (i l : Nat), ids[i]? = some l → ∃ ob, h l = some ob ∧ os[i]? = some ob) ∧ k os
 | [], k, hk => ⟨[], rfl, fun i l hl => by simp at hl, hk⟩
 | l :: r, k, hk => by
  simp only [getAll] at hk
  cases hob : h l with
  | none => simp [hob] at hk
  | some ob =>
   simp only [hob] at hk
   obtain ⟨os, h1, h2, hk⟩ := getAll_sound r hk
   refine ⟨ob :: os, by simp [h1], ?_, hk⟩
   intro i l' hl'
   cases i with
   | zero => simp at hl'; subst hl'; exact ⟨ob, hob, by simp⟩
   | succ i =>
    obtain ⟨x, k1, k2⟩ := h2 i l' (by simpa using hl')
    exact ⟨x, k1, by simpa using k2⟩

theorem zipCh_sound : ∀ (i0 : Nat) (os : List Ob) {k : Ch → Prop}, zipCh i0 g os k → ∃ ch, (∀ l ob, chGet ch l = some ob → ∃ i, g (i0 + i) = some l ∧ os[i]? = some ob) ∧ (∀ (i : Nat) (ob : Ob), os[i]? = some ob → ∃ l, g (i0 + i) = some l ∧ (chGet ch l).isSome) ∧ k ch
 | i0, [], k, hk => ⟨[], fun l ob hl => by simp [chGet] at hl, fun i ob hi => by simp at hi, hk⟩
 | i0, ob :: r, k, hk => by
  simp only [zipCh] at hk
  cases hgi : g i0 with
  | none => simp [hgi] at hk
  | some l =>
   simp only [hgi] at hk
   obtain ⟨ch, h1, h2, hk⟩ := zipCh_sound (i0 + 1) r hk
   refine ⟨(l, ob) :: ch, ?_, ?_, hk⟩
   ·intro l' x hx
    simp only [chGet] at hx
    cases hc : chGet ch l' with
    | some x' =>
     simp only [hc] at hx; cases hx
     obtain ⟨i, k1, k2⟩ := h1 l' _ hc
     exact ⟨i + 1, by rw [← k1]; congr 1; omega, by simpa using k2⟩
    | none =>
     simp only [hc] at hx
     split at hx
     ·rename_i e; subst e; cases hx; exact ⟨0, hgi, by simp⟩
     ·cases hx
   ·intro i x hx
    cases i with
    | zero =>
     refine ⟨l, hgi, ?_⟩
     simp only [chGet]
     cases chGet ch l <;> simp
    | succ i =>
     obtain ⟨l', k1, k2⟩ := h2 i x (by simpa using hx)
     refine ⟨l', by rw [← k1]; congr 1; omega, ?_⟩
     simp only [chGet]
     cases hc : chGet ch l' with
     | some => rfl
     | none => simp [hc] at k2

def chOf : Nat → List Ob → Ch
 | _, [] => []
 | i, ob :: r => (i, ob) :: chOf (i + 1) r
theorem chGet_chOf : ∀ (os : List Ob) (i0 l : Nat), chGet (chOf i0 os) l = if i0 ≤ l then os[l - i0]? else none
 | [], i0, l => by simp [chOf, chGet]
 | ob :: r, i0, l => by
  simp only [chOf, chGet, chGet_chOf r]
  by_cases h1 : i0 = l
  ·subst h1; rw [if_neg (by omega), if_pos (Nat.le_refl _)]; simp
  ·by_cases h2 : i0 ≤ l
   ·have h3 : i0 + 1 ≤ l := by omega
    rw [if_pos h3, if_pos h2, show l - i0 = (l - (i0 + 1)) + 1 by omega, List.getElem?_cons_succ]
    cases r[l - (i0 + 1)]? <;> simp [h1]
   ·have h3 : ¬ i0 + 1 ≤ l := by omega
    rw [if_neg h3, if_neg h2]; simp [h1]

structure PCx (P : Program) (f : Nat) (args : List S) (objs : List Ob) (Q : S → List Ob → Prop) : Prop where
 fn : ∃ fn, P.funcs[f]? = some fn ∧ (fn.name == "runtime.NumGoroutine") = false ∧ fn.body.isNone = false
 calls : ∀ (F : Nat → Prop) (φ : Nat → Option Value) (w : World) (cargs : Array Value), P2 (RS F φ w) cargs.toList args → Rp F φ (fun _ => True) w (nth objs) → (∀ l c, φ l = some c → l < objs.length) →
  Calls P f cargs w fun e w' => ∃ c F' φ' r objs', Q r objs' ∧ e = .returned c ∧ RS F' φ' w' c r ∧ Nx F φ w (nth objs) (fun l => objs.length ≤ l) (chOf 0 objs') F' φ' w'
abbrev PCs (P : Program) (f : Nat) (args : List S) (objs : List Ob) (r : S) (objs' : List Ob) : Prop := PCx P f args objs (one r objs')

theorem CallX.some {PX : (S → List Ob → Prop) → Prop} {K : S → List Ob → Prop} (h : CallX PX K) : ∃ Q, PX Q ∧ ∀ r os, Q r os → K r os := by
 rcases h with ⟨r, os, h1, h2⟩ | ⟨Q, h1, h2⟩
 ·exact ⟨_, h1, fun r' os' h => by obtain ⟨e1, e2⟩ := h; subst e1 e2; exact h2⟩
 ·exact ⟨Q, h1, h2⟩
theorem GD.x {PX : (S → List Ob → Prop) → Prop} {K : S → List Ob → Prop} (h : GD PX K) : CallX PX K := by
 obtain ⟨r, os, h1, h2⟩ := h
 exact .mk r os h1 h2
theorem callOn_sound {G : ((S → List Ob → Prop) → Prop) → (S → List Ob → Prop) → Prop} (hG : ∀ PX k, G PX k → CallX PX k) {f : Nat} {ar : List S} {cargs : Array Value} (hr : Rp F φ X w h) (hid : ∀ l, id ≤ l → l < id + 16 → φ l = none) (has : P2 (RS F φ w) cargs.toList ar) (hk : callOn (PCx P) G h id f ar k) :
  (∃ fn, P.funcs[f]? = some fn ∧ (fn.name == "runtime.NumGoroutine") = false ∧ fn.body.isNone = false) ∧
  Calls P f cargs w fun e w' => ∃ c F' φ' ch s, e = .returned c ∧ RS F' φ' w' c s ∧ Nx F φ w h (fun l => id ≤ l ∧ l < id + 16) ch F' φ' w' ∧ k s ch := by
 unfold callOn at hk
 simp only [forceNs_eq] at hk
 generalize clo h 30 (idsS.idsSs ar) [] = ids at hk
 cases hnd : nodupB ids && allLt ids id with
 | false => simp [hnd] at hk
 | true =>
 simp only [hnd, cond_true] at hk
 rw [Bool.and_eq_true] at hnd
 obtain ⟨hnd, hlt⟩ := hnd
 obtain ⟨os, ho1, ho2, hk⟩ := getAll_sound ids hk
 have hosinv : ∀ (i : Nat) (ob : Ob), os[i]? = some ob → ∃ l, ids[i]? = some l ∧ h l = some ob := by
  intro i ob hi
  have hlt' : i < ids.length := by rw [← ho1]; exact (List.getElem?_eq_some_iff.1 hi).1
  obtain ⟨ob2, k1, k2⟩ := ho2 i ids[i] (List.getElem?_eq_getElem hlt')
  rw [hi] at k2; cases k2
  exact ⟨_, List.getElem?_eq_getElem hlt', k1⟩
 let φc : Nat → Option Value := fun i => (ids[i]?).bind φ
 have hg : ∀ l i d, idx ids l = some i → φ l = some d → φc i = some d := by
  intro l i d hl hd
  show (ids[i]?).bind φ = some d
  rw [idx_some hl]; exact hd
 obtain ⟨ar2, har2, hk⟩ := rnSs_sound hg ar has hk
 obtain ⟨os2, hs1, hs2, hk⟩ := rnOs_sound (F := F) (w := w) hg os (fun i => (ids[i]?).getD 0) (by
  intro i ob hi
  obtain ⟨l, k1, k2⟩ := hosinv i ob hi
  simp only [k1, Option.getD_some]
  exact hr.objs l ob k2) hk
 have hbc : ∀ (i l : Nat), ids[i]? = some l → blkOf φc i = blkOf φ l := by
  intro i l hi
  show (((ids[i]?).bind φ).bind hb) = _
  rw [hi]; rfl
 have hbcB : ∀ (i l : Nat) (o' o : Ob) (b : Nat), ids[i]? = some l → Like o' o → Blk φc i o' b → Blk φ l o b := by
  intro i l o' o b hi lk hB
  rcases hB with hB | hB
  ·rw [hbc i l hi] at hB; exact .inl hB
  ·exact .inr ((lk.2 b).1 hB)
 have hc2 : ∀ (i : Nat) (ob' : Ob), nth os2 i = some ob' → ∃ (l : Nat) (ob : Ob), ids[i]? = some l ∧ h l = some ob ∧ Like ob' ob ∧ RO F φc w i ob' := by
  intro i ob' hi
  rw [nth_eq] at hi
  obtain ⟨ob, k1, k2, k3⟩ := hs2 i ob' hi
  obtain ⟨l, j1, j2⟩ := hosinv i ob k1
  refine ⟨l, ob, j1, j2, k2, k3 i ?_⟩
  intro d hd
  simp only [j1, Option.getD_some] at hd
  show (ids[i]?).bind φ = some d
  rw [j1]; exact hd
 have hrc : Rp F φc (fun _ => True) w (nth os2) := by
  refine ⟨?_, ?_, fun _ _ _ _ _ _ => trivial, hr.bd, ?_, hr.tb⟩
  ·intro i ob' hi
   obtain ⟨l, ob, _, _, _, h5⟩ := hc2 i ob' hi
   exact h5
  ·intro i i' ob ob' b h1 h2 h3 h4 h5 h6
   obtain ⟨l, x, j1, j2, j3, _⟩ := hc2 i ob h1
   obtain ⟨l', x', j1', j2', j3', _⟩ := hc2 i' ob' h2
   have h5 := hbcB i l _ _ b j1 j3 h5
   have h6 := hbcB i' l' _ _ b j1' j3' h6
   have := hr.inj l l' x x' b j2 j2' (j3.1 ▸ h3) (j3'.1 ▸ h4) h5 h6
   subst this
   exact nodup_inj hnd j1 j1'
  ·intro i c hc
   have hc' : (ids[i]?).bind φ = some c := hc
   cases hi : ids[i]? with
   | none => simp [hi] at hc'
   | some l => simp only [hi, Option.bind_some] at hc'; exact hr.one l c hc'
 obtain ⟨Q, ⟨hfn, hcalls⟩, hk⟩ := (hG _ _ hk).some
 have hm : os2.length = ids.length := hs1.trans ho1
 refine ⟨hfn, (hcalls F φc w cargs har2 hrc ?_).mono ?_⟩
 ·intro i c hc
  have hc' : (ids[i]?).bind φ = some c := hc
  cases hi : ids[i]? with
  | none => simp [hi] at hc'
  | some l => rw [hm]; exact (List.getElem?_eq_some_iff.1 hi).1
 rintro e w' ⟨c, F', φ', r, objs', hQ, rfl, hrs, hnx⟩
 replace hk := hk r objs' hQ
 let φ2 : Nat → Option Value := fun l => if id ≤ l ∧ l < id + 16 then φ' (ids.length + (l - id)) else φ l
 have hφ2old : ∀ l d, φ l = some d → φ2 l = some d := by
  intro l d hd
  show (if id ≤ l ∧ l < id + 16 then _ else φ l) = some d
  rw [if_neg]; exact hd
  rintro ⟨h1, h2⟩
  rw [hid l h1 h2] at hd; cases hd
 have hback : ∀ (i l : Nat), back ids ids.length id i = some l → (i < ids.length ∧ ids[i]? = some l) ∨ (ids.length ≤ i ∧ l = id + (i - ids.length) ∧ i - ids.length < 16) := by
  intro i l hb'
  unfold back at hb'
  cases h1 : Nat.blt i ids.length with
  | true =>
   simp only [h1, cond_true, nth_eq] at hb'
   exact .inl ⟨Nat.le_of_ble_eq_true h1, hb'⟩
  | false =>
   simp only [h1, cond_false] at hb'
   cases h2 : Nat.blt (i - ids.length) 16 with
   | false => simp [h2] at hb'
   | true =>
    simp only [h2, cond_true, Option.some.injEq] at hb'
    have h3 : ¬ i < ids.length := fun hlt => by
     have : Nat.blt i ids.length = true := Nat.ble_eq_true_of_le hlt
     rw [h1] at this; cases this
    exact .inr ⟨by omega, hb'.symm, Nat.le_of_ble_eq_true h2⟩
 have hg2 : ∀ i l d, back ids ids.length id i = some l → φ' i = some d → φ2 l = some d := by
  intro i l d hb' hd
  rcases hback i l hb' with ⟨h1, h2⟩ | ⟨h1, h2, h3⟩
  ·refine hφ2old l d ?_
   rcases hnx.nφ i d hd with h4 | ⟨h4, _⟩
   ·have h5 : (ids[i]?).bind φ = some d := h4
    rw [h2] at h5; exact h5
   ·have h4' : os2.length ≤ i := h4
    omega
  ·show (if id ≤ l ∧ l < id + 16 then _ else φ l) = some d
   rw [if_pos (by omega), h2, show ids.length + (id + (i - ids.length) - id) = i by omega]
   exact hd
 obtain ⟨r2, hr2, hk⟩ := rnS_sound hg2 r hrs hk
 obtain ⟨os3, hs3, hs4, hk⟩ := rnOs_sound (F := F') (w := w') hg2 objs' (fun i => i) (by
  intro i ob hi
  exact hnx.objs i ob (by rw [chGet_chOf]; simpa using hi)) hk
 obtain ⟨ch, hz1, hz2, hk⟩ := zipCh_sound 0 os3 hk
 have hin : ∀ i ob b, nth os2 i = some ob → live ob = true → Blk φc i ob b → (chGet (chOf 0 objs') i).isSome → ∃ l x, h l = some x ∧ live x = true ∧ Blk φ l x b ∧ (chGet ch l).isSome := by
  intro i ob b h1 h2 h3 h4
  obtain ⟨l, x, j1, j2, j3, _⟩ := hc2 i ob h1
  refine ⟨l, x, j2, j3.1 ▸ h2, hbcB i l _ _ b j1 j3 h3, ?_⟩
  rw [chGet_chOf] at h4
  simp only [Nat.zero_le, if_true, Nat.sub_zero] at h4
  have hlt' : i < os3.length := by
   rw [hs3]
   cases hx : objs'[i]? with
   | none => simp [hx] at h4
   | some => exact (List.getElem?_eq_some_iff.1 hx).1
  obtain ⟨l2, k1, k2⟩ := hz2 i os3[i] (List.getElem?_eq_getElem hlt')
  rw [Nat.zero_add] at k1
  rcases hback i l2 k1 with ⟨g1, g2⟩ | ⟨g1, _⟩
  ·rw [j1] at g2; cases g2; exact k2
  ·have := (List.getElem?_eq_some_iff.1 j1).1; omega
 have hch : ∀ (l : Nat) (ob : Ob), chGet ch l = some ob → ∃ (i : Nat) (ob0 : Ob), back ids ids.length id i = some l ∧ objs'[i]? = some ob0 ∧ Like ob ob0 ∧ RO F' φ2 w' l ob ∧ RO F' φ' w' i ob0 := by
  intro l ob hl
  obtain ⟨i, k1, k2⟩ := hz1 l ob hl
  rw [Nat.zero_add] at k1
  obtain ⟨ob0, j1, j2, j3⟩ := hs4 i ob k2
  have hro := hnx.objs i ob0 (by rw [chGet_chOf]; simpa using j1)
  exact ⟨i, ob0, k1, j1, j2, j3 l (fun d hd => hg2 i l d k1 hd), hro⟩
 have hblk2 : ∀ i l ob ob0 b, back ids ids.length id i = some l → RO F' φ' w' i ob0 → live ob0 = true → Like ob ob0 → Blk φ2 l ob b → Blk φ' i ob0 b := by
  intro i l ob ob0 b h1 h2 h3 lk h4
  obtain ⟨d, hd⟩ := h2.has h3
  rcases h4 with h4 | h4
  rotate_left
  ·exact .inr ((lk.2 b).1 h4)
  left
  unfold blkOf at h4 ⊢
  rw [hg2 i l d h1 hd] at h4
  rw [hd]; exact h4
 refine ⟨c, F', φ2, ch, r2, rfl, hr2, ⟨hnx.hF, hφ2old, ?_, hnx.os, hnx.tape, hnx.output, hnx.drawn, hnx.size, ?_, ?_, ?_, ?_, ?_⟩, hk⟩
 ·intro l d hd
  have hd' : (if id ≤ l ∧ l < id + 16 then φ' (ids.length + (l - id)) else φ l) = some d := hd
  split at hd'
  ·rename_i h1
   refine .inr ⟨h1, ?_⟩
   rcases hnx.nφ _ d hd' with h4 | ⟨_, h4⟩
   ·exact hrc.one _ d h4
   ·exact h4
  ·exact .inl hd'
 ·intro b hb' hne
  obtain ⟨i, ob, h1, h2, h3, h4⟩ := hnx.keep b hb' hne
  exact hin i ob b h1 h2 h3 h4
 ·intro b hb'
  rcases hnx.nF b hb' with h1 | ⟨h1, h2 | ⟨i, ob, h3, h4, h5, h6⟩⟩
  ·exact .inl h1
  ·exact .inr ⟨h1, .inl h2⟩
  ·exact .inr ⟨h1, .inr (hin i ob b h3 h4 h5 h6)⟩
 ·intro l ob hl
  obtain ⟨i, ob0, _, _, _, h5, _⟩ := hch l ob hl
  exact h5
 ·intro l ob b hl hv hb'
  obtain ⟨i, ob0, h1, h2, h3, h4, h5⟩ := hch l ob hl
  rcases hnx.own i ob0 b (by rw [chGet_chOf]; simpa using h2) (h3.1 ▸ hv) (hblk2 i l ob ob0 b h1 h5 (h3.1 ▸ hv) h3 hb') with h6 | ⟨i2, o2, k1, k2, k3, k4⟩
  ·exact .inl h6
  ·exact .inr (hin i2 o2 b k1 k2 k3 k4)
 ·intro l l' ob ob' b hl hl' hv hv' hb1 hb2
  obtain ⟨i, ob0, h1, h2, h3, h4, h5⟩ := hch l ob hl
  obtain ⟨i', ob0', h1', h2', h3', h4', h5'⟩ := hch l' ob' hl'
  have := hnx.inj i i' ob0 ob0' b (by rw [chGet_chOf]; simpa using h2) (by rw [chGet_chOf]; simpa using h2') (h3.1 ▸ hv) (h3'.1 ▸ hv') (hblk2 i l ob ob0 b h1 h5 (h3.1 ▸ hv) h3 hb1) (hblk2 i' l' ob' ob0' b h1' h5' (h3'.1 ▸ hv') h3' hb2)
  subst this
  rw [h1] at h1'; exact Option.some.inj h1'
end
end Abs
end Go.Proofs.YtkefgcleaalnnaaGreat
