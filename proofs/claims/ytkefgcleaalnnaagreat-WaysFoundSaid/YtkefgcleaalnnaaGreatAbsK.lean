/- The state of a walk, and operations one behind another. -/
import Derived.Test.YtkefgcleaalnnaaGreatAbsJ
import Derived.Test.YtkefgcleaalnnaaGreatAbsPo
namespace Go.Proofs.YtkefgcleaalnnaaGreat
set_option linter.unusedVariables false
set_option linter.unusedSimpArgs false
namespace Abs

section
variable {P : Program} {T : List (Nat × TI)} {F : Nat → Prop} {φ φ2 : Nat → Option Value} {X : Nat → Prop} {w : World} {h : Nat → Option Ob} {id : Nat} {N : Nat → Prop} {a : Act} {o : Oper} {k : S → Ch → Prop} {Q : Exit → Act → World → Prop} {mt : List Nat}

structure Env where
 F0 : Nat → Prop
 φ0 : Nat → Option Value
 X : Nat → Prop
 w0 : World
 m : Nat
 n : Nat
 hX : ∀ b, w0.heap.size ≤ b → X b

structure GM (E : Env) (F : Nat → Prop) (φ : Nat → Option Value) (w : World) (h : Nat → Option Ob) : Prop where
 rp : Rp F φ E.X w h
 pin : ∀ l, l < E.m → φ l = E.φ0 l
 hF : ∀ b, E.F0 b → F b
 nF : ∀ b, F b → E.F0 b ∨ E.X b
 os : w.os = E.w0.os
 tape : w.tape = E.w0.tape
 output : w.output = E.w0.output
 drawn : dm → E.w0.drawn ≤ w.drawn
 size : E.w0.heap.size ≤ w.heap.size
 keep : ∀ b, b < E.w0.heap.size → ¬ E.X b → w.heap[b]? = E.w0.heap[b]?

theorem GM.hX {E : Env} (hg : GM E F φ w h) : ∀ b, w.heap.size ≤ b → E.X b := fun b hb' => E.hX b (Nat.le_trans hg.size hb')

theorem GM.next {E : Env} {ch : Ch} {F' : Nat → Prop} {φ' : Nat → Option Value} {w' : World} (hg : GM E F φ w h) (hN : ∀ l, N l → E.m ≤ l) (hn : Nx F φ w h N ch F' φ' w') : GM E F' φ' w' (updF h ch) := by
 refine ⟨hg.rp.next hn hg.hX, ?_, fun b hb' => hn.hF b (hg.hF b hb'), ?_, hn.os.trans hg.os, hn.tape.trans hg.tape, hn.output.trans hg.output, fun d => Nat.le_trans (hg.drawn d) (hn.drawn d), Nat.le_trans hg.size hn.size, ?_⟩
 ·intro l hl
  cases hφ : φ l with
  | some c => rw [hn.hφ l c hφ, ← hg.pin l hl, hφ]
  | none =>
   rw [← hg.pin l hl, hφ]
   cases hφ' : φ' l with
   | none => rfl
   | some c =>
    rcases hn.nφ l c hφ' with h1 | ⟨h1, _⟩
    ·rw [hφ] at h1; cases h1
    ·have := hN l h1; omega
 ·intro b hb'
  rcases hn.nF b hb' with h1 | ⟨h1, h2 | ⟨l, ob, k1, k2, k3, _⟩⟩
  ·exact hg.nF b h1
  ·exact .inr (hg.hX b h2)
  ·exact .inr (hg.rp.inX l ob b k1 k2 k3)
 ·intro b hb' hX
  rw [← hg.keep b hb' hX]
  by_cases e : w'.heap[b]? = w.heap[b]?
  ·exact e
  ·obtain ⟨l, ob, k1, k2, k3, _⟩ := hn.keep b (Nat.lt_of_lt_of_le hb' hg.size) e
   exact (hX (hg.rp.inX l ob b k1 k2 k3)).elim

theorem Rp.restrict (hr : Rp F φ X w h) (rd : List Nat) : Rp F φ X w (only h rd) := by
 have hh : ∀ l ob, only h rd l = some ob → h l = some ob := by
  intro l ob hl
  unfold only at hl
  cases hq : hasN rd l with
  | true => simpa [hq] using hl
  | false => simp [hq] at hl
 exact ⟨fun l ob hl => hr.objs l ob (hh l ob hl), fun l l' ob ob' b h1 h2 => hr.inj l l' ob ob' b (hh l ob h1) (hh l' ob' h2), fun l ob b hl => hr.inX l ob b (hh l ob hl), hr.bd, hr.one, hr.tb⟩
theorem Nx.widen {rd : List Nat} {ch : Ch} {F' : Nat → Prop} {φ' : Nat → Option Value} {w' : World} (hn : Nx F φ w (only h rd) N ch F' φ' w') : Nx F φ w h N ch F' φ' w' := by
 have hh : ∀ l ob, only h rd l = some ob → h l = some ob := by
  intro l ob hl
  unfold only at hl
  cases hq : hasN rd l with
  | true => simpa [hq] using hl
  | false => simp [hq] at hl
 refine ⟨hn.hF, hn.hφ, hn.nφ, hn.os, hn.tape, hn.output, hn.drawn, hn.size, ?_, ?_, hn.objs, ?_, hn.inj⟩
 ·intro b hb' hne
  obtain ⟨l, ob, k1, k2⟩ := hn.keep b hb' hne
  exact ⟨l, ob, hh l ob k1, k2⟩
 ·intro b hb'
  rcases hn.nF b hb' with h1 | ⟨h1, h2 | ⟨l, ob, k1, k2⟩⟩
  ·exact .inl h1
  ·exact .inr ⟨h1, .inl h2⟩
  ·exact .inr ⟨h1, .inr ⟨l, ob, hh l ob k1, k2⟩⟩
 ·intro l ob b h1 h2 h3
  rcases hn.own l ob b h1 h2 h3 with h4 | ⟨l2, o2, k1, k2⟩
  ·exact .inl h4
  ·exact .inr ⟨l2, o2, hh l2 o2 k1, k2⟩

structure GF (n : Nat) (F : Nat → Prop) (φ : Nat → Option Value) (w : World) (sl : Nat → S) (a : Act) : Prop where
 slots : ∀ t, RS F φ w (a.tmps.getD t undef) (sl t)
 defers : a.defers = []
 size : a.tmps.size = n

def putS (sl : Nat → S) (dst : Option Nat) (v : S) (t : Nat) : S := match dst with | some d => if d = t then v else sl t | none => sl t
theorem slot_upd (σ : St) (dst : Option Nat) (v : S) (ch : Ch) : slot (upd σ dst v ch) = putS (slot σ) dst v := by
 funext t
 cases dst with
 | none => rfl
 | some d =>
  simp only [slot, upd, putS, getA, beq_dec]
  by_cases e : d = t <;> simp [e]
theorem hp_upd (σ : St) (dst : Option Nat) (v : S) (ch : Ch) : getA (upd σ dst v ch).hp = updF (getA σ.hp) ch := by
 funext l
 simp only [upd, getA_updH, updF]
 cases chGet ch l <;> rfl

theorem GF.put {n : Nat} {sl : Nat → S} {F' : Nat → Prop} {φ' : Nat → Option Value} {w' : World} (hg : GF n F φ w sl a) (hF : ∀ b, F b → F' b) (hφ : ∀ l c, φ l = some c → φ' l = some c) (hw : ∀ b, F b → w'.heap[b]? = w.heap[b]?)
  {dst : Option Nat} (hd : ∀ d, dst = some d → d < n) {c : Value} {v : S} (hv : RS F' φ' w' c v) : GF n F' φ' w' (putS sl dst v) (a.put dst c) := by
 cases dst with
 | none => exact ⟨fun t => (hg.slots t).up hF hφ hw, hg.defers, hg.size⟩
 | some d =>
  have hd' := hd d rfl
  refine ⟨fun t => ?_, hg.defers, by simpa [Act.put] using hg.size⟩
  simp only [putS]
  by_cases e : d = t
  ·subst e
   rw [if_pos rfl, put_getD_same _ _ _ (by rw [hg.size]; exact hd')]
   exact hv
  ·rw [if_neg e, put_getD_ne _ _ _ _ (by simpa using e)]
   exact (hg.slots t).up hF hφ hw

theorem gslot_sound {n : Nat} {all : List Oper} {σ : St} (hg : GF n F φ w (slot σ) a) {j : Nat} {b : Bool} (h : boolV (gslot all σ j) = some b) : yielded all.toArray a.tmps j = some b := by
 unfold gslot at h
 rw [nth_eq] at h
 cases ho : all[j]? with
 | none => simp [ho, boolV] at h
 | some o =>
  simp only [ho] at h
  cases hd : o.dst with
  | none => simp [hd, boolV] at h
  | some d =>
   simp only [hd] at h
   have hs := hg.slots d
   have := boolV_inv hs h
   have hlt : d < a.tmps.size := by
    rcases Nat.lt_or_ge d a.tmps.size with h1 | h1
    ·exact h1
    ·rw [Array.getD_eq_getD_getElem?, Array.getElem?_eq_none h1] at this; cases this
   unfold yielded
   simp [ho, hd]
   have h2 : a.tmps[d]? = some (.bool b) := by
    rw [Array.getElem?_eq_getElem hlt]
    simpa [hlt] using this
   rw [h2]
theorem RS.und : RS F φ w undef (.tup []) := .tup #[] [] rfl (by intro j c x h; simp at h)
theorem gslot_und {n : Nat} {all : List Oper} {σ : St} (hg : GF n F φ w (slot σ) a) {j : Nat} (h : gslot all σ j = .tup []) : yielded all.toArray a.tmps j = none := by
 unfold gslot at h
 rw [nth_eq] at h
 unfold yielded
 cases ho : all[j]? with
 | none => simp [ho]
 | some o =>
  simp only [ho] at h
  cases hd : o.dst with
  | none => simp [ho, hd]
  | some d =>
   simp only [hd] at h
   have hs := hg.slots d
   rw [h] at hs
   have hv : a.tmps.getD d undef = .tuple #[] := by
    generalize a.tmps.getD d undef = c at hs
    cases hs with
    | tup cs xs hl hh =>
     have : cs = #[] := by apply Array.ext'; exact List.eq_nil_of_length_eq_zero hl
     rw [this]
   simp only [List.getElem?_toArray, ho, hd, Option.bind_some]
   cases hx : a.tmps[d]? with
   | none => rfl
   | some c =>
    rw [Array.getD_eq_getD_getElem?, hx] at hv
    simp at hv
    subst hv
    rfl
theorem split1_sound {g : Bool} {v : S} {k : S → Prop} {c : Value} (hv : RS F φ w c v) (hk : split1 g v k) : ∃ v', RS F φ w c v' ∧ k v' := by
 unfold split1 at hk
 cases g with
 | false => exact ⟨v, hv, hk⟩
 | true =>
  simp only [cond_true] at hk
  split at hk
  ·rename_i b
   have := hv.bool_inv
   subst this
   cases b
   ·exact ⟨_, .c (.tree .ff), hk.f rfl⟩
   ·exact ⟨_, .c (.tree .tt), hk.t rfl⟩
  ·exact ⟨v, hv, hk⟩

theorem slot_cons (t : Nat) (v : S) (σ : St) (hp : List (Nat × Ob)) (nx : Nat) : slot ⟨(t, v) :: σ.fr, hp, nx⟩ = putS (slot σ) (some t) v := slot_upd σ (some t) v []
theorem GF.turn {n : Nat} {sl : Nat → S} {φ' : Nat → Option Value} {a : Act} (hg : GF n F φ w sl a) (hφ : ∀ l c, φ l = some c → φ' l = some c) {t : Nat} {v : S} (hv : RS F φ' w (a.tmps.getD t undef) v) : GF n F φ' w (putS sl (some t) v) a := by
 refine ⟨fun t' => ?_, hg.defers, hg.size⟩
 simp only [putS]
 by_cases e : t = t'
 ·subst e; rw [if_pos rfl]; exact hv
 ·rw [if_neg e]; exact (hg.slots t').up (fun _ h => h) hφ (fun _ _ => rfl)
theorem hookG_sound {E : Env} {j : Nat} {K : St → Prop} {σ : St} {a : Act} (h : HookG j K σ) : ∀ φ, GM E F φ w (getA σ.hp) → GF E.n F φ w (slot σ) a → (∀ l, σ.nx + j * 16 ≤ l → φ l = none) → E.m ≤ σ.nx →
  ∃ φ' σ', GM E F φ' w (getA σ'.hp) ∧ GF E.n F φ' w (slot σ') a ∧ (∀ l, σ'.nx + j * 16 ≤ l → φ' l = none) ∧ E.m ≤ σ'.nx ∧ K σ' := by
 induction h with
 | @no σ h => exact fun φ h1 h2 h3 h4 => ⟨φ, σ, h1, h2, h3, h4, h⟩
 | @ad σ t q e sz cs rows h1 h2 hk ih =>
  intro φ hm hf hfr hmn
  obtain ⟨c, hc⟩ := (hm.rp.objs q _ h2).has rfl
  have hid : φ (σ.nx + j * 16) = none := hfr _ (Nat.le_refl _)
  have hn := Nx.adopt1 (N := fun l => l = σ.nx + j * 16) hm.rp rfl hid h2 hc
  have hm2 := hm.next (fun l hl => by omega) hn
  have hs : ∃ ad n cap, c = .slice ad n cap := by
   obtain ⟨ad, cap, e⟩ := ((hm.rp.objs q _ h2).rowAt' hc).shape
   exact ⟨ad, _, cap, e⟩
  refine ih c _ (by rw [show getA (updH σ.hp [(q, .dead), (σ.nx + j * 16, .pool e sz [(c, some rows)])]) = updF (getA σ.hp) [(q, .dead), (σ.nx + j * 16, .pool e sz [(c, some rows)])] by funext l2; rw [getA_updH]; rfl]; exact hm2) ?_ ?_ (by show E.m ≤ σ.nx + 16; omega)
  ·rw [slot_cons]
   refine hf.turn hn.hφ ?_
   have h5 := hf.slots t
   rw [h1] at h5
   generalize a.tmps.getD t undef = u at h5
   cases h5 with
   | agg xs vs hP => exact .agg xs _ (rawA_sound hn.hφ hc hs _ _ hP)
  ·intro l hl
   have hl' : σ.nx + 16 + j * 16 ≤ l := hl
   unfold addφ
   rw [if_neg (by omega)]
   exact hfr l (by omega)
 | @take σ t p e sz i c ins rows h1 h2 h3 hk ih =>
  intro φ hm hf hfr hmn
  have hid : φ (σ.nx + j * 16) = none := hfr _ (Nat.le_refl _)
  have hn := Nx.takeP (N := fun l => l = σ.nx + j * 16) hm.rp rfl hid h2 h3
  have hm2 := hm.next (fun l hl => by omega) hn
  refine ih _ (by rw [show getA (updH σ.hp [(p, .pool e sz (ins.set i (c, none))), (σ.nx + j * 16, .row e sz rows)]) = updF (getA σ.hp) [(p, .pool e sz (ins.set i (c, none))), (σ.nx + j * 16, .row e sz rows)] by funext l2; rw [getA_updH]; rfl]; exact hm2) ?_ ?_ (by show E.m ≤ σ.nx + 16; omega)
  ·rw [slot_cons]
   refine hf.turn hn.hφ ?_
   have h5 := hf.slots t
   rw [h1] at h5
   generalize a.tmps.getD t undef = u at h5
   have hu : u = c := by
    cases h5 with
    | c hv => cases hv with
     | tree hv => cases hv; rfl
   subst hu
   exact .c (.row _ _ (by simp [addφ]))
  ·intro l hl
   have hl' : σ.nx + 16 + j * 16 ≤ l := hl
   unfold addφ
   rw [if_neg (by omega)]
   exact hfr l (by omega)
theorem hook_sound {E : Env} {o : Oper} {j : Nat} {K : St → Prop} {σ : St} {a : Act} (h : hook o j σ K) (h1 : GM E F φ w (getA σ.hp)) (h2 : GF E.n F φ w (slot σ) a) (h3 : ∀ l, σ.nx + j * 16 ≤ l → φ l = none) (h4 : E.m ≤ σ.nx) :
  ∃ φ' σ', GM E F φ' w (getA σ'.hp) ∧ GF E.n F φ' w (slot σ') a ∧ (∀ l, σ'.nx + j * 16 ≤ l → φ' l = none) ∧ E.m ≤ σ'.nx ∧ K σ' := by
 unfold hook at h
 cases hq : hookB (slot σ) o.op with
 | false => rw [hq] at h; exact ⟨φ, σ, h1, h2, h3, h4, h⟩
 | true => rw [hq] at h; exact hookG_sound h φ h1 h2 h3 h4

theorem arun_seq {E : Env} (hT : TabOK P T) (all : List Oper) (K : St → Prop)
  (hend : ∀ F φ w σ a, GM E F φ w (getA σ.hp) → GF E.n F φ w (slot σ) a → (∀ l, σ.nx ≤ l → φ l = none) → E.m ≤ σ.nx → K σ → Q .normal a w) :
  ∀ (rest : List Oper) (j : Nat) (σ : St) (F : Nat → Prop) (φ : Nat → Option Value) (w : World) (a : Act), (∀ o ∈ rest, ∀ d, o.dst = some d → d < E.n) →
   GM E F φ w (getA σ.hp) → GF E.n F φ w (slot σ) a → (∀ l, σ.nx + j * 16 ≤ l → φ l = none) → E.m ≤ σ.nx → arunS T mt (PCx P) all rest j σ K → wpList P all.toArray Q rest a w
 | [], j, σ, F, φ, w, a, _, hm, hf, hfr, hmn, hk => by
  simp only [arunS, withSt_eq, forceSt_eq, forceN_eq, forceNs_eq] at hk
  exact wpList_nil (hend F φ w ⟨σ.fr, σ.hp, σ.nx + j * 16⟩ a hm hf hfr (Nat.le_trans hmn (Nat.le_add_right _ _)) hk)
 | o :: r, j, σ, F, φ, w, a, hd, hm, hf, hfr, hmn, hk => by
  have hdr : ∀ o' ∈ r, ∀ d, o'.dst = some d → d < E.n := fun o' ho' => hd o' (by simp [ho'])
  have hdo := hd o (by simp)
  simp only [arunS] at hk
  obtain ⟨φ, σ, hm, hf, hfr, hmn, hk⟩ := hook_sound hk hm hf hfr hmn
  have step : aopAtS T mt (PCx P) (slot σ) (getA σ.hp) (σ.nx + j * 16) o.op (fun v ch => split1 (isG all j) v fun v => arunS T mt (PCx P) all r (j + 1) (upd σ o.dst v ch) K) →
    ∀ K' : Act → World → Prop, (∀ a w, wpList P all.toArray Q r a w → K' a w) → o.wp P a w K' Q := by
   intro hk K' hK'
   simp only [aopAtS, forceSs_eq, forceNs_eq] at hk
   refine aopS_sound hT (hm.rp.restrict _) hm.hX (fun l h1 _ => hfr l h1) hf.slots hk ?_
   intro c w' F' φ' v ch hn hs hk'
   obtain ⟨v, hs, hk'⟩ := split1_sound hs hk'
   have hn' := hn.widen
   refine hK' _ _ (arun_seq hT all K hend r (j + 1) (upd σ o.dst v ch) F' φ' w' (a.put o.dst c) hdr ?_ ?_ ?_ hmn hk')
   ·rw [hp_upd]; exact hm.next (fun l hl => by omega) hn'
   ·rw [slot_upd]; exact hf.put hn.hF hn.hφ (hm.rp.keepF hn') hdo hs
   ·intro l hl
    have hl' : σ.nx + (j + 1) * 16 ≤ l := hl
    cases hφ' : φ' l with
    | none => rfl
    | some d =>
     rcases hn.nφ l d hφ' with h1 | ⟨h1, _⟩
     ·rw [hfr l (by omega)] at h1; cases h1
     ·omega
  have skip : arunS T mt (PCx P) all r (j + 1) (upd σ o.dst (.tup []) []) K → wpList P all.toArray Q r (a.put o.dst undef) w := by
   intro hk
   refine arun_seq hT all K hend r (j + 1) (upd σ o.dst (.tup []) []) F φ w (a.put o.dst undef) hdr ?_ ?_ (fun l hl => hfr l (by have hl' : σ.nx + (j + 1) * 16 ≤ l := hl; omega)) hmn hk
   ·rw [hp_upd]; exact hm
   ·rw [slot_upd]; exact hf.put (fun _ h => h) (fun _ _ h => h) (fun _ _ => rfl) hdo RS.und
  simp only [arunS, withSt_eq, stepS_eq, forceSt_eq, forceN_eq, forceNs_eq] at hk
  refine wpList_step fun K' hK' => ?_
  cases hgd : o.guard with
  | none =>
   rw [if_pos (wanted_plain hgd _)]
   simp only [hgd] at hk
   exact step hk K' hK'
  | some g =>
   simp only [hgd] at hk
   have yes : ∀ b, boolV (gslot all σ g.1) = some b → b = g.2 → Region.wanted o (yielded all.toArray a.tmps) = true := by
    intro b hb' e
    have hy := gslot_sound hf hb'
    simp [Region.wanted, hgd, hy, e]
   have no : ∀ b, boolV (gslot all σ g.1) = some b → b ≠ g.2 → ¬ Region.wanted o (yielded all.toArray a.tmps) = true := by
    intro b hb' e
    have hy := gslot_sound hf hb'
    simp [Region.wanted, hgd, hy, e]
   split at hk
   ·rename_i hb'
    have hbv : boolV (gslot all σ g.1) = some true := by rw [hb']; rfl
    cases hg2 : g.2 with
    | true => simp only [hg2, cond_true] at hk; rw [if_pos (yes true hbv hg2.symm)]; exact step hk K' hK'
    | false => simp only [hg2, cond_false] at hk; rw [if_neg (no true hbv (by rw [hg2]; simp))]; exact hK' _ _ (skip hk)
   ·rename_i hb'
    have hbv : boolV (gslot all σ g.1) = some false := by rw [hb']; rfl
    cases hg2 : g.2 with
    | false => simp only [hg2, cond_false] at hk; rw [if_pos (yes false hbv hg2.symm)]; exact step hk K' hK'
    | true => simp only [hg2, cond_true] at hk; rw [if_neg (no false hbv (by rw [hg2]; simp))]; exact hK' _ _ (skip hk)
   ·rename_i hb'
    rw [if_neg (by simp [Region.wanted, hgd, gslot_und hf hb'])]
    exact hK' _ _ (skip hk)
   ·exact hk.elim
end
end Abs
end Go.Proofs.YtkefgcleaalnnaaGreat
