/- Steps one behind another; rows that are frozen; appends. -/
import Derived.Test.YtkefgcleaalnnaaGreatAbsF
namespace Go.Proofs.YtkefgcleaalnnaaGreat
set_option linter.unusedVariables false
set_option linter.unusedSimpArgs false
namespace Abs

theorem chGet_append (c1 c2 : Ch) (l : Nat) : chGet (c1 ++ c2) l = match chGet c2 l with | some o => some o | none => chGet c1 l := by
 induction c1 with
 | nil => simp only [List.nil_append, chGet]; cases chGet c2 l <;> rfl
 | cons p r ih =>
  obtain ⟨k, o⟩ := p
  simp only [List.cons_append, chGet, ih]
  cases chGet c2 l <;> rfl
theorem updF_append (h : Nat → Option Ob) (c1 c2 : Ch) : updF h (c1 ++ c2) = updF (updF h c1) c2 := by
 funext l
 simp only [updF, chGet_append]
 cases chGet c2 l <;> rfl
theorem updF_nil (h : Nat → Option Ob) : updF h [] = h := rfl

section
variable {P : Program} {T : List (Nat × TI)} {F : Nat → Prop} {φ : Nat → Option Value} {X : Nat → Prop} {w : World} {h : Nat → Option Ob} {id : Nat} {N : Nat → Prop} {a : Act} {o : Oper} {k : S → Ch → Prop} {K : Act → World → Prop} {Q : Exit → Act → World → Prop} {PC : Nat → List S → List Ob → (S → List Ob → Prop) → Prop} {mt : List Nat}

theorem Nx.back1 {F1 : Nat → Prop} {φ1 : Nat → Option Value} {w1 : World} {c1 : Ch} (hr : Rp F φ X w h) (h1 : Nx F φ w h N c1 F1 φ1 w1) {l : Nat} {ob : Ob} {b : Nat} (hl : updF h c1 l = some ob) (hv : live ob = true) (hb' : Blk φ1 l ob b) :
  w.heap.size ≤ b ∨ ∃ l2 o2, h l2 = some o2 ∧ live o2 = true ∧ Blk φ l2 o2 b ∧ ((chGet c1 l2).isSome ∨ l2 = l) := by
 unfold updF at hl
 cases hc : chGet c1 l with
 | some o' =>
  simp only [hc] at hl; cases hl
  rcases h1.own l _ b hc hv hb' with h2 | ⟨l2, o2, k1, k2, k3, k4⟩
  ·exact .inl h2
  ·exact .inr ⟨l2, o2, k1, k2, k3, .inl k4⟩
 | none =>
  simp only [hc] at hl
  exact .inr ⟨l, ob, hl, hv, Blk_down h1.hφ ((hr.objs l ob hl).has hv) hb', .inr rfl⟩

theorem Nx.trans {F1 F2 : Nat → Prop} {φ1 φ2 : Nat → Option Value} {w1 w2 : World} {c1 c2 : Ch} (hr : Rp F φ X w h) (hX : ∀ b, w.heap.size ≤ b → X b) (h1 : Nx F φ w h N c1 F1 φ1 w1) (h2 : Nx F1 φ1 w1 (updF h c1) N c2 F2 φ2 w2) : Nx F φ w h N (c1 ++ c2) F2 φ2 w2 := by
 have hr1 := hr.next h1 hX
 have hr2 := hr1.next h2 (fun b hb' => hX b (Nat.le_trans h1.size hb'))
 rw [← updF_append] at hr2
 have hs : ∀ l, (chGet c1 l).isSome ∨ (chGet c2 l).isSome → (chGet (c1 ++ c2) l).isSome := by
  intro l hl
  rw [chGet_append]
  cases hc : chGet c2 l with
  | some => rfl
  | none => rcases hl with hl | hl
            ·exact hl
            ·simp [hc] at hl
 have mid : ∀ l ob b, updF h c1 l = some ob → live ob = true → Blk φ1 l ob b → (chGet c2 l).isSome → w.heap.size ≤ b ∨ ∃ l2 o2, h l2 = some o2 ∧ live o2 = true ∧ Blk φ l2 o2 b ∧ (chGet (c1 ++ c2) l2).isSome := by
  intro l ob b k1 k2 k3 k4
  rcases h1.back1 hr k1 k2 k3 with h3 | ⟨l2, o2, j1, j2, j3, j4⟩
  ·exact .inl h3
  ·refine .inr ⟨l2, o2, j1, j2, j3, hs _ ?_⟩
   rcases j4 with j4 | rfl
   ·exact .inl j4
   ·exact .inr k4
 have hget : ∀ l ob, chGet (c1 ++ c2) l = some ob → updF h (c1 ++ c2) l = some ob := by
  intro l ob hl; unfold updF; rw [hl]
 refine ⟨fun b hb' => h2.hF b (h1.hF b hb'), fun l c hc => h2.hφ l c (h1.hφ l c hc), ?_, h2.os.trans h1.os, h2.tape.trans h1.tape, h2.output.trans h1.output, fun d => Nat.le_trans (h1.drawn d) (h2.drawn d), Nat.le_trans h1.size h2.size, ?_, ?_, ?_, ?_, ?_⟩
 ·intro l c hc
  rcases h2.nφ l c hc with h3 | h3
  ·exact h1.nφ l c h3
  ·exact .inr h3
 ·intro b hb' hne
  by_cases e : w1.heap[b]? = w.heap[b]?
  ·obtain ⟨l, ob, k1, k2, k3, k4⟩ := h2.keep b (Nat.lt_of_lt_of_le hb' h1.size) (by rw [e]; exact hne)
   rcases mid l ob b k1 k2 k3 k4 with h3 | h3
   ·omega
   ·exact h3
  ·obtain ⟨l, ob, k1, k2, k3, k4⟩ := h1.keep b hb' e
   exact ⟨l, ob, k1, k2, k3, hs _ (.inl k4)⟩
 ·intro b hb'
  rcases h2.nF b hb' with h3 | ⟨h3, h4 | ⟨l, ob, k1, k2, k3, k4⟩⟩
  ·rcases h1.nF b h3 with h4 | ⟨h4, h5 | ⟨l, ob, k1, k2, k3, k4⟩⟩
   ·exact .inl h4
   ·exact .inr ⟨Nat.lt_of_lt_of_le h4 h2.size, .inl h5⟩
   ·exact .inr ⟨Nat.lt_of_lt_of_le h4 h2.size, .inr ⟨l, ob, k1, k2, k3, hs _ (.inl k4)⟩⟩
  ·exact .inr ⟨h3, .inl (Nat.le_trans h1.size h4)⟩
  ·exact .inr ⟨h3, mid l ob b k1 k2 k3 k4⟩
 ·intro l ob hl; exact hr2.objs l ob (hget l ob hl)
 ·intro l ob b hl hv hb'
  rw [chGet_append] at hl
  cases hc : chGet c2 l with
  | some o' =>
   simp only [hc] at hl; cases hl
   rcases h2.own l _ b hc hv hb' with h3 | ⟨l2, o2, k1, k2, k3, k4⟩
   ·exact .inl (Nat.le_trans h1.size h3)
   ·exact mid l2 o2 b k1 k2 k3 k4
  | none =>
   simp only [hc] at hl
   rcases h1.own l ob b hl hv (Blk_down h2.hφ ((h1.objs l ob hl).has hv) hb') with h3 | ⟨l2, o2, k1, k2, k3, k4⟩
   ·exact .inl h3
   ·exact .inr ⟨l2, o2, k1, k2, k3, hs _ (.inl k4)⟩
 ·intro l l' ob ob' b hl hl' hv hv' k1 k2
  exact hr2.inj l l' ob ob' b (hget l ob hl) (hget l' ob' hl') hv hv' k1 k2

theorem RO.row_tree {l e sz : Nat} {rows : List (List V)} {c : Value} (hro : RO F φ w l (.row e sz rows)) (hl : φ l = some c) : RT (fun b => F b ∨ hb c = some b) w c (.lst sz rows) := by
 rcases hro with ⟨c', xs, h1, h2, ⟨h3, h3r⟩, h4, h5⟩ | ⟨rfl, p, h1⟩
 rotate_left
 ·rw [hl] at h1; cases h1; exact .lst0 _ 0 sz (Nat.zero_le _)
 rw [hl] at h1; cases h1
 rcases h3.2 with ⟨hv, hn⟩ | ⟨g, cap, cur, hv, _, hh, hcap, hm, hsz, htake⟩
 ·subst hv
  have : rows = [] := by simpa using hn
  subst this
  exact .lst0 none 0 sz (Nat.zero_le _)
 ·subst hv
  have hget : ∀ (i : Nat) (r : List V) (j : Nat) (v : V), rows[i]? = some r → r[j]? = some v → ∃ u, w.cell? ⟨g, 0 + i * sz + j, none⟩ = some u ∧ RT F w u v := by
   intro i r j v hi hj
   obtain ⟨u, hu, hv⟩ := h4.get (flat_get h5 hi hj)
   refine ⟨u, ?_, hv⟩
   rw [Nat.zero_add, (own_cell h3 (List.getElem?_eq_some_iff.1 hu).1).1]
   exact hu
  refine .lst g 0 _ cap sz rows (fun i j => (w.cell? ⟨g, 0 + i * sz + j, none⟩).getD undef) (.inr (by cases cap with | zero => exact h3r.elim | succ => rfl)) rfl hcap hm h5 ?_ ?_
  ·intro i j hi hj
   have hi' : i < rows.length := by simpa using hi
   have hlen : rows[i].length = sz := h5 _ (List.getElem_mem hi')
   obtain ⟨u, hu, _⟩ := hget i rows[i] j (rows[i][j]'(by omega)) (List.getElem?_eq_getElem hi') (List.getElem?_eq_getElem (by omega))
   rw [hu]; rfl
  ·intro i r j v hi hj
   obtain ⟨u, hu, hv⟩ := hget i r j v hi hj
   simp only [hu, Option.getD_some]
   exact hv.up (fun b hb' => .inl hb') (fun _ _ => rfl)

theorem Nx.freeze {l e sz : Nat} {rows : List (List V)} {c : Value} (hr : Rp F φ X w h) (hl : h l = some (.row e sz rows)) (hc : φ l = some c) :
  Nx F φ w h N [(l, .frow sz rows)] (fun b => F b ∨ hb c = some b) φ w := by
 have hro := hr.objs l _ hl
 have hq : ∀ l2 x, chGet [(l, Ob.frow sz rows)] l2 = some x → l2 = l ∧ x = .frow sz rows := by
  intro l2 x hx
  simp only [chGet] at hx
  split at hx
  ·rename_i e; subst e; cases hx; exact ⟨rfl, rfl⟩
  ·cases hx
 have hbk : ∀ b, hb c = some b → Blk φ l (.row e sz rows) b := by intro b hb'; exact .inl (by simp [blkOf, hc, hb'])
 refine ⟨fun _ h => .inl h, fun _ _ h => h, fun _ _ h => .inl h, rfl, rfl, rfl, fun _ => Nat.le_refl _, Nat.le_refl _, fun b _ hne => (hne rfl).elim, ?_, ?_, ?_, ?_⟩
 ·intro b hb'
  rcases hb' with hb' | hb'
  ·exact .inl hb'
  ·exact .inr ⟨(hro.lt rfl (hbk b hb')).1, .inr ⟨l, _, hl, rfl, hbk b hb', by simp [chGet]⟩⟩
 ·intro l2 x hx
  obtain ⟨rfl, rfl⟩ := hq l2 x hx
  exact ⟨c, hc, hro.row_tree hc⟩
 ·intro l2 x b hx hv
  obtain ⟨rfl, rfl⟩ := hq l2 x hx
  simp [live] at hv
 ·intro l2 l3 x x' b hx hx' hv
  obtain ⟨rfl, rfl⟩ := hq l2 x hx
  simp [live] at hv

theorem fz_sound : ∀ (cs : List Value) (vs : List V) (F : Nat → Prop) (h : Nat → Option Ob) (k : List V → Ch → Prop), Rp F φ X w h → (∀ b, w.heap.size ≤ b → X b) → P2 (RV F φ w) cs vs → fz h vs k →
  ∃ F' ch vs', Nx F φ w h N ch F' φ w ∧ P2 (RT F' w) cs vs' ∧ k vs' ch ∧ ∀ l, (chGet ch l).isSome → (h l).isSome
 | cs, [], F, h, k, hr, hX, hp, hk => by
  have := hp.nil_inv; subst this
  exact ⟨F, [], [], Nx.refl, P2.nil, hk, fun l hl => by simp [chGet] at hl⟩
 | cs, v :: r, F, h, k, hr, hX, hp, hk => by
  obtain ⟨c, cs', rfl, hv, hp'⟩ := hp.cons_inv
  have simple : ∀ v', RT F w c v' → (fz h r fun vs ch => k (v' :: vs) ch) → ∃ F' ch vs', Nx F φ w h N ch F' φ w ∧ P2 (RT F' w) (c :: cs') vs' ∧ k vs' ch ∧ ∀ l, (chGet ch l).isSome → (h l).isSome := by
   intro v' hv' hk'
   obtain ⟨F', ch, vs', h1, h2, h3, h4⟩ := fz_sound cs' r F h _ hr hX hp' hk'
   exact ⟨F', ch, v' :: vs', h1, P2.cons (hv'.up h1.hF (fun _ _ => rfl)) h2, h3, h4⟩
  have tr : ∀ v', (∀ l, v' ≠ .row l) → (∀ l o, v' ≠ .ptr l o) → (∀ l, v' ≠ .mp l) → (∀ l o s t, v' ≠ .eptr l o s t) → (∀ f s, v' ≠ .fn f s) → (∀ l o s t, v' ≠ .vw l o s t) → (∀ l i c, v' ≠ .inn l i c) → (∀ l i s j o c, v' ≠ .iptr l i s j o c) → RV F φ w c v' → RT F w c v' := by
   intro v' h1 h2 h3 h4 h5 h6 h7 h8 hv'
   cases hv' with
   | tree hv' => exact hv'
   | row l => exact (h1 l rfl).elim
   | mp l => exact (h3 l rfl).elim
   | ptr l o => exact (h2 l o rfl).elim
   | eptr l s i t => exact (h4 _ _ _ _ rfl).elim
   | fn f s => exact (h5 _ _ rfl).elim
   | vw => exact (h6 _ _ _ _ rfl).elim
   | inn => exact (h7 _ _ _ rfl).elim
   | iptr => exact (h8 _ _ _ _ _ _ rfl).elim
  simp only [fz] at hk
  cases v with
  | row l =>
   simp only at hk
   have hl : φ l = some c := by
    cases hv with
    | tree hv => cases hv
    | row l c h => exact h
   cases hob : h l with
   | none => simp [hob] at hk
   | some ob =>
    simp only [hob] at hk
    cases ob with
    | row e sz rows =>
     simp only at hk
     have hn := Nx.freeze (N := N) hr hob hl
     have hr1 := hr.next hn hX
     obtain ⟨F', ch, vs', h1, h2, h3, h4⟩ := fz_sound cs' r _ _ _ hr1 hX (hp'.ups hn.hF (fun _ _ h => h) (fun _ _ => rfl)) hk
     exact ⟨F', _, .lst sz rows :: vs', Nx.trans hr hX hn h1, P2.cons (((hr.objs l _ hob).row_tree hl).up h1.hF (fun _ _ => rfl)) h2, h3, fun l' hl' => by
      by_cases e : l' = l
      ·subst e; rw [hob]; rfl
      ·rw [chGet_append] at hl'
       cases hc : chGet ch l' with
       | some o =>
        have := h4 l' (by rw [hc]; rfl)
        unfold updF at this
        simp only [chGet, if_neg (Ne.symm e)] at this
        exact this
       | none => simp [hc, chGet, Ne.symm e] at hl'⟩
    | frow sz rows =>
     simp only at hk
     obtain ⟨c', h1, h2⟩ := hr.objs l _ hob
     rw [hl] at h1; cases h1
     exact simple _ h2 hk
    | _ => exact hk.elim
  | ptr => exact hk.elim
  | eptr => exact hk.elim
  | vw => exact hk.elim
  | inn => exact hk.elim
  | iptr => exact hk.elim
  | mp => exact hk.elim
  | fn => exact hk.elim
  | bot => exact hk.elim
  | tt => cases hv with | tree hv => cases hv; exact simple _ (.bool true) hk
  | ff => cases hv with | tree hv => cases hv; exact simple _ (.bool false) hk
  | _ => exact simple _ (tr _ (by simp) (by simp) (by simp) (by simp) (by simp) (by simp) (by simp) (by simp) hv) hk
end
end Abs
end Go.Proofs.YtkefgcleaalnnaaGreat
