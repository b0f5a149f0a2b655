/- Whole functions. -/
import Derived.Test.YtkefgcleaalnnaaGreatAbsO
namespace Go.Proofs.YtkefgcleaalnnaaGreat
set_option linter.unusedVariables false
set_option linter.unusedSimpArgs false
namespace Abs

section
variable {P : Program} {T : List (Nat × TI)} {mt : List Nat} {F : Nat → Prop} {φ : Nat → Option Value} {w : World} {h : Nat → Option Ob} {E : Env} {a : Act} {σ : St}

def resOne (tmps : Array Value) : ResultVar → Sem Value
 | .tmp t => Pure.pure (tmps.getD t undef)
 | .cell a t => do loadVar t (← asAddr (tmps.getD a undef))

theorem resV_sound (hT : TabOK P T) (hg : Good E F φ w σ a) : ∀ (rs : List ResultVar) {K : List S → Prop}, resV T σ rs K → ∃ cs vs, (rs.mapM (resOne a.tmps)).run P w = .ok cs w ∧ P2 (RS F φ w) cs vs ∧ K vs
 | [], K, hk => ⟨[], [], by simp, P2.nil, hk⟩
 | .tmp t :: r, K, hk => by
  simp only [resV] at hk
  obtain ⟨cs, vs, h1, h2, h3⟩ := resV_sound hT hg r hk
  refine ⟨a.tmps.getD t undef :: cs, slot σ t :: vs, ?_, P2.cons (hg.gf.slots t) h2, h3⟩
  simp [List.mapM_cons, resOne, h1]
 | .cell x t :: r, K, hk => by
  simp only [resV] at hk
  obtain ⟨ti, hti, hk⟩ := withT_inv hT hk
  have key : ∃ c s, (do loadVar t (← asAddr (a.tmps.getD x undef)) : Sem Value).run P w = .ok c w ∧ RS F φ w c s ∧ resV T σ r fun vs => K (s :: vs) := by
   have hx := hg.gf.slots x
   unfold aLoad at hk
   generalize a.tmps.getD x undef = cv at hx ⊢
   generalize slot σ x = sx at hx hk
   have fin : ∀ b off (vs : List V), cv = .pointer (some ⟨b, off, none⟩) → (∀ (j : Nat) (v : V), vs[j]? = some v → ∃ c, w.cell? ⟨b, off + j, none⟩ = some c ∧ RV F φ w c v) → (mkS ti vs fun v => resV T σ r fun vs => K (v :: vs)) → ∃ c s, (do loadVar t (← asAddr cv) : Sem Value).run P w = .ok c w ∧ RS F φ w c s ∧ resV T σ r fun vs => K (s :: vs) := by
    intro b off vs he hcells hm
    obtain ⟨c, s', hrun, hs, hks⟩ := load_at hti hcells hm
    refine ⟨c, s', ?_, hs, hks⟩
    subst he
    simpa [Instr.loadAt, Instr.sureAddr, asAddr] using hrun
   split at hk
   ·rename_i l off
    cases hx with | c hv => cases hv with
     | tree hv => cases hv
     | ptr l off b hl =>
      split at hk
      ·rename_i cells _ hob
       obtain ⟨b', cs, E', h1, h2, h3, h4, _⟩ := hg.gm.rp.objs l _ hob
       rw [hl] at h1; cases h1
       refine fin b off _ rfl (fun j v hj => ?_) hk
       rw [dropN_eq, List.getElem?_drop] at hj
       obtain ⟨c, hc1, hc2⟩ := h4.get hj
       refine ⟨c, ?_, hc2⟩
       simpa [World.cell?, h3] using hc1
      ·exact hk.elim
   ·rename_i cells
    cases hx with | c hv => cases hv with
     | tree hv => cases hv with
      | cptr b off cells f hF hx hr' => exact fin b off cells rfl (fun j v hj => ⟨f j, hx j (List.getElem?_eq_some_iff.1 hj).1, .tree (hr' j v hj)⟩) hk
   ·rename_i l sz i off
    cases hx with | c hv => cases hv with
     | tree hv => cases hv
     | eptr l sz i off b n cap hl =>
      split at hk
      ·rename_i e sz' rows hob
       cases hq : Nat.beq sz' sz with
       | false => simp [hq] at hk
       | true =>
        simp only [hq, cond_true] at hk
        have := beq_eqn hq
        subst this
        obtain ⟨cs, hcs, hk⟩ := hk
        refine fin b _ _ rfl (fun j v hj => ?_) hk
        rw [dropN_eq, List.getElem?_drop] at hj
        obtain ⟨c, hc1, hc2⟩ := (hg.gm.rp.objs l _ hob).row_cell hl hcs hj
        exact ⟨c, by rw [Nat.add_assoc]; exact hc1, .tree hc2⟩
      ·rename_i e e2 sz2 ins hob
       cases hq : Nat.beq sz 1 && (Nat.beq off 0 && !isAggK ti.kind) with
       | false => simp [hq] at hk
       | true =>
        simp only [hq, cond_true] at hk
        rw [Bool.and_eq_true, Bool.and_eq_true] at hq
        have := beq_eqn hq.1
        subst this
        have := beq_eqn hq.2.1
        subst this
        obtain ⟨c, rows, hi, hk⟩ := hk
        obtain ⟨c0, g1, g2, ⟨g3, _⟩, g4, _⟩ := hg.gm.rp.objs l _ hob
        rw [hl] at g1; cases g1
        have hil := (List.getElem?_eq_some_iff.1 hi).1
        have hn : n = ins.length := by obtain ⟨_, _, hv⟩ := own_shape g3; cases hv; rfl
        subst hn
        obtain ⟨ad, cap', hsh⟩ := (g4 _ (List.mem_of_getElem? hi)).shape
        refine fin b _ [.inn l i c] rfl (fun j v hj => ?_) ?_
        ·cases j with
         | succ j => simp at hj
         | zero =>
          simp at hj; subst hj
          refine ⟨c, ?_, .inn l i c ⟨_, _, _, hsh⟩⟩
          rw [show i * 1 + 0 + 0 = i by omega, (own_cell g3 (by simpa using hil)).1]
          simp [hi]
        ·unfold mkS
         rw [show isAggK ti.kind = false by simpa using hq.2.2]
         exact hk
      ·exact hk.elim
   ·rename_i l i sz j off c
    cases hx with | c hv => cases hv with
     | tree hv => cases hv
     | iptr l i sz j off b n cap =>
      split at hk
      ·rename_i e e2 sz' ins hob
       cases hq : Nat.beq sz' sz with
       | false => simp [hq] at hk
       | true =>
        simp only [hq, cond_true] at hk
        have := beq_eqn hq
        subst this
        obtain ⟨rows, hi, cs, hcs, hk⟩ := hk
        obtain ⟨c0, g1, g2, g3, g4, _⟩ := hg.gm.rp.objs l _ hob
        have hra := g4 _ (List.mem_of_getElem? hi)
        refine fin b _ _ rfl (fun p v hp => ?_) hk
        rw [dropN_eq, List.getElem?_drop] at hp
        obtain ⟨c, hc1, hc2⟩ := hra.cell hcs hp
        exact ⟨c, by rw [Nat.add_assoc]; exact hc1, .tree hc2⟩
      ·exact hk.elim
   ·exact hk.elim
  obtain ⟨c, s, hrun, hs, hk⟩ := key
  obtain ⟨cs, vs, h1, h2, h3⟩ := resV_sound hT hg r hk
  refine ⟨c :: cs, s :: vs, ?_, P2.cons hs h2, h3⟩
  have hrun' : (resOne a.tmps (.cell x t)).run P w = .ok c w := hrun
  simp [List.mapM_cons, hrun', h1]

theorem frzR_sound {X : Nat → Prop} {N : Nat → Prop} : ∀ (ss : List S) {cs : List Value} {F : Nat → Prop} {h : Nat → Option Ob} {k : List S → Ch → Prop}, Rp F φ X w h → (∀ b, w.heap.size ≤ b → X b) → P2 (RS F φ w) cs ss → frzR h ss k →
  ∃ F' ch ss', Nx F φ w h N ch F' φ w ∧ P2 (RS F' φ w) cs ss' ∧ k ss' ch
 | [], cs, F, h, k, hr, hX, hp, hk => by
  have := hp.nil_inv; subst this
  exact ⟨F, [], [], Nx.refl, P2.nil, hk⟩
 | s :: r, cs, F, h, k, hr, hX, hp, hk => by
  obtain ⟨c, cs', rfl, hs, hp'⟩ := hp.cons_inv
  have simple : ∀ s', RS F φ w c s' → (frzR h r fun ss ch2 => k (s' :: ss) ch2) → ∃ F' ch ss', Nx F φ w h N ch F' φ w ∧ P2 (RS F' φ w) (c :: cs') ss' ∧ k ss' ch := by
   intro s' hs' hk'
   obtain ⟨F', ch, ss', h1, h2, h3⟩ := frzR_sound r hr hX hp' hk'
   exact ⟨F', ch, s' :: ss', h1, P2.cons (hs'.up h1.hF h1.hφ (fun _ _ => rfl)) h2, h3⟩
  simp only [frzR] at hk
  cases s with
  | agg vs =>
   simp only at hk
   cases hs with | agg cs2 vs hv =>
   obtain ⟨F1, ch1, vs', h1, h2, h3⟩ := frz_sound (N := N) vs hr hX hv hk
   have hr1 := hr.next h1 hX
   obtain ⟨F', ch, ss', g1, g2, g3⟩ := frzR_sound r hr1 hX (hp'.mono fun _ _ hh => hh.up h1.hF h1.hφ (fun _ _ => rfl)) h3
   exact ⟨F', _, .agg vs' :: ss', Nx.trans hr hX h1 g1, P2.cons (.agg _ _ (h2.ups g1.hF g1.hφ (fun _ _ => rfl))) g2, g3⟩
  | c v => exact simple _ hs hk
  | tup xs => exact simple _ hs hk
  | bot => exact simple _ hs hk

theorem slot_args {hp : List (Nat × Ob)} {nx : Nat} : ∀ (args : List S) (i t : Nat), slot ⟨zipF (rangeL i args.length) args, hp, nx⟩ t = if i ≤ t then (match args[t - i]? with | some s => s | none => .bot) else .bot
 | [], i, t => by simp [zipF, rangeL, slot, getA]
 | s :: r, i, t => by
  have ih := slot_args (hp := hp) (nx := nx) r (i + 1) t
  simp only [slot, zipF, rangeL, List.length_cons, getA, beq_dec] at ih ⊢
  by_cases h1 : i = t
  ·subst h1; simp
  ·by_cases h2 : i ≤ t
   ·rw [if_pos h2, show t - i = (t - (i + 1)) + 1 by omega, List.getElem?_cons_succ]
    rw [if_pos (by omega)] at ih
    simpa [h1] using ih
   ·rw [if_neg h2]
    rw [if_neg (by omega)] at ih
    simpa [h1] using ih

theorem results_run {fn : Func} {rs : List ResultVar} (hres : fn.results = rs.toArray) {cs : List Value} (h : (rs.mapM (resOne a.tmps)).run P w = .ok cs w) :
  (results fn a.tmps).run P w = .ok (if h : cs.length = 1 then cs[0]'(by omega) else .tuple cs.toArray) w := by
 have h2 : (Array.mapM (resOne a.tmps) fn.results).run P w = .ok cs.toArray w := by
  rw [hres]
  simp [Array.mapM_eq_mapM_toList, h]
 unfold results
 rw [Sem.run_bind]
 have h3 : ∀ f : ResultVar → Sem Value, f = resOne a.tmps → (Array.mapM f fn.results).run P w = .ok cs.toArray w := by
  rintro f rfl; exact h2
 rw [h3 _ (by funext r; cases r <;> rfl)]
 simp only [Result.andThen_ok, Sem.run_pure]
 simp

theorem ValR.sound {os : List Ob} {F2 : Nat → Prop} {φ3 : Nat → Option Value} {w' : World} (ho : ∀ l o, chGet (chOf 0 os) l = some o → RO F2 φ3 w' l o) {a b : S} (h : ValR os a b) : ∀ {c : Value}, RS F2 φ3 w' c a → RS F2 φ3 w' c b := by
 induction h with
 | refl r => exact fun h => h
 | dw u v hd =>
  intro c h
  cases h with | c h =>
  cases hd with
  | refl => exact .c h
  | nils => cases h with | tree h => exact .c (.tree (h.dw (.nils _)))
  | tt => cases h with | tree h => exact .c (.tree (h.dw .tt))
  | ff => cases h with | tree h => exact .c (.tree (h.dw .ff))
  | lst sz rows rows' hl hr hd => cases h with | tree h => exact .c (.tree (h.dw (.lst sz rows rows' hl hr hd)))
 | deep l sz rows v hl hd =>
  intro c h
  cases h with | c h =>
  cases h with
  | tree h => cases h
  | row _ _ h =>
   obtain ⟨c', h1, h2⟩ := ho l (.frow sz rows) (by rw [chGet_chOf]; simpa using hl)
   rw [h] at h1; cases h1
   exact .c (.tree (RT.dw hd h2))
 | nil sz =>
  intro c h
  cases h with | c h => cases h with | tree h => cases h; exact .c (.tree (.lst0 none 0 sz (Nat.zero_le _)))
 | fro l sz rows hl =>
  intro c h
  cases h with | c h =>
  cases h with
  | tree h => cases h
  | row _ _ h =>
   obtain ⟨c', h1, h2⟩ := ho l (.frow sz rows) (by rw [chGet_chOf]; simpa using hl)
   rw [h] at h1; cases h1
   exact .c (.tree h2)
 | tup q q' hl _ ih =>
  intro c h
  cases h with
  | tup cs xs h1 h2 =>
   refine .tup cs q' (h1.trans hl) ?_
   intro j c x hc hx
   have hj : j < q.length := by rw [hl]; exact (List.getElem?_eq_some_iff.1 hx).1
   exact ih j q[j] x (List.getElem?_eq_getElem hj) hx (h2 j c q[j] hc (List.getElem?_eq_getElem hj))
theorem Nx.less {objs os' os t : List Ob} {F2 : Nat → Prop} {φ3 : Nat → Option Value} {w' : World} (hn : Nx F φ w (nth objs) (fun l => objs.length ≤ l) (chOf 0 os') F2 φ3 w') (he : os' = os ++ t) (hm : objs.length ≤ os.length) :
  Nx F φ w (nth objs) (fun l => objs.length ≤ l) (chOf 0 os) F2 φ3 w' := by
 subst he
 have hq : ∀ l ob, chGet (chOf 0 os) l = some ob → chGet (chOf 0 (os ++ t)) l = some ob := by
  intro l ob hl
  rw [chGet_chOf] at hl ⊢
  simp only [Nat.zero_le, if_true, Nat.sub_zero] at hl ⊢
  rw [List.getElem?_append_left (List.getElem?_eq_some_iff.1 hl).1]; exact hl
 have hs : ∀ l o, nth objs l = some o → (chGet (chOf 0 os) l).isSome := by
  intro l o hl
  rw [nth_eq] at hl
  have : l < os.length := Nat.lt_of_lt_of_le (List.getElem?_eq_some_iff.1 hl).1 hm
  rw [chGet_chOf]; simp [this]
 refine ⟨hn.hF, hn.hφ, hn.nφ, hn.os, hn.tape, hn.output, hn.drawn, hn.size, ?_, ?_, fun l o h => hn.objs l o (hq l o h), ?_, fun l l' o o' b h1 h2 => hn.inj l l' o o' b (hq l o h1) (hq l' o' h2)⟩
 ·intro b h1 h2
  obtain ⟨l, o, k1, k2, k3, _⟩ := hn.keep b h1 h2
  exact ⟨l, o, k1, k2, k3, hs l o k1⟩
 ·intro b hb1
  rcases hn.nF b hb1 with h6 | ⟨h5, h6 | ⟨l, o, k1, k2, k3, _⟩⟩
  ·exact .inl h6
  ·exact .inr ⟨h5, .inl h6⟩
  ·exact .inr ⟨h5, .inr ⟨l, o, k1, k2, k3, hs l o k1⟩⟩
 ·intro l o b h1 h2 h3
  rcases hn.own l o b (hq l o h1) h2 h3 with h6 | ⟨l2, o2, k1, k2, k3, _⟩
  ·exact .inl h6
  ·exact .inr ⟨l2, o2, k1, k2, k3, hs l2 o2 k1⟩
theorem Nx.addrow {objs os : List Ob} {F2 : Nat → Prop} {φ3 : Nat → Option Value} {w' : World} (hn : Nx F φ w (nth objs) (fun l => objs.length ≤ l) (chOf 0 os) F2 φ3 w') (hnone : φ3 os.length = none) (hm : objs.length ≤ os.length) (e sz : Nat) :
  Nx F φ w (nth objs) (fun l => objs.length ≤ l) (chOf 0 (os ++ [.row e sz []])) F2 (addφ φ3 os.length (.slice none 0 0)) w' := by
 have hext := addφ_ext hnone (.slice none 0 0)
 have hq : ∀ l ob, chGet (chOf 0 (os ++ [.row e sz []])) l = some ob → (l = os.length ∧ ob = .row e sz []) ∨ (l ≠ os.length ∧ chGet (chOf 0 os) l = some ob) := by
  intro l ob hl
  rw [chGet_chOf] at hl ⊢
  simp only [Nat.zero_le, if_true, Nat.sub_zero] at hl ⊢
  rw [List.getElem?_append] at hl
  split at hl
  ·exact .inr ⟨by omega, hl⟩
  ·rename_i hge
   by_cases e1 : l = os.length
   ·subst e1; simp at hl; exact .inl ⟨rfl, hl.symm⟩
   ·rw [List.getElem?_eq_none (by simp; omega)] at hl; cases hl
 have hsome : ∀ l, (chGet (chOf 0 os) l).isSome → (chGet (chOf 0 (os ++ [.row e sz []])) l).isSome := by
  intro l hl
  rw [chGet_chOf] at hl ⊢
  simp only [Nat.zero_le, if_true, Nat.sub_zero] at hl ⊢
  cases hx : os[l]? with
  | none => simp [hx] at hl
  | some x =>
   have := (List.getElem?_eq_some_iff.1 hx).1
   rw [List.getElem?_append_left this, hx]; rfl
 refine ⟨hn.hF, fun l c hc => hext l c (hn.hφ l c hc), ?_, hn.os, hn.tape, hn.output, hn.drawn, hn.size, ?_, ?_, ?_, ?_, ?_⟩
 ·intro l c hc
  unfold addφ at hc
  split at hc
  ·rename_i e1; subst e1; cases hc; exact .inr ⟨hm, rfl⟩
  ·exact hn.nφ l c hc
 ·intro b hb1 hne
  obtain ⟨l, o, k1, k2, k3, k4⟩ := hn.keep b hb1 hne
  exact ⟨l, o, k1, k2, k3, hsome l k4⟩
 ·intro b hb1
  rcases hn.nF b hb1 with h6 | ⟨h6, h7 | ⟨l, o, k1, k2, k3, k4⟩⟩
  ·exact .inl h6
  ·exact .inr ⟨h6, .inl h7⟩
  ·exact .inr ⟨h6, .inr ⟨l, o, k1, k2, k3, hsome l k4⟩⟩
 ·intro l ob hl
  rcases hq l ob hl with ⟨rfl, rfl⟩ | ⟨_, hl⟩
  ·exact RO.mkrow (c := .slice none 0 0) (xs := []) (by simp [addφ]) (fun b hb' => by simp [hb] at hb') (World.ownsRow_nil _ _ _ _) P2.nil (by simp)
  ·have hro := hn.objs l ob hl
   exact hro.up (fun _ h => h) hext (fun _ _ => rfl) (fun hv b hb' => ⟨rfl, (hro.lt hv hb').2⟩)
 ·intro l ob b hl hv hb1
  rcases hq l ob hl with ⟨rfl, rfl⟩ | ⟨hne, hl⟩
  ·replace hb1 := hb1.base; simp [blkOf, addφ, hb] at hb1
  ·have hro := hn.objs l ob hl
   rcases hn.own l ob b hl hv (Blk_down hext (hro.has hv) hb1) with h6 | ⟨l2, o2, k1, k2, k3, k4⟩
   ·exact .inl h6
   ·exact .inr ⟨l2, o2, k1, k2, k3, hsome l2 k4⟩
 ·intro l l' ob ob' b hl hl' hv hv' hb1 hb2
  rcases hq l ob hl with ⟨rfl, rfl⟩ | ⟨hne, hl⟩
  ·replace hb1 := hb1.base; simp [blkOf, addφ, hb] at hb1
  ·rcases hq l' ob' hl' with ⟨rfl, rfl⟩ | ⟨hne', hl'⟩
   ·replace hb2 := hb2.base; simp [blkOf, addφ, hb] at hb2
   ·exact hn.inj l l' ob ob' b hl hl' hv hv' (Blk_down hext ((hn.objs l ob hl).has hv) hb1) (Blk_down hext ((hn.objs l' ob' hl').has hv') hb2)

theorem fn_soundK {g : Nat} {fn : Func} {code : Code} {rs : List ResultVar} {args : List S} {objs : List Ob} (hT : TabOK P T) (hmix : P.follows .mixedOrders = true) (hf : P.funcs[g]? = some fn) (hb' : fn.body = some code)
  (hn : (fn.name == "runtime.NumGoroutine") = false) (hok : codeOK fn.ntmps code = true) (hres : fn.results = rs.toArray) (hna : args.length ≤ fn.ntmps)
  {K0 Q : S → List Ob → Prop} (hK : ∀ r' os', K0 r' os' → ∃ r os, Q r os ∧ FinR objs.length r os r' os') (hk : abody T mt (PCx P) code rs args objs K0) : PCx P g args objs Q := by
 unfold abody at hk
 rw [forceN_eq, lenA_eq, Nat.zero_add] at hk
 refine ⟨⟨fn, hf, hn, by simp [hb']⟩, ?_⟩
 intro F φ w cargs hargs hobj hφ
 let E : Env := ⟨F, φ, fun b => w.heap.size ≤ b ∨ ∃ i ob, nth objs i = some ob ∧ live ob = true ∧ Blk φ i ob b, w, objs.length, fn.ntmps, fun b hb' => .inl hb'⟩
 have hlen : cargs.size = args.length := by have := hargs.1; simpa using this
 have hgood : Good E F φ w ⟨zipF (rangeL 0 args.length) args, zipO 0 objs, objs.length⟩ { tmps := cargs ++ Array.replicate (fn.ntmps - cargs.size) undef, defers := [] } := by
  have hzo : ∀ l ob, getA (zipO 0 objs) l = some ob → nth objs l = some ob := by
   intro l ob hl
   rw [getA_zipO] at hl
   rw [nth_eq]; simpa using hl
  refine ⟨⟨⟨fun l ob hl => hobj.objs l ob (hzo l ob hl), fun l l' ob ob' b h1 h2 => hobj.inj l l' ob ob' b (hzo l ob h1) (hzo l' ob' h2), fun l ob b h1 h2 h3 => .inr ⟨l, ob, hzo l ob h1, h2, h3⟩, hobj.bd, hobj.one, hobj.tb⟩, fun _ _ => rfl, fun _ h => h, fun _ h => .inl h, rfl, rfl, rfl, fun _ => Nat.le_refl _, Nat.le_refl _, fun _ _ _ => rfl⟩, ⟨?_, rfl, ?_⟩, ?_, Nat.le_refl _⟩
  ·intro t
   rw [slot_args]
   simp only [Nat.zero_le, if_true, Nat.sub_zero]
   cases ha : args[t]? with
   | none => exact .bot _
   | some s =>
    obtain ⟨c, hc1, hc2⟩ := hargs.get ha
    have hc1' : cargs[t]? = some c := by rw [← Array.getElem?_toList]; exact hc1
    have hlt : t < cargs.size := (Array.getElem?_eq_some_iff.1 hc1').1
    have : (cargs ++ Array.replicate (fn.ntmps - cargs.size) undef).getD t undef = c := by
     rw [Array.getD_eq_getD_getElem?, Array.getElem?_append_left hlt, hc1']; rfl
    rw [this]; exact hc2
  ·show (cargs ++ Array.replicate (fn.ntmps - cargs.size) undef).size = fn.ntmps
   simp; omega
  ·intro l hl
   cases hφl : φ l with
   | none => rfl
   | some c => have := hφ l c hφl; exact absurd this (Nat.not_lt.2 hl)
 refine calls_of_wp hf hb' (awp_sound (E := E) hT hmix code hok hgood hk ?_)
 have key : ∀ F' φ' w' σ' a', Good E F' φ' w' σ' a' → fin T objs.length rs σ' K0 → a'.defers = [] ∧ ∃ v, (results fn a'.tmps).run P w' = .ok v w' ∧
   ∃ c F'' φ'' r objs', Q r objs' ∧ (Ending.returned v) = .returned c ∧ RS F'' φ'' w' c r ∧ Nx F φ w (nth objs) (fun l => objs.length ≤ l) (chOf 0 objs') F'' φ'' w' := by
  intro F' φ' w' σ' a' hg hk
  refine ⟨hg.gf.defers, ?_⟩
  unfold fin at hk
  obtain ⟨cs, vs, h1, h2, h3⟩ := resV_sound hT hg rs hk
  obtain ⟨F2, ch, vs2, g1, g2, g3⟩ := frzR_sound (N := fun l => objs.length ≤ l) vs hg.gm.rp hg.gm.hX h2 h3
  have hgm2 := hg.gm.next (N := fun l => objs.length ≤ l) (fun l hl => hl) g1
  obtain ⟨φ3, vs3, os, k1, k2, k3, k4, k5⟩ := anew_sound hgm2 g2 g3
  rw [forceSs_eq, forceOs_eq] at k5
  let cv : Value := if h : cs.length = 1 then cs[0]'(by omega) else .tuple cs.toArray
  have hcvd : cv = (if h : cs.length = 1 then cs[0]'(by omega) else .tuple cs.toArray) := rfl
  have hval : RS F2 φ3 w' cv (oneOf vs3) := by
   have hl := k2.1
   rw [hcvd]
   cases vs3 with
   | nil =>
    have : cs = [] := by simpa using hl
    subst this
    exact .tup _ _ rfl (by intro j c x h; simp at h)
   | cons s r =>
    cases r with
    | nil =>
     obtain ⟨x, xs, rfl, q1, q2⟩ := k2.cons_inv
     have := q2.nil_inv
     subst this
     exact q1
    | cons s2 r =>
     have hne : ¬ cs.length = 1 := by rw [hl]; simp
     rw [dif_neg hne]
     exact .tup _ _ (by simpa using hl) (by simpa using k2.2)
  have hbase : ∀ (F2 : Nat → Prop) (φ3 : Nat → Option Value) (os : List Ob), GM E F2 φ3 w' (getA (zipO 0 os)) → objs.length ≤ os.length → Nx F φ w (nth objs) (fun l => objs.length ≤ l) (chOf 0 os) F2 φ3 w' := by
   intro F2 φ3 os k1 k4
   have hch : ∀ l ob, chGet (chOf 0 os) l = some ob ↔ getA (zipO 0 os) l = some ob := by
    intro l ob
    rw [chGet_chOf, getA_zipO]
   have hold : ∀ i ob b, nth objs i = some ob → live ob = true → Blk φ i ob b → ∃ l o, nth objs l = some o ∧ live o = true ∧ Blk φ l o b ∧ (chGet (chOf 0 os) l).isSome := by
    intro i ob b q1 q2 q3
    refine ⟨i, ob, q1, q2, q3, ?_⟩
    rw [nth_eq] at q1
    have hi : i < objs.length := (List.getElem?_eq_some_iff.1 q1).1
    have hi2 : i < os.length := Nat.lt_of_lt_of_le hi k4
    rw [chGet_chOf]
    simp [hi2]
   refine ⟨fun b hb' => k1.hF b hb', ?_, ?_, k1.os, k1.tape, k1.output, k1.drawn, k1.size, ?_, ?_, ?_, ?_, ?_⟩
   ·intro l c hc
    have := hφ l c hc
    rw [k1.pin l this]; exact hc
   ·intro l c hc
    rcases Nat.lt_or_ge l objs.length with hlt | hge
    ·left; rw [k1.pin l hlt] at hc; exact hc
    ·exact .inr ⟨hge, k1.rp.one l c hc⟩
   ·intro b hb1 hne
    by_cases hX : E.X b
    ·rcases hX with h6 | ⟨i, ob, q1, q2, q3⟩
     ·have h6' : w.heap.size ≤ b := h6
      omega
     ·exact hold i ob b q1 q2 q3
    ·exact (hne (k1.keep b hb1 hX)).elim
   ·intro b hb1
    rcases k1.nF b hb1 with h6 | h6 | ⟨i, ob, q1, q2, q3⟩
    ·exact .inl h6
    ·exact .inr ⟨k1.rp.bd b hb1, .inl h6⟩
    ·exact .inr ⟨k1.rp.bd b hb1, .inr (hold i ob b q1 q2 q3)⟩
   ·intro l ob hl
    exact k1.rp.objs l ob ((hch l ob).1 hl)
   ·intro l ob b hl hv hb1
    rcases k1.rp.inX l ob b ((hch l ob).1 hl) hv hb1 with h6 | ⟨i, ob', q1, q2, q3⟩
    ·exact .inl h6
    ·exact .inr (hold i ob' b q1 q2 q3)
   ·intro l l' ob ob' b hl hl' hv hv' hb1 hb2
    exact k1.rp.inj l l' ob ob' b ((hch l ob).1 hl) ((hch l' ob').1 hl') hv hv' hb1 hb2
  obtain ⟨r, objs', hQ, k5⟩ := hK _ _ k5
  have hrun := results_run hres h1
  have main : ∀ (r' : S) (os : List Ob), FinR objs.length r objs' r' os → ∀ (F2 : Nat → Prop) (φ3 : Nat → Option Value), GM E F2 φ3 w' (getA (zipO 0 os)) → RS F2 φ3 w' cv r' → (∀ l, os.length ≤ l → φ3 l = none) → objs.length ≤ os.length →
    ∃ c F'' φ'', (Ending.returned cv) = .returned c ∧ RS F'' φ'' w' c r ∧ Nx F φ w (nth objs) (fun l => objs.length ≤ l) (chOf 0 objs') F'' φ'' w' := by
   clear hval hcvd
   generalize cv = cv
   intro r' os k5
   induction k5 with
   | mk h =>
    intro F2 φ3 k1 b1 k3 k4
    have b2 := hbase F2 φ3 _ k1 k4
    obtain ⟨e1, e2⟩ := h; subst e1; subst e2; exact ⟨_, F2, φ3, rfl, b1, b2⟩
   | @cutv r1 os1 l e sz n rows g0 g1 g2 hfin ih =>
    intro F2 φ3 k1 b1 k3 k4
    have hob : getA (zipO 0 os1) l = some (.row e sz rows) := by rw [getA_zipO]; simpa using g1
    have hnone := k3 _ (Nat.le_refl _)
    have hlt := (List.getElem?_eq_some_iff.1 g1).1
    have hval : ∃ a' M c', φ3 l = some (.slice a' M c') ∧ cv = .slice a' n c' := by
     rcases g0 with rfl | ⟨rfl, rfl⟩
     ·cases b1 with | c hx => cases hx with
      | tree hx => cases hx
      | vw l _ o n ad a' M cap c' hl hn hc' hcc' ha0' ha' =>
       have ea := ha0' rfl
       have ec : c' = cap := by omega
       subst ea ec
       exact ⟨_, _, _, hl, rfl⟩
     ·have hl := b1.row_inv
      obtain ⟨ad, n, cap, q1, q2⟩ := (k1.rp.objs l _ hob).row_shape
      rw [hl] at q1; cases q1
      exact ⟨_, _, _, hl, by rw [q2]⟩
    obtain ⟨a', M, c', hl, rfl⟩ := hval
    ·have hcut := Nx.cut (N := fun l => objs.length ≤ l) k1.rp (id := os1.length) (by omega) hnone hob hl g2
     have hc0 : sliced a' 0 n c' sz = .slice a' n c' := by
      unfold sliced
      rw [Nat.sub_zero, Nat.sub_zero, Nat.zero_mul]
      split
      ·rfl
      ·cases a' with
       | none => rfl
       | some b => simp [Addr.add]
     rw [hc0] at hcut
     have hg' := k1.next (fun l hl => hl) hcut
     have he : updF (getA (zipO 0 os1)) [(l, Ob.dead), (os1.length, Ob.row e sz (rows.take n))] = getA (zipO 0 (os1.set l .dead ++ [.row e sz (rows.take n)])) := by
      funext l2
      unfold updF
      rw [getA_zipO, getA_zipO]
      simp only [chGet, Nat.zero_le, if_true, Nat.sub_zero]
      by_cases e1 : os1.length = l2
      ·subst e1
       rw [if_pos rfl, List.getElem?_append_right (by simp)]
       simp
      ·rw [if_neg e1]
       by_cases e2 : l = l2
       ·subst e2
        rw [if_pos rfl, List.getElem?_append_left (by simpa using hlt), List.getElem?_set_self hlt]
       ·rw [if_neg e2]
        rcases Nat.lt_or_ge l2 os1.length with h5 | h5
        ·rw [List.getElem?_append_left (by simpa using h5), List.getElem?_set_ne e2]
        ·rw [List.getElem?_eq_none h5, List.getElem?_eq_none (by simp; omega)]
     rw [he] at hg'
     refine ih F2 _ hg' (.c (.row _ _ (by simp [addφ]))) ?_ (by simp; omega)
     intro l2 hl2
     simp only [List.length_append, List.length_set, List.length_cons, List.length_nil] at hl2
     unfold addφ
     rw [if_neg (by omega)]
     exact k3 l2 (by omega)
   | weak t g1 g2 g3 =>
    intro F2 φ3 k1 b1 k3 k4
    have b2 := hbase F2 φ3 _ k1 k4
    exact ⟨_, F2, φ3, rfl, ValR.sound b2.objs g1 b1, b2.less g2 g3⟩
   | own e sz g1 g2 g3 =>
    intro F2 φ3 k1 b1 k3 k4
    have b2 := hbase F2 φ3 _ k1 k4
    have hnone := k3 _ (Nat.le_refl _)
    rw [g3, g2]
    refine ⟨_, F2, addφ φ3 _ (.slice none 0 0), rfl, ?_, Nx.addrow b2 hnone k4 e sz⟩
    rw [g1] at b1
    cases b1 with | c hv => cases hv with | tree hv => cases hv; exact .c (.row _ _ (by simp [addφ]))
   | own2 e sz q g1 g2 g3 =>
    intro F2 φ3 k1 b1 k3 k4
    have b2 := hbase F2 φ3 _ k1 k4
    have hnone := k3 _ (Nat.le_refl _)
    rw [g3, g2]
    refine ⟨_, F2, addφ φ3 _ (.slice none 0 0), rfl, ?_, Nx.addrow b2 hnone k4 e sz⟩
    rw [g1] at b1
    cases b1 with
    | tup cs' xs hl hh =>
     refine .tup _ _ (by simpa using hl) ?_
     intro j c x q1 q2
     cases j with
     | zero =>
      have := hh 0 c _ q1 rfl
      simp at q2; subst q2
      cases this with | c hv => cases hv with | tree hv => cases hv; exact .c (.row _ _ (by simp [addφ]))
     | succ j => exact (hh (j + 1) c x q1 q2).up (fun _ h => h) (addφ_ext hnone _) (fun _ _ => rfl)
   | @frz r1 os1 l e sz rows h0 hfin ih =>
    intro F2 φ3 k1 b1 k3 k4
    have hob : getA (zipO 0 os1) l = some (.row e sz rows) := by rw [getA_zipO]; simpa using h0
    obtain ⟨ad, n, cap, hl, _⟩ := (k1.rp.objs l _ hob).row_shape
    have hn := Nx.freeze (N := fun l => objs.length ≤ l) k1.rp hob hl
    have hg' := k1.next (fun l hl => hl) hn
    have he : updF (getA (zipO 0 os1)) [(l, Ob.frow sz rows)] = getA (zipO 0 (os1.set l (.frow sz rows))) := by
     funext l2
     unfold updF
     rw [getA_zipO, getA_zipO]
     simp only [chGet, Nat.zero_le, if_true, Nat.sub_zero, List.getElem?_set]
     have hlt := (List.getElem?_eq_some_iff.1 h0).1
     by_cases e1 : l = l2
     ·subst e1; simp [hlt]
     ·simp [e1]
    rw [he] at hg'
    exact ih _ φ3 hg' (b1.up hn.hF hn.hφ (fun _ _ => rfl)) (by simpa using k3) (by simpa using k4)
  obtain ⟨c, F'', φ'', q2, q3, q4⟩ := main _ os k5 F2 φ3 k1 hval k3 k4
  exact ⟨_, hrun, c, F'', φ'', r, objs', hQ, q2, q3, q4⟩
 intro e F' φ' w' σ' a' hg hk
 cases e with
 | normal => exact key _ _ _ _ _ hg hk
 | ret => exact key _ _ _ _ _ hg hk
 | _ => exact hk.elim

theorem fn_sound {g : Nat} {fn : Func} {code : Code} {rs : List ResultVar} {args : List S} {objs : List Ob} {r : S} {objs' : List Ob} (hT : TabOK P T) (hmix : P.follows .mixedOrders = true) (hf : P.funcs[g]? = some fn) (hb' : fn.body = some code)
  (hn : (fn.name == "runtime.NumGoroutine") = false) (hok : codeOK fn.ntmps code = true) (hres : fn.results = rs.toArray) (hna : args.length ≤ fn.ntmps)
  (hk : abody T mt (PCx P) code rs args objs (FinR objs.length r objs')) : PCs P g args objs r objs' :=
 fn_soundK hT hmix hf hb' hn hok hres hna (fun _ _ h => ⟨r, objs', ⟨rfl, rfl⟩, h⟩) hk
inductive FinX (Q : S → List Ob → Prop) (m : Nat) (r' : S) (os' : List Ob) : Prop
 | mk (r : S) (os : List Ob) (hQ : Q r os) (h : FinR m r os r' os')
theorem fn_soundX {g : Nat} {fn : Func} {code : Code} {rs : List ResultVar} {args : List S} {objs : List Ob} {Q : S → List Ob → Prop} (hT : TabOK P T) (hmix : P.follows .mixedOrders = true) (hf : P.funcs[g]? = some fn) (hb' : fn.body = some code)
  (hn : (fn.name == "runtime.NumGoroutine") = false) (hok : codeOK fn.ntmps code = true) (hres : fn.results = rs.toArray) (hna : args.length ≤ fn.ntmps)
  (hk : abody T mt (PCx P) code rs args objs (FinX Q objs.length)) : PCx P g args objs Q :=
 fn_soundK hT hmix hf hb' hn hok hres hna (fun _ _ h => by obtain ⟨r, os, h1, h2⟩ := h; exact ⟨r, os, h1, h2⟩) hk
end
end Abs
end Go.Proofs.YtkefgcleaalnnaaGreat
