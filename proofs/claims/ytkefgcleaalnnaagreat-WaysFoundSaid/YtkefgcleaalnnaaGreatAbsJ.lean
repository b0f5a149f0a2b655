/- Calls as operations; every operation. -/
import Derived.Test.YtkefgcleaalnnaaGreatAbsX
import Derived.Test.YtkefgcleaalnnaaGreatAbsVw
import Derived.Test.YtkefgcleaalnnaaGreatAbsGd
import Derived.Test.YtkefgcleaalnnaaGreatAbsSt
import Derived.Test.YtkefgcleaalnnaaGreatAbsQu
namespace Go.Proofs.YtkefgcleaalnnaaGreat
set_option linter.unusedVariables false
set_option linter.unusedSimpArgs false
namespace Abs

section
variable {P : Program} {T : List (Nat × TI)} {F : Nat → Prop} {φ φ2 : Nat → Option Value} {X : Nat → Prop} {w : World} {h : Nat → Option Ob} {id : Nat} {N : Nat → Prop} {a : Act} {o : Oper} {k : S → Ch → Prop} {K : Act → World → Prop} {Q : Exit → Act → World → Prop} {PC : Nat → List S → List Ob → (S → List Ob → Prop) → Prop} {mt : List Nat} {g : Nat → Option Nat}

theorem frz_sound : ∀ (vs : List V) {cs : List Value} {F : Nat → Prop} {h : Nat → Option Ob} {k : List V → Ch → Prop}, Rp F φ X w h → (∀ b, w.heap.size ≤ b → X b) → P2 (RV F φ w) cs vs → frz h vs k →
  ∃ F' ch vs', Nx F φ w h N ch F' φ w ∧ P2 (RV F' φ w) cs vs' ∧ k vs' ch
 | [], cs, F, h, k, hr, hX, hp, hk => by
  have := hp.nil_inv; subst this
  exact ⟨F, [], [], Nx.refl, P2.nil, hk⟩
 | v :: r, cs, F, h, k, hr, hX, hp, hk => by
  obtain ⟨c, cs', rfl, hv, hp'⟩ := hp.cons_inv
  have simple : ∀ v', RV F φ w c v' → (frz h r fun vs ch => k (v' :: vs) ch) → ∃ F' ch vs', Nx F φ w h N ch F' φ w ∧ P2 (RV F' φ w) (c :: cs') vs' ∧ k vs' ch := by
   intro v' hv' hk'
   obtain ⟨F', ch, vs', h1, h2, h3⟩ := frz_sound r hr hX hp' hk'
   exact ⟨F', ch, v' :: vs', h1, P2.cons (hv'.up h1.hF h1.hφ (fun _ _ => rfl)) h2, h3⟩
  simp only [frz] at hk
  cases v with
  | row l =>
   simp only at hk
   have hl : φ l = some c := by
    cases hv with
    | tree hv => cases hv
    | row l c h => exact h
   cases hob : h l with
   | none => simp [hob] at hk
   | some ob =>
    simp only [hob] at hk
    cases ob with
    | row e sz rows =>
     simp only at hk
     have hn := Nx.freeze (N := N) hr hob hl
     have hr1 := hr.next hn hX
     obtain ⟨F', ch, vs', h1, h2, h3⟩ := frz_sound r hr1 hX (hp'.ups hn.hF (fun _ _ h => h) (fun _ _ => rfl)) hk
     exact ⟨F', _, .lst sz rows :: vs', Nx.trans hr hX hn h1, P2.cons (.tree (((hr.objs l _ hob).row_tree hl).up h1.hF (fun _ _ => rfl))) h2, h3⟩
    | frow sz rows =>
     simp only at hk
     obtain ⟨c', h1, h2⟩ := hr.objs l _ hob
     rw [hl] at h1; cases h1
     exact simple _ (.tree h2) hk
    | _ => exact hk.elim
  | _ => exact simple _ hv hk

theorem frzS_sound : ∀ (ss : List S) {cs : List Value} {F : Nat → Prop} {h : Nat → Option Ob} {k : List S → Ch → Prop}, Rp F φ X w h → (∀ b, w.heap.size ≤ b → X b) → P2 (RS F φ w) cs ss → frzS h ss k →
  ∃ F' ch ss', Nx F φ w h N ch F' φ w ∧ P2 (RS F' φ w) cs ss' ∧ k ss' ch
 | [], cs, F, h, k, hr, hX, hp, hk => by
  have := hp.nil_inv; subst this
  exact ⟨F, [], [], Nx.refl, P2.nil, hk⟩
 | s :: r, cs, F, h, k, hr, hX, hp, hk => by
  obtain ⟨c, cs', rfl, hs, hp'⟩ := hp.cons_inv
  have simple : ∀ s', RS F φ w c s' → (frzS h r fun ss ch2 => k (s' :: ss) ch2) → ∃ F' ch ss', Nx F φ w h N ch F' φ w ∧ P2 (RS F' φ w) (c :: cs') ss' ∧ k ss' ch := by
   intro s' hs' hk'
   obtain ⟨F', ch, ss', h1, h2, h3⟩ := frzS_sound r hr hX hp' hk'
   exact ⟨F', ch, s' :: ss', h1, P2.cons (hs'.up h1.hF h1.hφ (fun _ _ => rfl)) h2, h3⟩
  simp only [frzS] at hk
  cases s with
  | c v =>
   simp only at hk
   cases hs with | c hv =>
   obtain ⟨F1, ch1, vs', h1, h2, h3⟩ := frz_sound (N := N) [v] hr hX (P2.cons hv P2.nil) hk
   have hr1 := hr.next h1 hX
   cases vs' with
   | nil => have := h2.1; simp at this
   | cons v' t =>
    cases t with
    | cons => have := h2.1; simp at this
    | nil =>
     simp only at h3
     obtain ⟨F', ch, ss', g1, g2, g3⟩ := frzS_sound r hr1 hX (hp'.mono fun _ _ hh => hh.up h1.hF h1.hφ (fun _ _ => rfl)) h3
     obtain ⟨_, _, e1, e2, _⟩ := h2.cons_inv
     cases e1
     exact ⟨F', _, .c v' :: ss', Nx.trans hr hX h1 g1, P2.cons (.c (e2.up g1.hF g1.hφ (fun _ _ => rfl))) g2, g3⟩
  | agg vs =>
   simp only at hk
   cases hs with | agg cs2 vs hv =>
   obtain ⟨F1, ch1, vs', h1, h2, h3⟩ := frz_sound (N := N) vs hr hX hv hk
   have hr1 := hr.next h1 hX
   obtain ⟨F', ch, ss', g1, g2, g3⟩ := frzS_sound r hr1 hX (hp'.mono fun _ _ hh => hh.up h1.hF h1.hφ (fun _ _ => rfl)) h3
   exact ⟨F', _, .agg vs' :: ss', Nx.trans hr hX h1 g1, P2.cons (.agg _ _ (h2.ups g1.hF g1.hφ (fun _ _ => rfl))) g2, g3⟩
  | tup xs => exact simple _ hs hk
  | bot => exact simple _ hs hk

theorem call_sound {G : ((S → List Ob → Prop) → Prop) → (S → List Ob → Prop) → Prop} (hG : ∀ PX k, G PX k → CallX PX k) {f : Nat} {ar : List S} {cargs : Array Value} (hr : Rp F φ X w h) (hX : ∀ b, w.heap.size ≤ b → X b) (hid : ∀ l, id ≤ l → l < id + 16 → φ l = none) (has : P2 (RS F φ w) cargs.toList ar) (hk : call mt (PCx P) G h id f ar k) :
  (∃ fn, P.funcs[f]? = some fn ∧ (fn.name == "runtime.NumGoroutine") = false ∧ fn.body.isNone = false) ∧
  Calls P f cargs w fun e w' => ∃ c F' φ' ch s, e = .returned c ∧ RS F' φ' w' c s ∧ Nx F φ w h (fun l => id ≤ l ∧ l < id + 16) ch F' φ' w' ∧ k s ch := by
 unfold call at hk
 cases hm : hasN mt f with
 | true =>
  simp only [hm, cond_true] at hk
  exact callOn_sound hG hr hid has hk
 | false =>
  simp only [hm, cond_false] at hk
  obtain ⟨F1, ch1, ss', h1, h2, h3⟩ := frzS_sound (N := fun l => id ≤ l ∧ l < id + 16) ar hr hX has hk
  have hr1 := hr.next h1 hX
  obtain ⟨g1, g2⟩ := callOn_sound hG hr1 hid h2 h3
  refine ⟨g1, g2.mono ?_⟩
  rintro e w' ⟨c, F', φ', ch, s, rfl, k1, k2, k3⟩
  exact ⟨c, F', φ', _, s, rfl, k1, Nx.trans hr hX h1 k2, k3⟩

theorem P2.map_c {cs : List Value} {vs : List V} (hp : P2 (RV F φ w) cs vs) : P2 (RS F φ w) cs (vs.map .c) := by
 refine ⟨by simp [hp.1], fun j x y h1 h2 => ?_⟩
 rw [List.getElem?_map] at h2
 cases hv : vs[j]? with
 | none => simp [hv] at h2
 | some v => simp [hv] at h2; subst h2; exact .c (hp.2 j x v h1 hv)

theorem op_call {G : ((S → List Ob → Prop) → Prop) → (S → List Ob → Prop) → Prop} (hG : ∀ PX k, G PX k → CallX PX k) {fo : Operand} {args : List Operand} {s1 : S} {ss : List S} {c : Call} (hr : Rp F φ X w h) (hX : ∀ b, w.heap.size ≤ b → X b) (hid : ∀ l, id ≤ l → l < id + 16 → φ l = none) (ho : o.op = .call c) (hcal : c.callee = .value fo) (ha : c.args.toList = args)
  (hx : RS F φ w (a.eval fo) s1) (hy : P2 (RS F φ w) (args.map a.eval) ss) (hk : aCall mt (PCx P) G h id s1 ss k) (hc : Ct F φ w h (fun l => id ≤ l ∧ l < id + 16) o a k K) : o.wp P a w K Q := by
 unfold aCall at hk
 generalize hev : a.eval fo = cv at hx
 split at hk
 ·rename_i f caps
  rw [forceSs_eq] at hk
  have hcs : ∃ cs : Array Value, cv = .func (.func f) #[] cs ∧ P2 (RV F φ w) cs.toList caps := by
   cases hx with | c hx => cases hx with
    | tree hx => cases hx
    | fn f caps cs hl hh => exact ⟨cs, rfl, hl, hh⟩
  obtain ⟨cs, rfl, hcs⟩ := hcs
  obtain ⟨⟨fn, hf, hn, hb'⟩, hcalls⟩ := call_sound hG (cargs := (args.map a.eval).toArray ++ cs) hr hX hid (by
   simp only [Array.toList_append]
   exact hy.append hcs.map_c) hk
  have hm : c.args.map a.eval = (args.map a.eval).toArray := by subst ha; apply Array.ext'; simp
  have hrun : (execOp a.eval o).run P w = .ok (.enter f ((args.map a.eval).toArray ++ cs)) w := by
   have hn' : ¬ fn.name = "runtime.NumGoroutine" := by simpa using hn
   have hb2 : ¬ fn.body = none := by intro h; simp [h] at hb'
   simp [execOp, ho, resolve, hcal, hev, Deferred.ofValue, invoke, callFunc, hf, hn', hb2, hm]
  unfold Oper.wp
  rw [hrun]
  refine Calls.mono hcalls fun e w' hh => ?_
  obtain ⟨c', F', φ', ch, s, rfl, k1, k2, k3⟩ := hh
  exact hc _ _ _ _ _ _ k2 k1 k3
 ·exact hk.elim

theorem vals_map {sl : Nat → S} (hs : ∀ t, RS F φ w (a.tmps.getD t undef) (sl t)) : ∀ (l : List Operand), P2 (RS F φ w) (l.map a.eval) (l.map (ev sl))
 | [] => P2.nil
 | x :: r => P2.cons (ev_sound hs x) (vals_map hs r)

theorem withT_inv (hT : TabOK P T) {t : Nat} {k : TI → Prop} (hk : withT T t k) : ∃ ti, TIok P T t ti ∧ k ti := by
 unfold withT at hk
 split at hk
 ·rename_i ti hti; exact ⟨ti, hT t ti hti, hk⟩
 ·exact hk.elim

theorem aop_sound {sl : Nat → S} (hT : TabOK P T) (hr : Rp F φ X w h) (hX : ∀ b, w.heap.size ≤ b → X b) (hid : ∀ l, id ≤ l → l < id + 16 → φ l = none) (hs : ∀ t, RS F φ w (a.tmps.getD t undef) (sl t))
  (hk : aop T mt (PCx P) h id o.op (vals sl o.op) k) (hc : Ct F φ w h (fun l => id ≤ l ∧ l < id + 16) o a k K) : o.wp P a w K Q := by
 have hN : id ≤ id ∧ id < id + 16 := ⟨Nat.le_refl _, by omega⟩
 have hid0 : φ id = none := hid id hN.1 hN.2
 have he := ev_sound hs
 unfold vals at hk
 unfold aop at hk
 cases ho : o.op with
 | move x => rw [ho] at hk; exact op_move ho (he x) hk hc
 | assign x => rw [ho] at hk; exact op_assign ho (he x) hk hc
 | pick c x y => rw [ho] at hk; exact op_pick ho (he c) (he x) (he y) hk hc
 | alloc t =>
  rw [ho] at hk
  obtain ⟨ti, hti, hk⟩ := withT_inv hT hk
  exact op_alloc hti hr hN hid0 ho hk hc
 | box t x => rw [ho] at hk; exact op_box hr hN hid0 ho (he x) hk hc
 | fieldAddr t x f =>
  rw [ho] at hk
  obtain ⟨ti, hti, hk⟩ := withT_inv hT hk
  exact op_fieldAddr hti ho (he x) hk hc
 | load t x =>
  rw [ho] at hk
  obtain ⟨ti, hti, hk⟩ := withT_inv hT hk
  exact op_load hti hr ho (he x) hk hc
 | store t x y =>
  rw [ho] at hk
  obtain ⟨ti, hti, hk⟩ := withT_inv hT hk
  exact op_store hti hr hX ho (he x) (he y) hk hc
 | binOp op t x y t2 => rw [ho] at hk; exact op_aBinC hT ho (he x) (he y) hk hc
 | unOp op t x => rw [ho] at hk; exact op_un ho (he x) hk hc
 | indexAddr t x i => rw [ho] at hk; exact op_indexAt hT hr ho (he x) (he i) hk hc
 | extract x i => rw [ho] at hk; exact op_extract ho (he x) hk hc
 | makeMap t r =>
  rw [ho] at hk
  cases r with
  | some => exact hk.elim
  | none =>
   obtain ⟨kt, e, ei, hm, he', hk⟩ := mapT_inv hT hk
   exact op_makeMap hr hN hid0 ho hk hc
 | lookup t x y ok =>
  rw [ho] at hk
  obtain ⟨kt, e, ei, hm, he', hk⟩ := mapT_inv hT hk
  exact op_lookup hT hr ho hm he' (he x) (he y) hk hc
 | mapUpdate t x y z =>
  rw [ho] at hk
  obtain ⟨kt, e, ei, hm, he', hk⟩ := mapT_inv hT hk
  exact op_mapUpdate hT hr hX (.inl ho) hm (he x) (he y) (he z) hk hc
 | insert t x y z =>
  rw [ho] at hk
  obtain ⟨kt, e, ei, hm, he', hk⟩ := mapT_inv hT hk
  exact op_mapUpdate hT hr hX (.inr ho) hm (he x) (he y) (he z) hk hc
 | mapEntry t x y =>
  rw [ho] at hk
  obtain ⟨kt, e, ei, hm, he', hk⟩ := mapT_inv hT hk
  exact op_mapEntry hT hr hX ho hm he' (he x) (he y) hk hc
 | entryStore t x y z => rw [ho] at hk; exact op_entryStore hr hX ho (he x) (he y) (he z) hk hc
 | range t x =>
  rw [ho] at hk
  obtain ⟨kt, e, ei, hm, he', hk⟩ := mapT_inv hT hk
  exact op_range hr hN hid0 ho hm (he x) hk hc
 | entry x => rw [ho] at hk; exact op_entry hr ho (he x) hk hc
 | call c =>
  rw [ho] at hk
  have hops : (Op.call c).operands.toList = (match c.callee with | .value f => [f] | .invoke r _ => [r] | .builtin _ => []) ++ c.args.toList := by
   simp only [Op.operands, Call.operands]
   cases c.callee <;> simp
  rw [hops] at hk
  cases hcal : c.callee with
  | invoke r m => simp [hcal] at hk
  | value f =>
   simp only [hcal, List.cons_append, List.nil_append, List.map_cons] at hk
   exact op_call (fun _ _ h => GD.x h) hr hX hid ho hcal rfl (he f) (vals_map hs _) hk hc
  | builtin b =>
   simp only [hcal, List.nil_append] at hk
   cases b <;> try (exact hk.elim)
   case len =>
    cases ha : c.args.toList with
    | nil => simp [ha] at hk
    | cons x r =>
     cases r with
     | cons => simp [ha] at hk
     | nil => simp only [ha, List.map_cons, List.map_nil] at hk; exact op_len hT ho hcal ha hr (he x) hk hc
   case delete =>
    cases ha : c.args.toList with
    | nil => simp [ha] at hk
    | cons x r =>
     cases r with
     | nil => simp [ha] at hk
     | cons y r =>
      cases r with
      | cons => simp [ha] at hk
      | nil =>
       simp only [ha, List.map_cons, List.map_nil] at hk
       split at hk
       ·rename_i t ts hts
        obtain ⟨kt, e, ei, hm, he', hk⟩ := mapT_inv hT hk
        exact op_delete hT hr hX ho hcal ha hts hm (he x) (he y) hk hc
       ·exact hk.elim
   case min =>
    cases ha : c.args.toList with
    | nil => simp [ha] at hk
    | cons x r =>
     cases r with
     | nil => simp [ha] at hk
     | cons y r =>
      cases r with
      | cons => simp [ha] at hk
      | nil => simp only [ha, List.map_cons, List.map_nil] at hk; exact op_min ho hcal ha (he x) (he y) hk hc
   case max =>
    cases ha : c.args.toList with
    | nil => simp [ha] at hk
    | cons x r =>
     cases r with
     | nil => simp [ha] at hk
     | cons y r =>
      cases r with
      | cons => simp [ha] at hk
      | nil => simp only [ha, List.map_cons, List.map_nil] at hk; exact op_max ho hcal ha (he x) (he y) hk hc
   case clear =>
    rcases ha : c.args.toList with _ | ⟨x, _ | ⟨y, r⟩⟩
    ·simp [ha] at hk
    ·simp only [ha, List.map_cons, List.map_nil] at hk
     split at hk
     ·rename_i t hts
      exact op_clear hT hr ho hcal ha (by apply Array.ext'; simpa using hts) (he x) hk hc
     ·exact hk.elim
    ·simp [ha] at hk
   case copy =>
    rcases ha : c.args.toList with _ | ⟨x, _ | ⟨y, _ | ⟨z, r⟩⟩⟩
    ·simp [ha] at hk
    ·simp [ha] at hk
    ·simp only [ha, List.map_cons, List.map_nil] at hk
     split at hk
     ·rename_i t t' hts
      cases hq : Nat.beq t' t with
      | false => simp [hq] at hk
      | true =>
       simp only [hq, cond_true] at hk
       have := beq_eqn hq
       subst this
       exact op_copy hT hr ho hcal ha (by apply Array.ext'; simpa using hts) (he x) (he y) hk hc
     ·exact hk.elim
    ·simp [ha] at hk
   case append =>
    cases ha : c.args.toList with
    | nil => simp [ha] at hk
    | cons x r =>
     cases r with
     | nil => simp [ha] at hk
     | cons y r =>
      cases r with
      | cons => simp [ha] at hk
      | nil =>
       simp only [ha, List.map_cons, List.map_nil] at hk
       split at hk
       ·rename_i t t' hts
        cases hq : Nat.beq t' t with
        | false =>
         simp only [hq, cond_false] at hk
         exact op_appendS hT hr hN hid0 ho hcal ha (by apply Array.ext'; simpa using hts) (he x) (he y) hk hc
        | true =>
         simp only [hq, cond_true] at hk
         have := beq_eqn hq
         subst this
         exact op_appendG hT hr hN hid0 ho hcal ha (by apply Array.ext'; simpa using hts) (he x) (he y) hk hc
       ·exact hk.elim
 | build t ps =>
  rw [ho] at hk
  obtain ⟨ti, hti, hk⟩ := withT_inv hT hk
  refine op_build hT hti hr ho ?_ hk hc
  have := vals_map hs (ps.toList.map (·.2))
  rw [List.map_map] at this
  exact this
 | buildSlice t len ps =>
  rw [ho] at hk
  refine op_buildSlice hT hr hX hN hid0 ho ?_ hk hc
  have := vals_map hs (ps.toList.map (·.2))
  rw [List.map_map] at this
  exact this
 | field t x f =>
  rw [ho] at hk
  obtain ⟨ti, hti, hk⟩ := withT_inv hT hk
  exact op_field hT hti ho (he x) hk hc
 | index t x y =>
  rw [ho] at hk
  obtain ⟨ti, hti, hk⟩ := withT_inv hT hk
  exact op_index hT hti ho (he x) (he y) hk hc
 | convert src dst x =>
  rw [ho] at hk
  obtain ⟨si, hsi, hk⟩ := withT_inv hT hk
  obtain ⟨di, hdi, hk⟩ := withT_inv hT hk
  exact op_convert hsi hdi ho (he x) hk hc
 | nilCheck x => rw [ho] at hk; exact op_nilCheck ho (he x) hk hc
 | makeSlice t x y => rw [ho] at hk; exact op_makeSlice hT hr hN hid0 ho (he x) (he y) hk hc
 | makeFunc fn first cap =>
  rw [ho] at hk
  cases fn with
  | func f =>
   simp only at hk
   cases hq : Nat.beq first.size 0 with
   | false => simp only [hq, cond_false] at hk
   | true =>
    simp only [hq, cond_true] at hk
    have hf : first = #[] := Array.eq_empty_of_size_eq_zero (beq_eqn hq)
    split at hk
    ·rename_i cs hcs
     refine op_makeFunc ho hf (vals_map hs cap.toList) ?_ hk hc
     subst hf
     simpa [Op.operands] using hcs
    ·exact hk.elim
  | _ => exact hk.elim
 | slice t x lo hi mx =>
  rw [ho] at hk
  cases mx with
  | some m =>
   cases lo with
   | some l =>
    cases hi with
    | none => exact hk.elim
    | some b => exact op_slice3 hT hr ho (he x) (he l) (he b) (he m) hk hc
   | none =>
    cases hi with
    | none => exact hk.elim
    | some b => exact op_slice0 hT hr hN hid0 ho (he x) (he b) (he m) hk hc
  | none =>
   cases lo with
   | none =>
    cases hi with
    | none =>
     obtain ⟨ti, hti, hk⟩ := withT_inv hT hk
     exact op_slice (slo := none) (shi := none) hT hti hr hN hid0 ho (he x) trivial trivial hk hc
    | some b =>
     obtain ⟨ti, hti, hk⟩ := withT_inv hT hk
     exact op_slice (slo := none) (shi := some _) hT hti hr hN hid0 ho (he x) trivial (he b) hk hc
   | some l =>
    cases hi with
    | none =>
     obtain ⟨ti, hti, hk⟩ := withT_inv hT hk
     exact op_slice (slo := some _) (shi := none) hT hti hr hN hid0 ho (he x) (he l) trivial hk hc
    | some b =>
     obtain ⟨ti, hti, hk⟩ := withT_inv hT hk
     exact op_slice (slo := some _) (shi := some _) hT hti hr hN hid0 ho (he x) (he l) (he b) hk hc
 | _ => rw [ho] at hk; exact hk.elim

theorem aopS_sound {sl : Nat → S} (hT : TabOK P T) (hr : Rp F φ X w h) (hX : ∀ b, w.heap.size ≤ b → X b) (hid : ∀ l, id ≤ l → l < id + 16 → φ l = none) (hs : ∀ t, RS F φ w (a.tmps.getD t undef) (sl t))
  (hk : aopS T mt (PCx P) h id o.op (vals sl o.op) k) (hc : Ct F φ w h (fun l => id ≤ l ∧ l < id + 16) o a k K) : o.wp P a w K Q := by
 unfold aopS at hk
 split at hk
 ·rename_i op t x y t2 ho
  rw [ho] at hk
  simp only [vals, Op.operands, List.map_cons, List.map_nil] at hk
  cases hq : isEq op && isNilS (ev sl y) with
  | true =>
   simp only [hq, cond_true] at hk
   rw [Bool.and_eq_true] at hq
   exact op_nilcmp hT hr ho hq.1 (ev_sound hs x) (by
    have hy := ev_sound hs y
    have h2 := hq.2
    generalize ev sl y = s at h2 hy
    cases s with
    | c v => cases v <;> first | exact hy | simp [isNilS] at h2
    | _ => simp [isNilS] at h2) hk hc
  | false =>
   simp only [hq, cond_false] at hk
   exact aop_sound hT hr hX hid hs (by rw [ho]; exact hk) hc
 ·rename_i c ho
  split at hk
  ·rename_i fo hcal
   rw [ho] at hk
   have hops : (Op.call c).operands.toList = fo :: c.args.toList := by simp [Op.operands, Call.operands, hcal]
   unfold vals at hk
   simp only [hops, List.map_cons] at hk
   exact op_call (fun _ _ h => h) hr hX hid ho hcal rfl (ev_sound hs fo) (vals_map hs _) hk hc
  ·rename_i hcal
   rw [ho] at hk
   have fb : aop T mt (PCx P) h id (.call c) (vals sl (.call c)) k → o.wp P a w K Q := fun hk => aop_sound hT hr hX hid hs (by rw [ho]; exact hk) hc
   have hN : id ≤ id ∧ id < id + 16 := ⟨Nat.le_refl _, by omega⟩
   generalize hv : vals sl (.call c) = vs at hk
   split at hk
   ·rename_i l sz' p n y0
    split at hk
    ·rename_i t t' hts
     cases hq : Nat.beq t' t with
     | false =>
      simp only [hq, cond_false] at hk
      exact fb (by rw [hv]; exact hk)
     | true =>
      simp only [hq, cond_true] at hk
      have := beq_eqn hq
      subst this
      have hops : (Op.call c).operands.toList = c.args.toList := by simp [Op.operands, Call.operands, hcal]
      unfold vals at hv
      rw [hops] at hv
      obtain ⟨x, y, ha, e1, e2⟩ : ∃ x y, c.args.toList = [x, y] ∧ ev sl x = .c (.vw l sz' p n) ∧ ev sl y = y0 := by
       cases ha : c.args.toList with
       | nil => rw [ha] at hv; exact absurd (congrArg List.length hv) (by simp)
       | cons x r =>
        cases r with
        | nil => rw [ha] at hv; exact absurd (congrArg List.length hv) (by simp)
        | cons y r =>
         cases r with
         | nil => rw [ha] at hv; simp only [List.map_cons, List.map_nil, List.cons.injEq, and_true] at hv; exact ⟨x, y, rfl, hv.1, hv.2⟩
         | cons z r => rw [ha] at hv; exact absurd (congrArg List.length hv) (by simp)
      exact op_appendQ hT hr hN (hid id hN.1 hN.2) ho hcal ha (by apply Array.ext'; simpa using hts) (e1 ▸ ev_sound hs x) (e2 ▸ ev_sound hs y) hk hc
    ·exact hk.elim
   ·exact fb (by rw [hv]; exact hk)
  ·rename_i hcal
   rw [ho] at hk
   have hops : (Op.call c).operands.toList = c.args.toList := by simp [Op.operands, Call.operands, hcal]
   unfold vals at hk
   rw [hops] at hk
   cases ha : c.args.toList with
   | nil => rw [ha] at hk; exact hk.elim
   | cons x r =>
    cases r with
    | nil =>
     rw [ha] at hk
     exact op_lenS hT ho hcal ha hr (ev_sound hs x) hk hc
    | cons y r => rw [ha] at hk; exact hk.elim
  ·exact aop_sound hT hr hX hid hs (by rw [ho] at hk ⊢; exact hk) hc
 ·rename_i it isStr ho
  cases isStr with
  | true => exact hk.elim
  | false =>
   simp only at hk
   rw [ho] at hk
   exact op_next hr ho (ev_sound hs it) hk hc
 ·rename_i t x y ho
  rw [ho] at hk
  simp only [vals, Op.operands, List.map_cons, List.map_nil] at hk
  obtain ⟨ti, hti, hk⟩ := withT_inv hT hk
  exact op_storeS hti hr hX ho (ev_sound hs x) (ev_sound hs y) hk hc
 ·rename_i t len ps ho
  rw [ho] at hk
  have hN : id ≤ id ∧ id < id + 16 := ⟨Nat.le_refl _, by omega⟩
  refine op_buildS hT hr hX hN (hid id hN.1 hN.2) ho ?_ hk hc
  have := vals_map hs (ps.toList.map (·.2))
  rw [List.map_map] at this
  exact this
 ·rename_i t x y ho
  rw [ho] at hk
  simp only [vals, Op.operands, List.map_cons, List.map_nil] at hk
  have hN : id ≤ id ∧ id < id + 16 := ⟨Nat.le_refl _, by omega⟩
  exact op_makeS hT hr hX hN (hid id hN.1 hN.2) ho (ev_sound hs x) (ev_sound hs y) hk hc
 ·rename_i t x ho
  rw [ho] at hk
  have hN : id ≤ id ∧ id < id + 16 := ⟨Nat.le_refl _, by omega⟩
  have hN1 : id ≤ id + 1 ∧ id + 1 < id + 16 := ⟨by omega, by omega⟩
  cases x with
  | none =>
   simp only [vals, Op.operands, Option.toArray, List.map_nil] at hk
   obtain ⟨kt, e, ei, hm, he', hk⟩ := mapT_inv hT hk
   exact op_makeMapS hr hX hN (hid id hN.1 hN.2) hN1 (hid (id + 1) hN1.1 hN1.2) ho hk hc
  | some x => simp only [vals, Op.operands, Option.toArray, List.map_cons, List.map_nil] at hk
 ·rename_i t m ho
  rw [ho] at hk
  simp only [vals, Op.operands, List.map_cons, List.map_nil] at hk
  have hN : id ≤ id ∧ id < id + 16 := ⟨Nat.le_refl _, by omega⟩
  obtain ⟨kt, e, ei, hm, he', hk⟩ := mapT_inv hT hk
  exact op_rangeS hr hX hN (hid id hN.1 hN.2) ho hm (ev_sound hs m) hk hc
 ·exact aop_sound hT hr hX hid hs hk hc
end
end Abs
end Go.Proofs.YtkefgcleaalnnaaGreat
