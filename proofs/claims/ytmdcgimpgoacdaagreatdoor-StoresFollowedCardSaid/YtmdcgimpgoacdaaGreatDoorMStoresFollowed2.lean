/- Parts of the proof, in order. -/
import Derived.Test.YtmdcgimpgoacdaaGreatDoorMStoresFollowed1

/- Stock at a moment, by the document: the list. -/
namespace Go.Proofs.YtmdcgimpgoacdaaGreatDoor
set_option linter.unusedVariables false
set_option linter.unusedSimpArgs false
open Abs

abbrev LE := Nat × ByteArray × Int
def stE (s : Rto) (e : LE) : Pc := ⟨e.2.1, (s.k.get e.2.1).getD bE, e.2.2⟩
def stL (s : Rto) (es : List LE) : List Pc := (es.filter fun e => decide (0 < e.2.2)).map (stE s)
theorem stL_perm (s : Rto) {a b : List LE} (h : a.Perm b) : (stL s a).Perm (stL s b) := (h.filter _).map _
theorem stL_len (s : Rto) (es : List LE) : (stL s es).length ≤ es.length := by
  unfold stL; rw [List.length_map]; exact List.length_filter_le _ _
def keyC (a b : Pc) : Int := cmpS a.key b.key
set_option maxRecDepth 100000 in
set_option maxHeartbeats 4000000 in
theorem stock1_pc (a b : Pc) : PCp 58 [.agg (encPc a), .agg (encPc b)] [] (.c (.int .i64 (keyC a b))) [] := by
  refine fn_sound (mt := mts) tab_fits tab_mixed Tryz.func58 (by rfl) (by kernel_rfl) (by kernel_rfl) Tryz.results58 (Nat.le_of_ble_eq_true (by kernel_rfl)) ?_
  conv => whnf
  repeat' (first
    | (refine Split.mk (fun h => ?_) (fun h => ?_) <;> (try simp only [decide_eq_true_eq, decide_eq_false_iff_not, Bool.not_eq_true', Bool.not_eq_false', beq_iff_eq, beq_eq_false_iff_ne] at h) <;> (first | (exfalso; first | omega | exact h trivial) | (conv => whnf)))
    | (refine CondG.mk (fun h => ?_) (fun h => ?_) <;> (try simp only [decide_eq_true_eq, decide_eq_false_iff_not, Bool.not_eq_true', Bool.not_eq_false', beq_iff_eq, beq_eq_false_iff_ne] at h) <;> (first | (exfalso; first | omega | exact h trivial) | (conv => whnf)))
    | (refine CallX.mk _ _ (by first | exact sCompare_pc _ _) ?_; conv => whnf)
    | (refine CallG.mk _ _ (by first | exact sCompare_pc _ _) ?_; conv => whnf)
    | (refine Ask.mk (by first | omega | (unfold roomOK; simp [cutRows]; done) | (unfold roomOK; simp [cutRows]; omega)) ?_; conv => whnf)
    | (refine SliceG.fr ?_; conv => whnf)
    | fail)
  exact fini rfl
set_option maxRecDepth 100000 in
set_option maxHeartbeats 4000000 in
theorem stockOf_pc (l : List Ac) (hl : l.length ≤ 100000) (t : Int) (h12 : (rtoAt l (cntAt l t)).l.es.length ≤ 12) :
    PCq 17 [.c (.lst 6 (l.map encAc)), .c (.int .i64 t)] [] fun r os => ∃ ds : List Pc, r = .c (.row 0) ∧ os = [.row 56 3 (ds.map encPc)] ∧ ds.Perm (stL (rtoAt l (cntAt l t)) (rtoAt l (cntAt l t)).l.es) := by
  have hok := rtoAt_ok l (cntAt l t)
  generalize hs : rtoAt l (cntAt l t) = s at h12 hok
  have hst := stored_pcR l hl t
  rw [hs] at hst
  refine fn_soundX (mt := mts) tab_fits tab_mixed Tryz.func17 (by rfl) (by kernel_rfl) (by kernel_rfl) Tryz.results17 (Nat.le_of_ble_eq_true (by kernel_rfl)) ?_
  conv => whnf
  repeat' (first
    | (refine Split.mk (fun h => ?_) (fun h => ?_) <;> (try simp only [decide_eq_true_eq, decide_eq_false_iff_not, Bool.not_eq_true', Bool.not_eq_false', beq_iff_eq, beq_eq_false_iff_ne] at h) <;> (first | (exfalso; first | omega | exact h trivial) | (conv => whnf)))
    | (refine CondG.mk (fun h => ?_) (fun h => ?_) <;> (try simp only [decide_eq_true_eq, decide_eq_false_iff_not, Bool.not_eq_true', Bool.not_eq_false', beq_iff_eq, beq_eq_false_iff_ne] at h) <;> (first | (exfalso; first | omega | exact h trivial) | (conv => whnf)))
    | (refine CallX.mk _ _ (by first | exact hst) ?_; conv => whnf)
    | (refine CallG.mk _ _ (by first | exact hst) ?_; conv => whnf)
    | (refine Ask.mk (by first | omega | (unfold roomOK; simp [cutRows]; done) | (unfold roomOK; simp [cutRows]; omega)) ?_; conv => whnf)
    | (refine SliceG.fr ?_; conv => whnf)
    | fail)
  refine loop_meas (fun (vis : List LE) => s.l.es.length - vis.length) [.sl 8 56 3] [5, 8, 22] (fun (vis : List LE) => ⟨[(5, .c (.ptr 0 0)), (8, .c (.row 4)), (22, .c (.ptr 5 0))], [(0, .box [.mp 1, .mp 2, .row 3]), (1, rtoL s), (2, rtoK s), (3, .row 3 1 ((cutsR l (cntAt l t)).map encI)), (4, .row 56 3 ((stL s vis.reverse).map encPc)), (5, .iter 1 s.l.clock (vis.map (·.1)))], 6⟩) (fun (vis : List LE) => Vis s.l vis) ([]) ?_ ?_
  · conv => whnf
    exact ⟨rfl, Vis.nil _⟩
  · intro vis hv
    have hvl := hv.len
    have hsl := stL_len s vis.reverse
    rw [List.length_reverse] at hsl
    have hslm : ((stL s vis.reverse).map encPc).length = (stL s vis.reverse).length := List.length_map ..
    conv => whnf
    refine .mk rfl ?_
    conv => whnf
    refine sm_next hok.l hv (fun hp => ?_) (fun e he hn hv' hlt => ?_)
    · conv => whnf
      have hpr : (stL s vis.reverse).Perm (stL s s.l.es) := stL_perm s ((List.reverse_perm vis).trans hp)
      have hpl : (stL s vis.reverse).length ≤ 12 := by omega
      repeat' (first
        | (refine Split.mk (fun h => ?_) (fun h => ?_) <;> (try simp only [decide_eq_true_eq, decide_eq_false_iff_not, Bool.not_eq_true', Bool.not_eq_false', beq_iff_eq, beq_eq_false_iff_ne] at h) <;> (first | (exfalso; first | omega | exact h trivial) | (conv => whnf)))
        | (refine CondG.mk (fun h => ?_) (fun h => ?_) <;> (try simp only [decide_eq_true_eq, decide_eq_false_iff_not, Bool.not_eq_true', Bool.not_eq_false', beq_iff_eq, beq_eq_false_iff_ne] at h) <;> (first | (exfalso; first | omega | exact h trivial) | (conv => whnf)))
        | (refine CallX.mk _ _ (by first | exact pdqPc_pc _ keyC stock1_pc (stL s vis.reverse) hpl) ?_; conv => whnf)
        | (refine CallG.mk _ _ (by first | exact pdqPc_pc _ keyC stock1_pc (stL s vis.reverse) hpl) ?_; conv => whnf)
        | (refine Ask.mk (by first | omega | (unfold roomOK; simp [cutRows]; done) | (unfold roomOK; simp [cutRows]; omega)) ?_; conv => whnf)
        | (refine SliceG.fr ?_; conv => whnf)
        | fail)
      exact .mk _ _ ⟨_, rfl, rfl, (insSort_perm ..).trans hpr⟩ (.mk ⟨rfl, rfl⟩)
    · conv => whnf
      refine .mk rfl ?_
      conv => whnf
      refine sm_at hok.l he ?_
      conv => whnf
      repeat' (first
        | (refine Split.mk (fun h => ?_) (fun h => ?_) <;> (try simp only [decide_eq_true_eq, decide_eq_false_iff_not, Bool.not_eq_true', Bool.not_eq_false', beq_iff_eq, beq_eq_false_iff_ne, bne_iff_ne, bne_eq_false_iff_eq] at h) <;> (first | (exfalso; first | omega | exact h trivial) | (conv => whnf)))
        | (refine CondG.mk (fun h => ?_) (fun h => ?_) <;> (try simp only [decide_eq_true_eq, decide_eq_false_iff_not, Bool.not_eq_true', Bool.not_eq_false', beq_iff_eq, beq_eq_false_iff_ne, bne_iff_ne, bne_eq_false_iff_eq] at h) <;> (first | (exfalso; first | omega | exact h trivial) | (conv => whnf)))
        | (refine Ask.mk (by first | omega | (unfold roomOK; simp [cutRows]; done) | (unfold roomOK; simp [cutRows]; omega) | (simp [cutRows]; done) | (simp [cutRows]; omega)) ?_; conv => whnf)
        | (refine SliceG.fr ?_; conv => whnf)
        | (refine idx_at _ (by with_reducible rfl) (by first | assumption | omega) ?_; conv => whnf)
        | ((with_reducible refine row_map (by first | assumption | omega) ?_); conv => whnf)
        | ((with_reducible refine row_set (by first | assumption | omega | (simp only [List.length_set]; omega) | (simp; omega)) ?_); conv => whnf)
        | ((with_reducible refine sm_look (ek := ekS) (ev := evK) keyStr s.k e.2.1 bE ?_ ?_); exact rfl; conv => whnf)
        | fail)
      · have h1 : stL s (e :: vis).reverse = stL s vis.reverse ++ [stE s e] := by simp [stL, h]
        exact meas_next (e :: vis) (by simp only [List.length_cons]; omega) (by rw [h1, List.map_append]; rfl) hv'
      · have h1 : stL s (e :: vis).reverse = stL s vis.reverse := by simp [stL, show ¬ 0 < e.2.2 by omega]
        exact meas_next (e :: vis) (by simp only [List.length_cons]; omega) (by rw [h1]; rfl) hv'
/-- metres of a type -/
def sumP (kind : ByteArray) : List Pc → Int
  | [] => 0
  | e :: r => (if e.kind = kind then e.long else 0) + sumP kind r
theorem sumP_perm (kind : ByteArray) {l m : List Pc} (h : l.Perm m) : sumP kind l = sumP kind m := by
  induction h with
  | nil => rfl
  | cons x _ ih => simp only [sumP, ih]
  | swap x y l => simp only [sumP]; omega
  | trans _ _ h1 h2 => exact h1.trans h2
theorem sumP_in (kind : ByteArray) : ∀ (l : List Pc), (∀ e ∈ l, 0 ≤ e.long ∧ e.long ≤ 200000) → 0 ≤ sumP kind l ∧ sumP kind l ≤ 200000 * l.length
  | [], _ => by simp [sumP]
  | e :: r, h => by
    have ih := sumP_in kind r (fun e he => h e (by simp [he]))
    have := h e (by simp)
    simp only [sumP, List.length_cons]
    split <;> omega
theorem sumP_take (kind : ByteArray) (l : List Pc) (k : Nat) (h : k < l.length) : sumP kind (l.take (k + 1)) = sumP kind (l.take k) + (if l[k].kind = kind then l[k].long else 0) := by
  induction l generalizing k with
  | nil => simp at h
  | cons a r ih =>
    cases k with
    | zero => simp [sumP]
    | succ k => simp only [List.take_succ_cons, sumP, ih k (by simpa using h), List.getElem_cons_succ]; omega
def LongR (s : Rto) : Prop := (∀ e ∈ s.l.es, 0 ≤ e.2.2 ∧ e.2.2 ≤ 200000) ∧ s.l.es.length ≤ 12
def ofR (l : List Ac) (kind : ByteArray) (t : Int) : Int := sumP kind (stL (rtoAt l (cntAt l t)) (rtoAt l (cntAt l t)).l.es)
def minI (a b : Int) : Int := if b < a then b else a
/-- the least, by the document -/
def leastR (l : List Ac) (kind : ByteArray) (w : Wi) : Nat → Int
  | 0 => ofR l kind w.1
  | k + 1 => if w.1 < (l.getD k acD).mo ∧ (l.getD k acD).mo < w.2 then minI (leastR l kind w k) (ofR l kind (l.getD k acD).mo) else leastR l kind w k
end Go.Proofs.YtmdcgimpgoacdaaGreatDoor

/- Errors of acts and windows, by the document. -/
namespace Go.Proofs.YtmdcgimpgoacdaaGreatDoor
set_option linter.unusedVariables false
set_option linter.unusedSimpArgs false
open Abs
set_option maxRecDepth 100000 in
set_option maxHeartbeats 4000000 in
theorem rMoment_pc (n : Int) : PCp 55 [.c (.int .i64 n)] [] (.c (.bool (momB n))) [] := by
  refine fn_sound (mt := mts) tab_fits tab_mixed Tryz.func55 (by rfl) (by kernel_rfl) (by kernel_rfl) Tryz.results55 (Nat.le_of_ble_eq_true (by kernel_rfl)) ?_
  conv => whnf
  repeat' (first
    | (refine Split.mk (fun h => ?_) (fun h => ?_) <;> (try simp only [decide_eq_true_eq, decide_eq_false_iff_not, Bool.not_eq_true', Bool.not_eq_false', beq_iff_eq, beq_eq_false_iff_ne] at h) <;> (first | (exfalso; first | omega | exact h trivial) | (conv => whnf)))
    | (refine CondG.mk (fun h => ?_) (fun h => ?_) <;> (try simp only [decide_eq_true_eq, decide_eq_false_iff_not, Bool.not_eq_true', Bool.not_eq_false', beq_iff_eq, beq_eq_false_iff_ne] at h) <;> (first | (exfalso; first | omega | exact h trivial) | (conv => whnf)))
    | (refine CallX.mk _ _ (by first | exact rIn_pc _ _ _) ?_; conv => whnf)
    | (refine CallG.mk _ _ (by first | exact rIn_pc _ _ _) ?_; conv => whnf)
    | (refine Ask.mk (by first | omega | (unfold roomOK; simp [cutRows]; done) | (unfold roomOK; simp [cutRows]; omega)) ?_; conv => whnf)
    | (refine SliceG.fr ?_; conv => whnf)
    | fail)
  exact finb (by unfold momB; rfl)
set_option maxRecDepth 100000 in
set_option maxHeartbeats 4000000 in
theorem rActFault_pc (x : Ac) : PCp 54 [.agg (encAc x)] [] (.c (.int .i64 (actErr x))) [] := by
  refine fn_sound (mt := mts) tab_fits tab_mixed Tryz.func54 (by rfl) (by kernel_rfl) (by kernel_rfl) Tryz.results54 (Nat.le_of_ble_eq_true (by kernel_rfl)) ?_
  conv => whnf
  repeat' (first
    | (refine Split.mk (fun h => ?_) (fun h => ?_) <;> (try simp only [decide_eq_true_eq, decide_eq_false_iff_not, Bool.not_eq_true', Bool.not_eq_false', beq_iff_eq, beq_eq_false_iff_ne, bne_iff_ne, bne_eq_false_iff_eq] at h) <;> (first | (exfalso; first | omega | exact h trivial) | (conv => whnf)))
    | (refine CondG.mk (fun h => ?_) (fun h => ?_) <;> (try simp only [decide_eq_true_eq, decide_eq_false_iff_not, Bool.not_eq_true', Bool.not_eq_false', beq_iff_eq, beq_eq_false_iff_ne, bne_iff_ne, bne_eq_false_iff_eq] at h) <;> (first | (exfalso; first | omega | exact h trivial) | (conv => whnf)))
    | (refine CallX.mk _ _ (by first | exact rKey_pc _ | exact rMoment_pc _ | exact rIn_pc _ _ _) ?_; conv => whnf)
    | (refine CallG.mk _ _ (by first | exact rKey_pc _ | exact rMoment_pc _ | exact rIn_pc _ _ _) ?_; conv => whnf)
    | (refine Ask.mk (by first | omega | (unfold roomOK; simp [cutRows]; done) | (unfold roomOK; simp [cutRows]; omega) | (simp [cutRows]; done) | (simp [cutRows]; omega)) ?_; conv => whnf)
    | (refine SliceG.fr ?_; conv => whnf)
    | (refine idx_at _ (by with_reducible rfl) (by first | assumption | omega) ?_; conv => whnf)
    | ((with_reducible refine row_map (by first | assumption | omega) ?_); conv => whnf)
    | ((with_reducible refine row_set (by first | assumption | omega | (simp only [List.length_set]; omega) | (simp; omega)) ?_); conv => whnf)
    | fail)
  all_goals refine fini ?_
  all_goals unfold actErr
  all_goals generalize (⟨#[]⟩ : ByteArray).toList = nl at *
  all_goals (try simp only [eqRes] at *)
  all_goals first | (simp_all; done) | (simp_all; omega) | ((repeat' split) <;> first | rfl | (exfalso; first | omega | (simp_all; done) | (simp_all; omega)))
theorem cmpB_swap : ∀ a b : List UInt8, Lib.compareBytes a b = - Lib.compareBytes b a
  | [], [] => rfl
  | [], _ :: _ => rfl
  | _ :: _, [] => rfl
  | x :: xs, y :: ys => by
    have ih := cmpB_swap xs ys
    unfold Lib.compareBytes
    repeat' split
    all_goals first
      | rfl
      | exact ih
      | (exfalso; simp_all [UInt8.lt_iff_toNat_lt]; omega)
      | (exfalso; simp_all)
theorem cmpB_zero : ∀ a b : List UInt8, Lib.compareBytes a b = 0 ↔ a = b
  | [], [] => by simp [Lib.compareBytes]
  | [], _ :: _ => by simp [Lib.compareBytes]
  | _ :: _, [] => by simp [Lib.compareBytes]
  | x :: xs, y :: ys => by
    have ih := cmpB_zero xs ys
    unfold Lib.compareBytes
    split
    · rename_i h
      constructor
      · intro e; cases e
      · intro e; cases e; exact absurd h (UInt8.lt_irrefl x)
    · split
      · rename_i h
        constructor
        · intro e; cases e
        · intro e; cases e; exact absurd h (UInt8.lt_irrefl x)
      · rename_i h1 h2
        have hxy : x = y := by
          rw [UInt8.lt_iff_toNat_lt] at h1 h2
          exact UInt8.toNat_inj.1 (by omega)
        rw [ih, hxy]; simp
theorem cmpS_swap (a b : ByteArray) : cmpS a b = - cmpS b a := cmpB_swap ..
theorem cmpS_zero {a b : ByteArray} : cmpS a b = 0 ↔ a = b := by
  unfold cmpS
  rw [cmpB_zero]
  exact ⟨fun h => ByteArray.ext (Array.toList_inj.1 h), fun h => by rw [h]⟩
theorem cmpI_zero {a b : Int} : cmpI a b = 0 ↔ a = b := by unfold cmpI; repeat' split <;> omega
theorem sgn_sub {a b : Int} (ha : -1000000000000 ≤ a ∧ a ≤ 1000000000000) (hb : -1000000000000 ≤ b ∧ b ≤ 1000000000000) : sgn (IntKind.i64.wrap (a - b)) = cmpI a b := by
  rw [wrap_in (by omega) (by omega)]
  unfold sgn cmpI
  repeat' split
  all_goals omega
theorem actErr_in {x : Ac} (h : actErr x = 0) : 0 ≤ x.mo ∧ x.mo ≤ 345686399999 ∧ 1 ≤ x.kd ∧ x.kd ≤ 4 ∧ 0 ≤ x.long ∧ x.long ≤ 200000 ∧ (x.kd ≠ 4 → 1 ≤ x.long) ∧ keyB x.drum = true ∧ (x.kd = 1 → keyB x.ty = true) ∧ (x.kd = 3 → keyB x.of = true) := by
  unfold actErr at h
  split at h
  · cases h
  split at h
  · cases h
  split at h
  · cases h
  split at h
  · cases h
  split at h
  · cases h
  rename_i h1 h2 h3 h4 h5
  have h1 : momB x.mo = true := by simpa using h1
  have h1 := of_decide_eq_true h1
  simp only [Bool.or_eq_true, not_or, Bool.not_eq_true', Bool.not_eq_false, Bool.and_eq_true, beq_iff_eq, not_and] at h3
  refine ⟨h1.1, h1.2, by omega, by omega, by omega, by omega, by omega, h3.1.1, ?_, ?_⟩
  · intro e; simpa using h3.1.2 e
  · intro e; simpa using h3.2 e
/-- both orders are one -/
theorem ord_time {x y : Ac} (hx : actErr x = 0) (hy : actErr y = 0) : ordC y x = timeC y x ∧ timeC y x = - timeC x y := by
  have a := actErr_in hx
  have b := actErr_in hy
  have e1 := sgn_sub (a := y.mo) (b := x.mo) (by omega) (by omega)
  have e2 := sgn_sub (a := y.kd) (b := x.kd) (by omega) (by omega)
  have e3 := sgn_sub (a := y.long) (b := x.long) (by omega) (by omega)
  have w : ∀ p q : Int, cmpI p q = - cmpI q p := by intro p q; unfold cmpI; repeat' split <;> omega
  constructor
  · unfold ordC timeC
    rw [e1, e2, e3]
    simp only [firstErr, cmpI_zero, cmpS_zero]
    have hl : (if y.long = x.long then (0 : Int) else cmpI y.long x.long) = cmpI y.long x.long := by
      split
      · rename_i e; exact (cmpI_zero.2 e).symm
      · rfl
    rw [hl]
    by_cases h1 : y.mo = x.mo
    · rw [if_neg (fun h => h h1), if_pos h1]
      by_cases h2 : y.drum = x.drum
      · rw [if_neg (fun h => h h2), if_pos h2]
        by_cases h3 : y.kd = x.kd
        · rw [if_neg (fun h => h h3), if_pos h3]
          by_cases h4 : y.ty = x.ty
          · rw [if_neg (fun h => h h4), if_pos h4]
            by_cases h5 : y.of = x.of
            · rw [if_neg (fun h => h h5), if_pos h5]
            · rw [if_pos h5, if_neg h5]
          · rw [if_pos h4, if_neg h4]
        · rw [if_pos h3, if_neg h3]
      · rw [if_pos h2, if_neg h2]
    · rw [if_pos h1, if_neg h1]
  · have key : ∀ l : List Int, firstErr (l.map fun z => -z) = - firstErr l := by
      intro l
      induction l with
      | nil => rfl
      | cons a r ih =>
        simp only [List.map_cons, firstErr, ih, Int.neg_eq_zero]
        split <;> rfl
    unfold timeC
    rw [w y.mo x.mo, cmpS_swap y.drum x.drum, w y.kd x.kd, cmpS_swap y.ty x.ty, cmpS_swap y.of x.of, w y.long x.long]
    exact key [cmpI x.mo y.mo, cmpS x.drum y.drum, cmpI x.kd y.kd, cmpS x.ty y.ty, cmpS x.of y.of, cmpI x.long y.long]
set_option maxRecDepth 100000 in
set_option maxHeartbeats 4000000 in
theorem rActs_pc (l : List Ac) : PCp 12 [.c (.lst 6 (l.map encAc))] [] (.c (.int .i64 (actsFault l))) [] := by
  have hlm : (l.map encAc).length = l.length := List.length_map ..
  refine fn_sound (mt := mts) tab_fits tab_mixed Tryz.func12 (by rfl) (by kernel_rfl) (by kernel_rfl) Tryz.results12 (Nat.le_of_ble_eq_true (by kernel_rfl)) ?_
  conv => whnf
  repeat' (first
    | (refine Split.mk (fun h => ?_) (fun h => ?_) <;> (try simp only [decide_eq_true_eq, decide_eq_false_iff_not, Bool.not_eq_true', Bool.not_eq_false', beq_iff_eq, beq_eq_false_iff_ne, bne_iff_ne, bne_eq_false_iff_eq] at h) <;> (first | (exfalso; first | omega | exact h trivial) | (conv => whnf)))
    | (refine CondG.mk (fun h => ?_) (fun h => ?_) <;> (try simp only [decide_eq_true_eq, decide_eq_false_iff_not, Bool.not_eq_true', Bool.not_eq_false', beq_iff_eq, beq_eq_false_iff_ne, bne_iff_ne, bne_eq_false_iff_eq] at h) <;> (first | (exfalso; first | omega | exact h trivial) | (conv => whnf)))
    | (refine Ask.mk (by first | omega | (unfold roomOK; simp [cutRows]; done) | (unfold roomOK; simp [cutRows]; omega) | (simp [cutRows]; done) | (simp [cutRows]; omega)) ?_; conv => whnf)
    | (refine SliceG.fr ?_; conv => whnf)
    | (refine idx_at _ (by with_reducible rfl) (by first | assumption | omega) ?_; conv => whnf)
    | ((with_reducible refine row_map (by first | assumption | omega) ?_); conv => whnf)
    | ((with_reducible refine row_set (by first | assumption | omega | (simp only [List.length_set]; omega) | (simp; omega)) ?_); conv => whnf)
    | fail)
  · exact fini (by rw [actsFault, if_pos (by omega)])
  have hF : actsFault l = actsErr none l := by rw [actsFault, if_neg (by omega)]
  refine loop_count (l.length) [] [0, 9, 10, 11] (fun k (_ : Unit) => ⟨[(0, .c (.lst 6 (l.map encAc))), (9, .c (.lst 6 (l.map encAc))), (10, .c (.int .i64 (l.map encAc).length)), (11, .c (.int .i64 k))], [], 0⟩) (fun k (_ : Unit) => actsErr (prevAt l k) (l.drop k) = actsErr none l ∧ ∀ i (h : i < l.length), i < k → actErr l[i] = 0) (()) ?_ ?_ ?_
  · conv => whnf
    exact ⟨rfl, rfl, by intro i h hi; omega⟩
  · intro k _ hk ⟨hi, hz⟩
    rw [drop_cons hk, actsErr] at hi
    have hp1 : prevAt l (k + 1) = some l[k] := by simp [prevAt, hk]
    have hz1 : actErr l[k] = 0 → ∀ i (h : i < l.length), i < k + 1 → actErr l[i] = 0 := by
      intro h0 i h hik
      rcases Nat.lt_or_ge i k with h3 | h3
      · exact hz i h h3
      · have : i = k := by omega
        subst this; exact h0
    conv => whnf
    repeat' (first
      | (refine Split.mk (fun h => ?_) (fun h => ?_) <;> (try simp only [decide_eq_true_eq, decide_eq_false_iff_not, Bool.not_eq_true', Bool.not_eq_false', beq_iff_eq, beq_eq_false_iff_ne, bne_iff_ne, bne_eq_false_iff_eq] at h) <;> (first | (exfalso; first | omega | exact h trivial) | (conv => whnf)))
      | (refine CondG.mk (fun h => ?_) (fun h => ?_) <;> (try simp only [decide_eq_true_eq, decide_eq_false_iff_not, Bool.not_eq_true', Bool.not_eq_false', beq_iff_eq, beq_eq_false_iff_ne, bne_iff_ne, bne_eq_false_iff_eq] at h) <;> (first | (exfalso; first | omega | exact h trivial) | (conv => whnf)))
      | (refine CallX.mk _ _ (by first | exact rActFault_pc _) ?_; conv => whnf)
      | (refine CallG.mk _ _ (by first | exact rActFault_pc _) ?_; conv => whnf)
      | (refine Ask.mk (by first | omega | (unfold roomOK; simp [cutRows]; done) | (unfold roomOK; simp [cutRows]; omega) | (simp [cutRows]; done) | (simp [cutRows]; omega)) ?_; conv => whnf)
      | (refine SliceG.fr ?_; conv => whnf)
      | (refine idx_at _ (by with_reducible rfl) (by first | assumption | omega) ?_; conv => whnf)
      | ((with_reducible refine row_map (by first | assumption | omega) ?_); conv => whnf)
      | ((with_reducible refine row_set (by first | assumption | omega | (simp only [List.length_set]; omega) | (simp; omega)) ?_); conv => whnf)
      | fail)
    · rw [if_pos h] at hi
      exact fini (by rw [hF, ← hi])
    · rename_i h0
      rw [if_neg (by simpa using h0)] at hi
      have h0 : actErr l[k] = 0 := by simpa using h0
      have hk1 : IntKind.i64.wrap ((k : Int) - 1) = ((k - 1 : Nat) : Int) := by rw [wrap_in (by omega) (by omega)]; omega
      have hp : prevAt l k = some (l[k - 1]'(by omega)) := by rw [prevAt, if_neg (by omega)]; exact List.getElem?_eq_getElem (by omega)
      rw [hp] at hi
      have ho := ord_time (x := l[k]) (y := l[k - 1]'(by omega)) h0 (hz (k - 1) (by omega) (by omega))
      refine idx_map (k - 1) (by omega) hk1 ?_
      conv => whnf
      repeat' (first
        | (refine Split.mk (fun h => ?_) (fun h => ?_) <;> (try simp only [decide_eq_true_eq, decide_eq_false_iff_not, Bool.not_eq_true', Bool.not_eq_false', beq_iff_eq, beq_eq_false_iff_ne, bne_iff_ne, bne_eq_false_iff_eq] at h) <;> (first | (exfalso; first | omega | exact h trivial) | (conv => whnf)))
        | (refine CondG.mk (fun h => ?_) (fun h => ?_) <;> (try simp only [decide_eq_true_eq, decide_eq_false_iff_not, Bool.not_eq_true', Bool.not_eq_false', beq_iff_eq, beq_eq_false_iff_ne, bne_iff_ne, bne_eq_false_iff_eq] at h) <;> (first | (exfalso; first | omega | exact h trivial) | (conv => whnf)))
        | (refine CallX.mk _ _ (by first | exact actOrder_pc _ _) ?_; conv => whnf)
        | (refine CallG.mk _ _ (by first | exact actOrder_pc _ _) ?_; conv => whnf)
        | (refine Ask.mk (by first | omega | (unfold roomOK; simp [cutRows]; done) | (unfold roomOK; simp [cutRows]; omega) | (simp [cutRows]; done) | (simp [cutRows]; omega)) ?_; conv => whnf)
        | (refine SliceG.fr ?_; conv => whnf)
        | (refine idx_at _ (by with_reducible rfl) (by first | assumption | omega) ?_; conv => whnf)
        | ((with_reducible refine row_map (by first | assumption | omega) ?_); conv => whnf)
        | ((with_reducible refine row_set (by first | assumption | omega | (simp only [List.length_set]; omega) | (simp; omega)) ?_); conv => whnf)
        | fail)
      · rw [if_pos (by simp only [badPrev, decide_eq_true_eq]; omega)] at hi
        exact fini (by rw [hF, ← hi])
      · rw [if_neg (by simp only [badPrev, decide_eq_true_eq]; omega)] at hi
        refine count_next () hk (by rw [wrap_succ hk (by omega)]; rfl) ?_
        exact ⟨by rw [hp1]; exact hi, hz1 h0⟩
    · have h0 : k = 0 := by omega
      have h1 : actErr l[k] = 0 := by simp_all
      subst h0
      rw [if_neg (by simp [h1]), if_neg (by simp [badPrev, prevAt])] at hi
      refine count_next () hk (by rw [wrap_succ hk (by omega)]; rfl) ?_
      exact ⟨by rw [hp1]; exact hi, hz1 h1⟩
  · intro _ ⟨hi, _⟩
    rw [List.drop_of_length_le (Nat.le_refl _)] at hi
    conv => whnf
    repeat' (first
      | (refine Split.mk (fun h => ?_) (fun h => ?_) <;> (try simp only [decide_eq_true_eq, decide_eq_false_iff_not, Bool.not_eq_true', Bool.not_eq_false', beq_iff_eq, beq_eq_false_iff_ne] at h) <;> (first | (exfalso; first | omega | exact h trivial) | (conv => whnf)))
      | (refine CondG.mk (fun h => ?_) (fun h => ?_) <;> (try simp only [decide_eq_true_eq, decide_eq_false_iff_not, Bool.not_eq_true', Bool.not_eq_false', beq_iff_eq, beq_eq_false_iff_ne] at h) <;> (first | (exfalso; first | omega | exact h trivial) | (conv => whnf)))
      | (refine Ask.mk (by first | omega | (unfold roomOK; simp [cutRows]; done) | (unfold roomOK; simp [cutRows]; omega)) ?_; conv => whnf)
      | (refine SliceG.fr ?_; conv => whnf)
      | fail)
    exact fini (by rw [hF, ← hi]; rfl)
end Go.Proofs.YtmdcgimpgoacdaaGreatDoor

/- The two stores are one. -/
namespace Go.Proofs.YtmdcgimpgoacdaaGreatDoor
set_option linter.unusedVariables false
set_option linter.unusedSimpArgs false
open Abs

section
variable {κ β : Type} [DecidableEq κ]
theorem get_of_mem {s : SM κ β} (h : s.ok) {e : Nat × κ × β} (he : e ∈ s.es) : s.get e.2.1 = some e.2.2 := by
  have hk := h.kn
  unfold SM.get SM.m at *
  generalize s.es = es at he hk
  clear h
  induction es with
  | nil => cases he
  | cons a r ih =>
    simp only [List.map_cons, List.nodup_cons] at hk
    rcases List.mem_cons.1 he with rfl | he
    · simp [mget]
    · have hne : ¬ a.2.1 = e.2.1 := by
        intro h2
        exact hk.1 (by rw [h2]; exact List.mem_map.2 ⟨e.2, List.mem_map.2 ⟨e, he, rfl⟩, rfl⟩)
      have := ih he hk.2
      simpa [mget, List.find?_cons, hne] using this
theorem mem_of_get {s : SM κ β} {x : κ} {y : β} (h : s.get x = some y) : ∃ n, (n, x, y) ∈ s.es := by
  unfold SM.get SM.m at h
  generalize s.es = es at h
  induction es with
  | nil => simp [mget] at h
  | cons a r ih =>
    by_cases hx : a.2.1 = x
    · have hy : a.2.2 = y := by simpa [mget, List.find?_cons, hx] using h
      exact ⟨a.1, by rw [← hx, ← hy]; simp⟩
    · obtain ⟨n, hn⟩ := ih (by simpa [mget, List.find?_cons, hx] using h)
      exact ⟨n, by simp [hn]⟩
end
/-- what the program's store has, by the document's -/
def seen (r : Rto) (d : ByteArray) : Option (ByteArray × Int) := if 0 < (r.l.get d).getD 0 then some ((r.k.get d).getD bE, (r.l.get d).getD 0) else none
structure Rel (s : Sto) (r : Rto) : Prop where
  k : ∀ d, s.k.get d = r.k.get d
  d : ∀ d, s.d.get d = seen r d
  n : ∀ d, 0 ≤ (r.l.get d).getD 0 ∧ (r.l.get d).getD 0 ≤ 200000
  h : ∀ d, 0 < (r.l.get d).getD 0 → (r.k.get d).isSome = true
theorem rel_nil : Rel stoNil rtoNil := ⟨fun _ => rfl, fun _ => rfl, fun _ => ⟨by show (0 : Int) ≤ 0; decide, by show (0 : Int) ≤ 200000; decide⟩, fun d h => by have : (0 : Int) < 0 := h; omega⟩
theorem rel_step {s : Sto} {r : Rto} (hs : s.ok) (h : Rel s r) {x : Ac} (hx : actErr x = 0) :
    Rel (takeS s x).1 (doR r x).1 ∧ (takeS s x).2.2 = (doR r x).2.2 ∧ ((doR r x).2.2 = 0 → (takeS s x).2.1 = ((doR r x).1.k.get x.drum).getD bE ∧ (doR r x).2.1 = if x.kd = 2 then x.long else if x.kd = 3 then - x.long else 0) := by
  have a := actErr_in hx
  have hk := h.k x.drum
  have ho := h.k x.of
  have hd := h.d x.drum
  have hn := h.n x.drum
  have hh := h.h x.drum
  have hwn : IntKind.i64.wrap (0 - x.long) = - x.long := by rw [wrap_in (by omega) (by omega)]; omega
  have hput : ∀ (t : ByteArray) (n : Int), 0 < n → n ≤ 200000 → Rel ⟨s.d.put x.drum (t, n), s.k.put x.drum t⟩ ⟨r.l.put x.drum n, r.k.put x.drum t⟩ := by
    intro t n h1 h2
    refine ⟨fun d => ?_, fun d => ?_, fun d => ?_, fun d => ?_⟩
    · rw [SM.get_put, SM.get_put, h.k d]
    · simp only [seen, SM.get_put]
      split
      · simp [h1]
      · rw [h.d d]; rfl
    · simp only [SM.get_put]
      split
      · simp; omega
      · exact h.n d
    · simp only [SM.get_put]
      split
      · simp
      · exact h.h d
  by_cases k1 : x.kd = 1
  · have hne : takeS s x = if (s.k.get x.drum).isSome then (s, bE, 6) else (⟨s.d.put x.drum (x.ty, x.long), s.k.put x.drum x.ty⟩, x.ty, 0) := by
      unfold takeS; rw [if_pos (.inl k1)]; simp only [k1, if_true]
    have hre : doR r x = if (r.k.get x.drum).isSome then (r, 0, 6) else (⟨r.l.put x.drum x.long, r.k.put x.drum x.ty⟩, 0, 0) := by
      unfold doR; rw [if_pos k1]
    rw [hne, hre, hk]
    split
    · exact ⟨h, rfl, fun e => by cases e⟩
    · exact ⟨hput _ _ (by omega) (by omega), rfl, fun _ => ⟨by simp [SM.get_put], by simp [k1]⟩⟩
  by_cases k3 : x.kd = 3
  · have hne : takeS s x = if (s.k.get x.drum).isSome then (s, bE, 6) else if (s.k.get x.of).isSome then (⟨s.d.put x.drum ((s.k.get x.of).getD bE, x.long), s.k.put x.drum ((s.k.get x.of).getD bE)⟩, (s.k.get x.of).getD bE, 0) else (s, bE, 8) := by
      unfold takeS; rw [if_pos (.inr k3)]; simp only [k1, if_false]
    have hre : doR r x = if (r.k.get x.drum).isSome then (r, 0, 6) else if (r.k.get x.of).isSome then (⟨r.l.put x.drum x.long, r.k.put x.drum ((r.k.get x.of).getD bE)⟩, IntKind.i64.wrap (0 - x.long), 0) else (r, 0, 8) := by
      unfold doR; rw [if_neg k1, if_neg (by omega), if_pos k3]
    rw [hne, hre, hk, ho]
    split
    · exact ⟨h, rfl, fun e => by cases e⟩
    · split
      · exact ⟨hput _ _ (by omega) (by omega), rfl, fun _ => ⟨by simp [SM.get_put], by rw [hwn]; simp [k3]⟩⟩
      · exact ⟨h, rfl, fun e => by cases e⟩
  have hin : (s.d.get x.drum).isSome = decide (0 < (r.l.get x.drum).getD 0) := by
    rw [hd]; unfold seen; split <;> simp_all
  have hne : takeS s x = if (s.d.get x.drum).isSome then (if x.kd = 2 ∧ ((s.d.get x.drum).getD (bE, 0)).2 < x.long then (s, bE, 12)
    else if x.kd = 4 ∨ IntKind.i64.wrap (((s.d.get x.drum).getD (bE, 0)).2 - x.long) = 0 then (⟨s.d.del x.drum, s.k⟩, ((s.d.get x.drum).getD (bE, 0)).1, 0)
    else (⟨s.d.put x.drum (((s.d.get x.drum).getD (bE, 0)).1, IntKind.i64.wrap (((s.d.get x.drum).getD (bE, 0)).2 - x.long)), s.k⟩, ((s.d.get x.drum).getD (bE, 0)).1, 0)) else (s, bE, 8) := by
    unfold takeS; rw [if_neg (by omega)]
  rw [hne, hin]
  by_cases h0 : 0 < (r.l.get x.drum).getD 0
  · have hv : (s.d.get x.drum).getD (bE, 0) = ((r.k.get x.drum).getD bE, (r.l.get x.drum).getD 0) := by rw [hd, seen, if_pos h0]; rfl
    rw [hv]
    generalize hg : (r.l.get x.drum).getD 0 = n at *
    have hw : IntKind.i64.wrap (n - x.long) = n - x.long := wrap_in (by omega) (by omega)
    simp only [h0, decide_true, if_true, hw]
    -- what is left of a drum
    have hres : ∀ m : Int, 0 ≤ m → m ≤ 200000 → Rel ⟨if m = 0 then s.d.del x.drum else s.d.put x.drum ((r.k.get x.drum).getD bE, m), s.k⟩ ⟨r.l.put x.drum m, r.k⟩ := by
      intro m m0 m1
      refine ⟨fun d => h.k d, fun d => ?_, fun d => ?_, fun d => ?_⟩
      · simp only [seen, SM.get_put]
        split
        · rename_i e
          rw [SM.get_del hs.d]
          by_cases hxd : x.drum = d
          · simp [hxd, e]
          · simp only [if_neg hxd]; rw [h.d d]; rfl
        · rename_i e
          rw [SM.get_put]
          by_cases hxd : x.drum = d
          · subst hxd; simp; omega
          · simp only [if_neg hxd]; rw [h.d d]; rfl
      · simp only [SM.get_put]
        split
        · simp; omega
        · exact h.n d
      · simp only [SM.get_put]
        split
        · rename_i e; intro _; rw [← e]; exact hh h0
        · exact h.h d
    by_cases k2 : x.kd = 2
    · have hre : doR r x = if n < x.long then (r, 0, 12) else (⟨r.l.put x.drum (n - x.long), r.k⟩, x.long, 0) := by
        unfold doR; rw [if_neg k1, if_pos k2, hg, if_neg (by omega), hw]
      rw [hre]
      by_cases hlt : n < x.long
      · rw [if_pos ⟨k2, hlt⟩, if_pos hlt]; exact ⟨h, rfl, fun e => by cases e⟩
      · rw [if_neg (fun e => hlt e.2), if_neg hlt]
        have hr := hres (n - x.long) (by omega) (by omega)
        by_cases hz : n - x.long = 0
        · rw [if_pos (.inr hz)]; rw [if_pos hz] at hr; exact ⟨hr, rfl, fun _ => ⟨rfl, by simp [k2]⟩⟩
        · rw [if_neg (by omega)]; rw [if_neg hz] at hr; exact ⟨hr, rfl, fun _ => ⟨rfl, by simp [k2]⟩⟩
    · have k4 : x.kd = 4 := by omega
      have hre : doR r x = (⟨r.l.put x.drum 0, r.k⟩, 0, 0) := by
        unfold doR; rw [if_neg k1, if_neg k2, if_neg k3, hg, if_neg (by omega)]
      rw [hre, if_neg (fun e => k2 e.1), if_pos (.inl k4)]
      have hr := hres 0 (by omega) (by omega)
      rw [if_pos rfl] at hr
      exact ⟨hr, rfl, fun _ => ⟨rfl, by simp [k4]⟩⟩
  · have hz : (r.l.get x.drum).getD 0 = 0 := by omega
    have hre : doR r x = (r, 0, 8) := by
      unfold doR; rw [if_neg k1]
      by_cases k2 : x.kd = 2
      · rw [if_pos k2, if_pos hz]
      · rw [if_neg k2, if_neg k3, if_pos hz]
    rw [hre]
    rw [show decide (0 < (r.l.get x.drum).getD 0) = false from decide_eq_false h0]
    exact ⟨h, rfl, fun e => by cases e⟩
theorem actsErr_all : ∀ (l : List Ac) (p : Option Ac), actsErr p l = 0 → ∀ x ∈ l, actErr x = 0
  | [], _, _, x, hx => by cases hx
  | y :: r, p, h, x, hx => by
    unfold actsErr at h
    split at h
    · rename_i h1; exact absurd h h1
    · split at h
      · cases h
      · rename_i h1 h2
        rcases List.mem_cons.1 hx with rfl | hx
        · simpa using h1
        · exact actsErr_all r _ h x hx
theorem actsFault_all {l : List Ac} (h : actsFault l = 0) : l.length ≤ 2000 ∧ ∀ x ∈ l, actErr x = 0 := by
  unfold actsFault at h
  split at h
  · cases h
  · exact ⟨by omega, actsErr_all l _ h⟩
theorem rel_at {l : List Ac} (h : actsFault l = 0) : ∀ k, k ≤ l.length → Rel (stoAt l k) (rtoAt l k)
  | 0, _ => rel_nil
  | k + 1, hk => by
    have hg : l.getD k acD = l[k]'(by omega) := by simp [show k < l.length by omega]
    have := (rel_step (stoAt_ok l k) (rel_at h k (by omega)) ((actsFault_all h).2 _ (List.getElem_mem (show k < l.length by omega)))).1
    rw [stoAt, rtoAt, hg]
    exact this
/-- what was used: both say the same -/
theorem used_eq {l : List Ac} (h : actsFault l = 0) (kind : ByteArray) (w : Wi) : ∀ k, k ≤ l.length → usedAt l kind w k = usedR l kind w k ∧ -200000 * (k : Int) ≤ usedR l kind w k ∧ usedR l kind w k ≤ 200000 * k
  | 0, _ => ⟨rfl, by simp [usedR], by simp [usedR]⟩
  | k + 1, hk => by
    obtain ⟨ih, b1, b2⟩ := used_eq h kind w k (by omega)
    have hkl : k < l.length := by omega
    have h2000 := (actsFault_all h).1
    have hg : l.getD k acD = l[k] := by simp [hkl]
    have hx := (actsFault_all h).2 _ (List.getElem_mem hkl)
    have ha := actErr_in hx
    obtain ⟨s1, s2, s3⟩ := rel_step (stoAt_ok l k) (rel_at h k (by omega)) hx
    have hr1 : rtoAt l (k + 1) = (doR (rtoAt l k) l[k]).1 := by rw [rtoAt, hg]
    have hw1 : IntKind.i64.wrap (usedR l kind w k + l[k].long) = usedR l kind w k + l[k].long := wrap_in (by omega) (by omega)
    have hw2 : IntKind.i64.wrap (usedR l kind w k - l[k].long) = usedR l kind w k - l[k].long := wrap_in (by omega) (by omega)
    have hw3 : IntKind.i64.wrap (usedR l kind w k + - l[k].long) = usedR l kind w k - l[k].long := by rw [wrap_in (by omega) (by omega)]; omega
    have hw0 : IntKind.i64.wrap (usedR l kind w k + 0) = usedR l kind w k := by rw [wrap_in (by omega) (by omega)]; omega
    rw [usedAt, usedR, hg, ih, hr1, s2]
    unfold usedStep
    by_cases he : (doR (rtoAt l k) l[k]).2.2 = 0
    · obtain ⟨t1, t2⟩ := s3 he
      rw [t1, t2, he]
      by_cases hkd : ((doR (rtoAt l k) l[k]).1.k.get l[k].drum).getD bE = kind
      · by_cases hw : w.1 ≤ l[k].mo ∧ l[k].mo < w.2
        · have hc1 : ¬ ((0 : Int) ≠ 0 ∨ ((doR (rtoAt l k) l[k]).1.k.get l[k].drum).getD bE ≠ kind ∨ inW w l[k].mo = false) := by simp [hkd, inW, hw]
          have hc2 : (0 : Int) = 0 ∧ ((doR (rtoAt l k) l[k]).1.k.get l[k].drum).getD bE = kind ∧ w.1 ≤ l[k].mo ∧ l[k].mo < w.2 := ⟨rfl, hkd, hw⟩
          rw [if_neg hc1, if_pos hc2]
          by_cases k2 : l[k].kd = 2
          · simp only [if_pos k2, hw1, true_and]; omega
          · by_cases k3 : l[k].kd = 3
            · simp only [if_neg k2, if_pos k3, hw2, hw3, true_and]; omega
            · simp only [if_neg k2, if_neg k3, hw0, true_and]; omega
        · have hc2 : ¬ ((0 : Int) = 0 ∧ ((doR (rtoAt l k) l[k]).1.k.get l[k].drum).getD bE = kind ∧ w.1 ≤ l[k].mo ∧ l[k].mo < w.2) := fun e => hw e.2.2
          rw [if_pos (by right; right; simpa [inW] using hw), if_neg hc2]
          exact ⟨rfl, by omega, by omega⟩
      · have hc2 : ¬ ((0 : Int) = 0 ∧ ((doR (rtoAt l k) l[k]).1.k.get l[k].drum).getD bE = kind ∧ w.1 ≤ l[k].mo ∧ l[k].mo < w.2) := fun e => hkd e.2.1
        rw [if_pos (.inr (.inl hkd)), if_neg hc2]
        exact ⟨rfl, by omega, by omega⟩
    · rw [if_pos (.inl he), if_neg (fun e => he e.1)]
      exact ⟨rfl, by omega, by omega⟩
end Go.Proofs.YtmdcgimpgoacdaaGreatDoor

/- Sums over both stores. -/
namespace Go.Proofs.YtmdcgimpgoacdaaGreatDoor
set_option linter.unusedVariables false
set_option linter.unusedSimpArgs false
open Abs

def dPc (e : DE) : Pc := ⟨e.2.1, e.2.2.1, e.2.2.2⟩
theorem sumK_P (kind : ByteArray) : ∀ l : List DE, sumK kind l = sumP kind (l.map dPc)
  | [] => rfl
  | e :: r => by simp only [sumK, List.map_cons, sumP, sumK_P kind r, dPc]; omega
theorem keys_nd {α : Type} [DecidableEq α] {β : Type} {s : SM α β} (h : s.ok) : (s.es.map (·.2.1)).Nodup := by
  have := h.kn
  rw [SM.m, List.map_map] at this
  exact this
theorem sto_perm {s : Sto} {r : Rto} (hs : s.ok) (hr : r.ok) (h : Rel s r) : (s.d.es.map dPc).Perm (stL r r.l.es) := by
  have n1 : (s.d.es.map dPc).Nodup := by
    refine nodup_of_map (f := Pc.key) ?_
    rw [List.map_map]
    exact keys_nd hs.d
  have n2 : (stL r r.l.es).Nodup := by
    refine nodup_of_map (f := Pc.key) ?_
    unfold stL
    rw [List.map_map]
    exact ((List.filter_sublist).map _).nodup (keys_nd hr.l)
  refine perm_of_nodup n1 n2 fun p => ?_
  have e1 : p ∈ s.d.es.map dPc ↔ s.d.get p.key = some (p.kind, p.long) := by
    constructor
    · intro hp
      obtain ⟨e, he, rfl⟩ := List.mem_map.1 hp
      exact get_of_mem hs.d he
    · intro hp
      obtain ⟨n, hn⟩ := mem_of_get hp
      exact List.mem_map.2 ⟨_, hn, rfl⟩
  have e2 : p ∈ stL r r.l.es ↔ seen r p.key = some (p.kind, p.long) := by
    unfold stL seen
    constructor
    · intro hp
      obtain ⟨e, he, rfl⟩ := List.mem_map.1 hp
      obtain ⟨he1, he2⟩ := List.mem_filter.1 he
      have hg := get_of_mem hr.l he1
      have he2 : 0 < e.2.2 := by simpa using he2
      show (if 0 < (r.l.get e.2.1).getD 0 then some ((r.k.get e.2.1).getD bE, (r.l.get e.2.1).getD 0) else none) = _
      rw [hg]
      simp only [Option.getD_some, if_pos he2]
      rfl
    · intro hp
      split at hp
      · rename_i h0
        cases hg : r.l.get p.key with
        | none => rw [hg] at h0; simp at h0
        | some n =>
          rw [hg] at hp h0
          simp only [Option.getD_some, Option.some.injEq, Prod.mk.injEq] at hp h0
          obtain ⟨m, hm⟩ := mem_of_get hg
          refine List.mem_map.2 ⟨_, List.mem_filter.2 ⟨hm, by simpa using h0⟩, ?_⟩
          obtain ⟨a, b, c⟩ := p
          simp only at hp
          simp only [stE, Pc.mk.injEq, true_and]
          exact hp
      · cases hp
  rw [e1, e2, h.d]
theorem sum_eq {s : Sto} {r : Rto} (hs : s.ok) (hr : r.ok) (h : Rel s r) (kind : ByteArray) : sumK kind s.d.es = sumP kind (stL r r.l.es) := by
  rw [sumK_P]; exact sumP_perm kind (sto_perm hs hr h)
theorem eput_len {κ β : Type} [DecidableEq κ] (c : Nat) : ∀ (es : List (Nat × κ × β)) (x : κ) (y : β), (eput c es x y).length ≤ es.length + 1
  | [], _, _ => by simp [eput]
  | e :: r, x, y => by
    unfold eput
    split
    · simp
    · have := eput_len c r x y; simp; omega
theorem rto_len (l : List Ac) : ∀ k, (rtoAt l k).l.es.length ≤ k
  | 0 => Nat.le_refl _
  | k + 1 => by
    have ih := rto_len l k
    rw [rtoAt]
    unfold doR
    repeat' split
    all_goals first
      | (simp only; omega)
      | (have := fun y => eput_len (rtoAt l k).l.clock (rtoAt l k).l.es (l.getD k acD).drum y
         exact Nat.le_trans (this _) (by omega))
theorem rto_names {names : List ByteArray} {l : List Ac} (hn : ∀ x ∈ l, x.drum ∈ names) : ∀ k, k ≤ l.length → ∀ e ∈ (rtoAt l k).l.es, e.2.1 ∈ names
  | 0, _ => by intro e he; cases he
  | k + 1, hk => by
    have ih := rto_names hn k (by omega)
    have hkl : k < l.length := by omega
    have hg : l.getD k acD = l[k] := by simp [hkl]
    have hp : ∀ y, ∀ e ∈ ((rtoAt l k).l.put l[k].drum y).es, e.2.1 ∈ names := by
      intro y e he
      rcases eput_mem he with h | h
      · exact ih e h
      · rw [h]; exact hn _ (List.getElem_mem hkl)
    rw [rtoAt, hg]
    unfold doR
    repeat' split
    all_goals first | exact ih | exact hp _
theorem longR_at {names : List ByteArray} (h12 : names.length ≤ 12) {l : List Ac} (hn : ∀ x ∈ l, x.drum ∈ names) (hf : actsFault l = 0) (k : Nat) (hk : k ≤ l.length) : LongR (rtoAt l k) := by
  refine ⟨fun e he => ?_, ?_⟩
  · have h1 := (rel_at hf k hk).n e.2.1
    rw [get_of_mem (rtoAt_ok l k).l he] at h1
    exact h1
  · have h1 := nodup_sub_len (keys_nd (rtoAt_ok l k).l) (m := names) (by
      intro x hx
      obtain ⟨e, he, rfl⟩ := List.mem_map.1 hx
      exact rto_names hn k hk e he)
    rw [List.length_map] at h1
    omega
theorem longOk_at {l : List Ac} (hf : actsFault l = 0) (k : Nat) (hk : k ≤ l.length) : LongOk (stoAt l k) := by
  have hr := rel_at hf k hk
  refine ⟨fun e he => ?_, ?_⟩
  · have h1 := get_of_mem (stoAt_ok l k).d he
    rw [hr.d] at h1
    unfold seen at h1
    split at h1
    · rename_i h0
      have h2 := hr.n e.2.1
      simp only [Option.some.injEq] at h1
      rw [← h1]
      exact ⟨h0, h2.2⟩
    · cases h1
  · have h1 := (sto_perm (stoAt_ok l k) (rtoAt_ok l k) hr).length_eq
    have h2 := stL_len (rtoAt l k) (rtoAt l k).l.es
    have h3 := rto_len l k
    have h4 := (actsFault_all hf).1
    rw [List.length_map] at h1
    omega
end Go.Proofs.YtmdcgimpgoacdaaGreatDoor

/- The least stock: both say the same. -/
namespace Go.Proofs.YtmdcgimpgoacdaaGreatDoor
set_option linter.unusedVariables false
set_option linter.unusedSimpArgs false
open Abs

abbrev moN (l : List Ac) (k : Nat) : Int := (l.getD k acD).mo
theorem moN_at {l : List Ac} {k : Nat} (h : k < l.length) : moN l k = l[k].mo := by simp [moN, h]
theorem acts_adj : ∀ (l : List Ac) (p : Option Ac), actsErr p l = 0 → ∀ k (h : k + 1 < l.length), l[k].mo ≤ l[k + 1].mo
  | [], _, _, k, h => by simp at h
  | [a], _, _, k, h => by simp at h
  | a :: b :: r, p, he, k, h => by
    unfold actsErr at he
    split at he
    · rename_i h1; exact absurd he h1
    · split at he
      · cases he
      · cases k with
        | zero =>
          unfold actsErr at he
          split at he
          · rename_i h1; exact absurd he h1
          · split at he
            · cases he
            · rename_i h2
              simp only [badPrev, decide_eq_true_eq] at h2
              show a.mo ≤ b.mo
              rcases Int.lt_or_le b.mo a.mo with h3 | h3
              · exfalso
                apply h2
                have h4 : cmpI b.mo a.mo = -1 := by unfold cmpI; rw [if_pos h3]
                unfold timeC firstErr
                rw [h4, if_neg (by decide)]; decide
              · exact h3
        | succ k => exact acts_adj (b :: r) _ he k (by simpa using h)
theorem acts_sorted {l : List Ac} (hf : actsFault l = 0) (i : Nat) : ∀ j, i ≤ j → j < l.length → moN l i ≤ moN l j := by
  have ha : actsErr none l = 0 := by
    have := hf; unfold actsFault at this; split at this
    · cases this
    · exact this
  intro j
  induction j with
  | zero => intro h1 h2; have : i = 0 := by omega
            subst this; exact Int.le_refl _
  | succ j ih =>
    intro h1 h2
    rcases Nat.lt_or_ge i (j + 1) with h3 | h3
    · have h4 := acts_adj l none ha j h2
      have h5 := ih (by omega) (by omega)
      rw [moN_at (show j < l.length by omega)] at h5
      rw [moN_at h2]; omega
    · have : i = j + 1 := by omega
      subst this; exact Int.le_refl _
theorem cnt_iff {l : List Ac} (hf : actsFault l = 0) {k : Nat} (hk : k < l.length) (t : Int) : moN l k ≤ t ↔ k < cntAt l t := by
  constructor
  · intro h
    rcases Nat.lt_or_ge k (cntAt l t) with h1 | h1
    · exact h1
    · exfalso
      have h2 : cntAt l t < l.length := by omega
      have h3 := cntAt_out h2
      have h4 := acts_sorted hf (cntAt l t) k h1 hk
      rw [moN_at h2] at h4
      omega
  · intro h
    rw [moN_at hk]; exact cntAt_in h
abbrev totT (l : List Ac) (kind : ByteArray) (k : Nat) : Int := sumK kind (stoAt l k).d.es
theorem ofR_eq {l : List Ac} (hf : actsFault l = 0) (kind : ByteArray) (t : Int) : ofR l kind t = totT l kind (cntAt l t) :=
  (sum_eq (stoAt_ok l _) (rtoAt_ok l _) (rel_at hf _ (cntAt_le l t)) kind).symm
theorem sumK_put {kind : ByteArray} {c : Nat} {x t : ByteArray} {n : Int} : ∀ {es : List DE}, (∀ e ∈ es, e.2.1 = x → e.2.2.1 ≠ kind) → t ≠ kind → sumK kind (eput c es x (t, n)) = sumK kind es
  | [], _, ht => by simp [eput, sumK, ht]
  | e :: r, h, ht => by
    unfold eput
    split
    · rename_i hx
      simp only [sumK, if_neg ht, if_neg (h e (by simp) hx)]
    · have ih := sumK_put (c := c) (n := n) (es := r) (fun e he => h e (List.mem_cons_of_mem _ he)) ht
      simp only [sumK, ih]
theorem sumK_del {kind : ByteArray} {x : ByteArray} : ∀ {es : List DE}, (∀ e ∈ es, e.2.1 = x → e.2.2.1 ≠ kind) → sumK kind (edel es x) = sumK kind es
  | [], _ => rfl
  | e :: r, h => by
    unfold edel
    split
    · rename_i hx
      simp only [sumK, if_neg (h e (by simp) hx)]; omega
    · have ih := sumK_del (es := r) (fun e he => h e (List.mem_cons_of_mem _ he))
      simp only [sumK, ih]
/-- an act of another type changes nothing of this one -/
theorem tot_other {s : Sto} {r : Rto} (hs : s.ok) (h : Rel s r) (kind : ByteArray) (x : Ac) (hne : ¬ ((takeS s x).2.2 = 0 ∧ (takeS s x).2.1 = kind)) : sumK kind (takeS s x).1.d.es = sumK kind s.d.es := by
  have hnone : (s.k.get x.drum).isSome = false → ∀ e ∈ s.d.es, e.2.1 = x.drum → e.2.2.1 ≠ kind := by
    intro h1 e he hx
    exfalso
    have h2 := get_of_mem hs.d he
    rw [hx, h.d] at h2
    unfold seen at h2
    split at h2
    · rename_i h3
      have := h.h _ h3
      rw [h.k] at h1
      rw [this] at h1; cases h1
    · cases h2
  have hthis : ((s.d.get x.drum).getD (bE, 0)).1 ≠ kind → ∀ e ∈ s.d.es, e.2.1 = x.drum → e.2.2.1 ≠ kind := by
    intro h1 e he hx
    have h2 := get_of_mem hs.d he
    rw [hx] at h2
    rw [h2] at h1
    exact h1
  revert hne
  unfold takeS
  split
  · split
    · intro _; rfl
    · rename_i h1
      have h1 : (s.k.get x.drum).isSome = false := by simpa using h1
      split
      · intro hne; exact sumK_put (hnone h1) (fun e => hne ⟨rfl, e⟩)
      · split
        · intro hne; exact sumK_put (hnone h1) (fun e => hne ⟨rfl, e⟩)
        · intro _; rfl
  · split
    · split
      · intro _; rfl
      · split
        · intro hne; exact sumK_del (hthis (fun e => hne ⟨rfl, e⟩))
        · intro hne; exact sumK_put (hthis (fun e => hne ⟨rfl, e⟩)) (fun e => hne ⟨rfl, e⟩)
    · intro _; rfl
theorem minI_idem (a b : Int) : minI (minI a b) b = minI a b := by unfold minI; repeat' split <;> omega
/-- is the k-th act the last one of its moment? -/
abbrev lastM (l : List Ac) (k : Nat) : Prop := (k : Int) = (l.length : Int) - 1 ∨ moN l k < moN l (k + 1)
theorem last_cnt {l : List Ac} (hf : actsFault l = 0) {k : Nat} (hk : k < l.length) (h : lastM l k) : cntAt l (moN l k) = k + 1 := by
  have h1 := (cnt_iff hf hk (moN l k)).1 (Int.le_refl _)
  have h2 := cntAt_le l (moN l k)
  rcases Nat.lt_or_ge (k + 1) l.length with h3 | h3
  · have h4 := cnt_iff hf h3 (moN l k)
    rcases h with h | h
    · omega
    · have : ¬ k + 1 < cntAt l (moN l k) := fun e => by have := h4.2 e; omega
      omega
  · omega
/-- what both have behind some acts -/
theorem low_inv {l : List Ac} (hf : actsFault l = 0) (kind : ByteArray) (w : Wi) (hw : w.1 < w.2) : ∀ k, k ≤ l.length →
    (lowAt l kind w k).now = totT l kind (min k (cntAt l (w.2 - 1))) ∧ (lowAt l kind w k).begun = decide (cntAt l w.1 < k) ∧
    ((lowAt l kind w k).begun = false → leastR l kind w k = totT l kind (cntAt l w.1)) ∧
    ((lowAt l kind w k).begun = true → (cntAt l (w.2 - 1) < k ∨ lastM l (k - 1) → leastR l kind w k = (lowAt l kind w k).least) ∧ (¬ (cntAt l (w.2 - 1) < k ∨ lastM l (k - 1)) → leastR l kind w k = minI (lowAt l kind w k).least (totT l kind (cntAt l (moN l (k - 1))))))
  | 0, _ => by
    refine ⟨by simp [lowAt, totT, stoAt, stoNil, SM.nil, sumK], by simp [lowAt], fun _ => ofR_eq hf kind w.1, fun h => by simp [lowAt] at h⟩
  | k + 1, hk => by
    obtain ⟨i1, i2, i3, i4⟩ := low_inv hf kind w hw k (by omega)
    have hkl : k < l.length := by omega
    have hgd : l.getD k acD = l[k] := by simp [hkl]
    have hx := (actsFault_all hf).2 _ (List.getElem_mem hkl)
    have hF := cnt_iff hf hkl w.1
    have hE := cnt_iff hf hkl (w.2 - 1)
    have hFE : cntAt l w.1 ≤ cntAt l (w.2 - 1) := by
      rcases Nat.lt_or_ge (cntAt l (w.2 - 1)) (cntAt l w.1) with h | h
      · exfalso
        have h1 : cntAt l (w.2 - 1) < l.length := Nat.lt_of_lt_of_le h (cntAt_le l w.1)
        have h2 := cntAt_out h1
        have h3 := cntAt_in h
        omega
      · exact h
    have htk : ¬ ((takeS (stoAt l k) (l.getD k acD)).2.2 = 0 ∧ (takeS (stoAt l k) (l.getD k acD)).2.1 = kind) → totT l kind (k + 1) = totT l kind k := fun hne =>
      tot_other (stoAt_ok l k) (rel_at hf k (by omega)) kind (l.getD k acD) hne
    have hG : leastR l kind w (k + 1) = if w.1 < moN l k ∧ moN l k < w.2 then minI (leastR l kind w k) (totT l kind (cntAt l (moN l k))) else leastR l kind w k := by
      rw [leastR, ofR_eq hf]
    rw [lowAt]
    unfold lowStep
    generalize hq : lowAt l kind w k = q at *
    obtain ⟨now, least, begun⟩ := q
    simp only at i1 i2 i3 i4 ⊢
    have hmo : (l.getD k ⟨0, 0, bE, bE, bE, 0⟩).mo = moN l k := rfl
    have hmo1 : (l.getD (k + 1) ⟨0, 0, bE, bE, bE, 0⟩).mo = moN l (k + 1) := rfl
    rw [hmo, hmo1]
    generalize hte : (takeS (stoAt l k) (l.getD k acD)).2.2 = te at *
    generalize hto : (takeS (stoAt l k) (l.getD k acD)).2.1 = to at *
    have hnow : ∀ (q1 : Lo), q1.now = totT l kind k → (if te = 0 ∧ to = kind then (⟨totT l kind (k + 1), q1.least, q1.begun⟩ : Lo) else q1) = ⟨totT l kind (k + 1), q1.least, q1.begun⟩ := by
      intro q1 h1
      split
      · rfl
      · rename_i hne
        rw [htk hne, ← h1]
    by_cases hkF : k < cntAt l w.1
    · -- before the window
      have h1 : moN l k ≤ w.1 := hF.2 hkF
      have hb : begun = false := by rw [i2]; exact decide_eq_false (by omega)
      subst hb
      have hq1 : (if w.1 < moN l k ∧ false = false then (⟨now, now, true⟩ : Lo) else ⟨now, least, false⟩) = ⟨now, least, false⟩ := if_neg (fun h => by omega)
      rw [hq1, if_neg (by omega), hnow _ (by rw [i1, Nat.min_eq_left (by omega)])]
      simp only [Bool.false_eq_true, false_and, if_false]
      refine ⟨by rw [Nat.min_eq_left (by omega)], (decide_eq_false (by omega)).symm, fun _ => ?_, fun h => by cases h⟩
      rw [hG, if_neg (by omega)]; exact i3 rfl
    · have h1 : w.1 < moN l k := by
        rcases Int.lt_or_le w.1 (moN l k) with h | h
        · exact h
        · exact absurd (hF.1 h) hkF
      have hbeg : (if w.1 < moN l k ∧ begun = false then (⟨now, now, true⟩ : Lo) else ⟨now, least, begun⟩) = ⟨now, if begun = true then least else now, true⟩ := by
        cases begun <;> simp [h1]
      rw [hbeg]
      by_cases hkE : k < cntAt l (w.2 - 1)
      · -- in the window
        have h2 : moN l k < w.2 := by have := hE.2 hkE; omega
        have hk0 : now = totT l kind k := by rw [i1, Nat.min_eq_left (by omega)]
        rw [if_neg (by omega), hnow _ hk0]
        have hG' : leastR l kind w (k + 1) = minI (leastR l kind w k) (totT l kind (cntAt l (moN l k))) := by rw [hG, if_pos ⟨h1, h2⟩]
        generalize hL : (if begun = true then least else now) = L
        -- what is known of the least so far
        have hGL : leastR l kind w k = L ∨ leastR l kind w k = minI L (totT l kind (cntAt l (moN l k))) := by
          cases hb : begun with
          | false =>
            left
            rw [hb] at hL i2
            have hkeq : k = cntAt l w.1 := by have := of_decide_eq_false i2.symm; omega
            rw [i3 hb, ← hL, hk0]
            simp only [Bool.false_eq_true, if_false]
            rw [← hkeq]
          | true =>
            rw [hb] at hL i2
            simp only [if_true] at hL
            subst hL
            have hFk : cntAt l w.1 < k := of_decide_eq_true i2.symm
            by_cases hl : lastM l (k - 1)
            · exact .inl ((i4 hb).1 (.inr hl))
            · right
              have h4 := (i4 hb).2 (by intro h; rcases h with h | h; omega; exact hl h)
              have h5 := acts_sorted hf (k - 1) k (by omega) hkl
              have h6 : moN l (k - 1) = moN l k := by
                have : ¬ moN l (k - 1) < moN l (k - 1 + 1) := fun h => hl (.inr h)
                rw [show k - 1 + 1 = k by omega] at this
                omega
              rw [h4, h6]
        have hG2 : leastR l kind w (k + 1) = minI L (totT l kind (cntAt l (moN l k))) := by
          rcases hGL with h | h
          · rw [hG', h]
          · rw [hG', h, minI_idem]
        by_cases hl : lastM l k
        · rw [if_pos ⟨rfl, hl⟩]
          refine ⟨by rw [Nat.min_eq_left (by omega)], (decide_eq_true (by omega)).symm, fun h => by (exact absurd h (by simp)), fun _ => ⟨fun _ => ?_, fun h => absurd (.inr hl) h⟩⟩
          rw [hG2, last_cnt hf hkl hl]; rfl
        · rw [if_neg (fun h => hl h.2)]
          refine ⟨by rw [Nat.min_eq_left (by omega)], (decide_eq_true (by omega)).symm, fun h => by (exact absurd h (by simp)), fun _ => ⟨fun h => ?_, fun _ => hG2⟩⟩
          rcases h with h | h
          · omega
          · exact absurd h hl
      · -- behind the window
        have h2 : w.2 ≤ moN l k := by
          rcases Int.lt_or_le (moN l k) w.2 with h | h
          · exact absurd (hE.1 (by omega)) hkE
          · exact h
        rw [if_pos h2]
        have hG' : leastR l kind w (k + 1) = leastR l kind w k := by rw [hG, if_neg (by omega)]
        refine ⟨by rw [i1, Nat.min_eq_right (by omega), Nat.min_eq_right (by omega)], (decide_eq_true (by omega)).symm, fun h => by (exact absurd h (by simp)), fun _ => ⟨fun _ => ?_, fun h => absurd (.inl (by omega)) h⟩⟩
        rw [hG']
        cases hb : begun with
        | false =>
          rw [hb] at i2
          have hkeq : k ≤ cntAt l w.1 := by have := of_decide_eq_false i2.symm; omega
          rw [i3 hb]
          simp only [Bool.false_eq_true, if_false]
          rw [i1]; congr 1; omega
        | true =>
          rw [hb] at i2
          have hFk : cntAt l w.1 < k := of_decide_eq_true i2.symm
          simp only [if_true]
          refine (i4 hb).1 ?_
          rcases Nat.lt_or_ge (cntAt l (w.2 - 1)) k with h3 | h3
          · exact .inl h3
          · right; right
            have h4 := (cnt_iff hf (show k - 1 < l.length by omega) (w.2 - 1)).2 (by omega)
            rw [show k - 1 + 1 = k by omega]
            omega
theorem low_eq {l : List Ac} (hf : actsFault l = 0) (kind : ByteArray) (w : Wi) (hw : w.1 < w.2) : lowRes l kind w = leastR l kind w l.length := by
  obtain ⟨i1, i2, i3, i4⟩ := low_inv hf kind w hw l.length (Nat.le_refl _)
  have c1 := cntAt_le l w.1
  have c2 := cntAt_le l (w.2 - 1)
  unfold lowRes
  cases hb : (lowAt l kind w l.length).begun with
  | false =>
    rw [hb] at i2
    have h1 : l.length ≤ cntAt l w.1 := by have := of_decide_eq_false i2.symm; omega
    have hFE : cntAt l w.1 ≤ cntAt l (w.2 - 1) := by
      rcases Nat.lt_or_ge (cntAt l (w.2 - 1)) (cntAt l w.1) with h | h
      · exfalso
        have h1 : cntAt l (w.2 - 1) < l.length := Nat.lt_of_lt_of_le h (cntAt_le l w.1)
        have h2 := cntAt_out h1
        have h3 := cntAt_in h
        omega
      · exact h
    simp only [Bool.false_eq_true, if_false]
    rw [i1, i3 hb, Nat.min_eq_left (by omega)]; congr 1; omega
  | true =>
    rw [hb] at i2
    have h1 : cntAt l w.1 < l.length := of_decide_eq_true i2.symm
    simp only [if_true]
    exact ((i4 hb).1 (.inr (.inl (by omega)))).symm
end Go.Proofs.YtmdcgimpgoacdaaGreatDoor

/- The store at a moment, by the program. -/
namespace Go.Proofs.YtmdcgimpgoacdaaGreatDoor
set_option linter.unusedVariables false
set_option linter.unusedSimpArgs false
open Abs

set_option maxRecDepth 100000 in
set_option maxHeartbeats 4000000 in
theorem at1N_pc (s : Sto) (a b : Int) (of : ByteArray) : PCp 88 [.c (.ptr 0 0), .c (.int .i64 a), .c (.str of), .c (.int .i64 b)] [stBox, stoD s, stoK s] (.tup []) [stBox, stoD s, stoK s] := by
  refine fn_sound (mt := mts) tab_fits tab_mixed Tryz.func88 (by rfl) (by kernel_rfl) (by kernel_rfl) Tryz.results88 (Nat.le_of_ble_eq_true (by kernel_rfl)) ?_
  conv => whnf
  exact .mk ⟨rfl, rfl⟩
set_option maxRecDepth 100000 in
set_option maxHeartbeats 4000000 in
theorem followA_pc (l : List Ac) (hl : l.length ≤ 100000) :
    PCp 47 [.c (.lst 6 (l.map encAc)), .c (.fn 88 [])] [] (.c (.ptr 0 0)) [stBox, stoD (stoAt l l.length), stoK (stoAt l l.length)] := by
  have hlm : (l.map encAc).length = l.length := List.length_map ..
  refine fn_sound (mt := mts) tab_fits tab_mixed Tryz.func47 (by rfl) (by kernel_rfl) (by kernel_rfl) Tryz.results47 (Nat.le_of_ble_eq_true (by kernel_rfl)) ?_
  conv => whnf
  refine loop_count (l.length) [] [1, 5, 14, 15, 16] (fun k (_ : Unit) => ⟨[(1, .c (.fn 88 [])), (5, .c (.ptr 0 0)), (14, .c (.lst 6 (l.map encAc))), (15, .c (.int .i64 (l.map encAc).length)), (16, .c (.int .i64 k))], [(0, .box [.mp 1, .mp 2]), (1, stoD (stoAt l k)), (2, stoK (stoAt l k))], 3⟩) (fun k (_ : Unit) => True) (()) ?_ ?_ ?_
  · conv => whnf
    exact ⟨rfl, trivial⟩
  · intro k _ hk _
    have hg : l.getD k ⟨0, 0, bE, bE, bE, 0⟩ = l[k] := by simp [hk]
    conv => whnf
    repeat' (first
      | (refine Split.mk (fun h => ?_) (fun h => ?_) <;> (try simp only [decide_eq_true_eq, decide_eq_false_iff_not, Bool.not_eq_true', Bool.not_eq_false', beq_iff_eq, beq_eq_false_iff_ne, bne_iff_ne, bne_eq_false_iff_eq] at h) <;> (first | (exfalso; first | omega | exact h trivial) | (conv => whnf)))
      | (refine CondG.mk (fun h => ?_) (fun h => ?_) <;> (try simp only [decide_eq_true_eq, decide_eq_false_iff_not, Bool.not_eq_true', Bool.not_eq_false', beq_iff_eq, beq_eq_false_iff_ne, bne_iff_ne, bne_eq_false_iff_eq] at h) <;> (first | (exfalso; first | omega | exact h trivial) | (conv => whnf)))
      | (refine CallX.mk _ _ (by first | exact take_pc (stoAt l k) (stoAt_ok l k) l[k] | exact at1N_pc _ _ _ _) ?_; conv => whnf)
      | (refine CallG.mk _ _ (by first | exact take_pc (stoAt l k) (stoAt_ok l k) l[k] | exact at1N_pc _ _ _ _) ?_; conv => whnf)
      | (refine Ask.mk (by first | omega | (unfold roomOK; simp [cutRows]; done) | (unfold roomOK; simp [cutRows]; omega) | (simp [cutRows]; done) | (simp [cutRows]; omega)) ?_; conv => whnf)
      | (refine SliceG.fr ?_; conv => whnf)
      | (refine idx_at _ (by with_reducible rfl) (by first | assumption | omega) ?_; conv => whnf)
      | ((with_reducible refine row_map (by first | assumption | omega) ?_); conv => whnf)
      | ((with_reducible refine row_set (by first | assumption | omega | (simp only [List.length_set]; omega) | (simp; omega)) ?_); conv => whnf)
      | fail)
    refine count_next () hk (by rw [wrap_succ hk (by omega)]; simp only [stoAt, hg]; rfl) trivial
  · intro _ _
    conv => whnf
    repeat' (first
      | (refine Split.mk (fun h => ?_) (fun h => ?_) <;> (try simp only [decide_eq_true_eq, decide_eq_false_iff_not, Bool.not_eq_true', Bool.not_eq_false', beq_iff_eq, beq_eq_false_iff_ne] at h) <;> (first | (exfalso; first | omega | exact h trivial) | (conv => whnf)))
      | (refine CondG.mk (fun h => ?_) (fun h => ?_) <;> (try simp only [decide_eq_true_eq, decide_eq_false_iff_not, Bool.not_eq_true', Bool.not_eq_false', beq_iff_eq, beq_eq_false_iff_ne] at h) <;> (first | (exfalso; first | omega | exact h trivial) | (conv => whnf)))
      | (refine Ask.mk (by first | omega | (unfold roomOK; simp [cutRows]; done) | (unfold roomOK; simp [cutRows]; omega)) ?_; conv => whnf)
      | (refine SliceG.fr ?_; conv => whnf)
      | fail)
    exact .mk ⟨rfl, rfl⟩
def atE (l : List Ac) (t : Int) : Int := if actsFault l ≠ 0 then actsFault l else if momB t = true then 0 else 1
set_option maxRecDepth 100000 in
set_option maxHeartbeats 4000000 in
theorem at_bad (l : List Ac) (t : Int) (h : atE l t ≠ 0) : PCp 49 [.c (.lst 6 (l.map encAc)), .c (.int .i64 t)] [] (.tup [.c .nilp, .c (.int .i64 (atE l t))]) [] := by
  unfold atE at h ⊢
  by_cases hf : actsFault l = 0
  · rw [if_neg (by omega)] at h ⊢
    have hm : momB t = false := by
      cases hm : momB t with
      | false => rfl
      | true => rw [hm] at h; simp at h
    rw [hm]
    have c1 := bMoment_pc t
    rw [hm] at c1
    refine fn_sound (mt := mts) tab_fits tab_mixed Tryz.func49 (by rfl) (by kernel_rfl) (by kernel_rfl) Tryz.results49 (Nat.le_of_ble_eq_true (by kernel_rfl)) ?_
    conv => whnf
    repeat' (first
      | (refine Split.mk (fun h => ?_) (fun h => ?_) <;> (try simp only [decide_eq_true_eq, decide_eq_false_iff_not, Bool.not_eq_true', Bool.not_eq_false', beq_iff_eq, beq_eq_false_iff_ne, bne_iff_ne, bne_eq_false_iff_eq] at h) <;> (first | (exfalso; first | omega | exact h trivial | contradiction | (simp_all [eqRes]; done)) | (conv => whnf)))
      | (refine CondG.mk (fun h => ?_) (fun h => ?_) <;> (try simp only [decide_eq_true_eq, decide_eq_false_iff_not, Bool.not_eq_true', Bool.not_eq_false', beq_iff_eq, beq_eq_false_iff_ne, bne_iff_ne, bne_eq_false_iff_eq] at h) <;> (first | (exfalso; first | omega | exact h trivial | contradiction | (simp_all [eqRes]; done)) | (conv => whnf)))
      | (refine CallX.mk _ _ (by first | exact checkActs_pc l | exact c1) ?_; conv => whnf)
      | (refine CallG.mk _ _ (by first | exact checkActs_pc l | exact c1) ?_; conv => whnf)
      | (refine Ask.mk (by first | omega | (unfold roomOK; simp [cutRows]; done) | (unfold roomOK; simp [cutRows]; omega) | (simp [cutRows]; done) | (simp [cutRows]; omega)) ?_; conv => whnf)
      | (refine SliceG.fr ?_; conv => whnf)
      | (refine idx_at _ (by with_reducible rfl) (by first | assumption | omega) ?_; conv => whnf)
      | ((with_reducible refine row_map (by first | assumption | omega) ?_); conv => whnf)
      | ((with_reducible refine row_set (by first | assumption | omega | (simp only [List.length_set]; omega) | (simp; omega)) ?_); conv => whnf)
      | fail)
    exact .mk ⟨rfl, rfl⟩
  · rw [if_pos hf]
    refine fn_sound (mt := mts) tab_fits tab_mixed Tryz.func49 (by rfl) (by kernel_rfl) (by kernel_rfl) Tryz.results49 (Nat.le_of_ble_eq_true (by kernel_rfl)) ?_
    conv => whnf
    repeat' (first
      | (refine Split.mk (fun h => ?_) (fun h => ?_) <;> (try simp only [decide_eq_true_eq, decide_eq_false_iff_not, Bool.not_eq_true', Bool.not_eq_false', beq_iff_eq, beq_eq_false_iff_ne, bne_iff_ne, bne_eq_false_iff_eq] at h) <;> (first | (exfalso; first | omega | exact h trivial | contradiction | (simp_all [eqRes]; done)) | (conv => whnf)))
      | (refine CondG.mk (fun h => ?_) (fun h => ?_) <;> (try simp only [decide_eq_true_eq, decide_eq_false_iff_not, Bool.not_eq_true', Bool.not_eq_false', beq_iff_eq, beq_eq_false_iff_ne, bne_iff_ne, bne_eq_false_iff_eq] at h) <;> (first | (exfalso; first | omega | exact h trivial | contradiction | (simp_all [eqRes]; done)) | (conv => whnf)))
      | (refine CallX.mk _ _ (by first | exact checkActs_pc l) ?_; conv => whnf)
      | (refine CallG.mk _ _ (by first | exact checkActs_pc l) ?_; conv => whnf)
      | (refine Ask.mk (by first | omega | (unfold roomOK; simp [cutRows]; done) | (unfold roomOK; simp [cutRows]; omega) | (simp [cutRows]; done) | (simp [cutRows]; omega)) ?_; conv => whnf)
      | (refine SliceG.fr ?_; conv => whnf)
      | (refine idx_at _ (by with_reducible rfl) (by first | assumption | omega) ?_; conv => whnf)
      | ((with_reducible refine row_map (by first | assumption | omega) ?_); conv => whnf)
      | ((with_reducible refine row_set (by first | assumption | omega | (simp only [List.length_set]; omega) | (simp; omega)) ?_); conv => whnf)
      | fail)
    exact .mk ⟨rfl, rfl⟩
theorem stoAt_take (l : List Ac) (n : Nat) (hn : n ≤ l.length) : ∀ k, k ≤ n → stoAt (l.take n) k = stoAt l k
  | 0, _ => rfl
  | k + 1, h => by
    unfold stoAt
    rw [stoAt_take l n hn k (by omega)]
    have e : (l.take n).getD k ⟨0, 0, bE, bE, bE, 0⟩ = l.getD k ⟨0, 0, bE, bE, bE, 0⟩ := by
      simp only [List.getD_eq_getElem?_getD, List.getElem?_take, if_pos (show k < n by omega)]
    rw [e]
set_option maxRecDepth 100000 in
set_option maxHeartbeats 4000000 in
theorem at_ok (l : List Ac) (t : Int) (h : atE l t = 0) : PCp 49 [.c (.lst 6 (l.map encAc)), .c (.int .i64 t)] [] (.tup [.c (.ptr 0 0), .c (.int .i64 0)]) [stBox, stoD (stoAt l (cntAt l t)), stoK (stoAt l (cntAt l t))] := by
  have hf : actsFault l = 0 := by
    unfold atE at h
    split at h
    · exact h
    · rename_i h1; omega
  have hm : momB t = true := by
    unfold atE at h
    rw [if_neg (by omega)] at h
    split at h
    · assumption
    · cases h
  have hl := (actsFault_all hf).1
  have hlm : (l.map encAc).length = l.length := List.length_map ..
  have c1 := bMoment_pc t
  rw [hm] at c1
  have c2 := checkActs_pc l
  rw [hf] at c2
  have c3 := followA_pc (l.take (cntAt l t)) (by simp; omega)
  have hcl := cntAt_le l t
  rw [show (l.take (cntAt l t)).length = cntAt l t by simp; omega, stoAt_take l _ hcl _ (Nat.le_refl _), List.map_take] at c3
  refine fn_sound (mt := mts) tab_fits tab_mixed Tryz.func49 (by rfl) (by kernel_rfl) (by kernel_rfl) Tryz.results49 (Nat.le_of_ble_eq_true (by kernel_rfl)) ?_
  conv => whnf
  repeat' (first
    | (refine Split.mk (fun h => ?_) (fun h => ?_) <;> (try simp only [decide_eq_true_eq, decide_eq_false_iff_not, Bool.not_eq_true', Bool.not_eq_false', beq_iff_eq, beq_eq_false_iff_ne, bne_iff_ne, bne_eq_false_iff_eq] at h) <;> (first | (exfalso; first | omega | exact h trivial | contradiction | (simp_all [eqRes]; done)) | (conv => whnf)))
    | (refine CondG.mk (fun h => ?_) (fun h => ?_) <;> (try simp only [decide_eq_true_eq, decide_eq_false_iff_not, Bool.not_eq_true', Bool.not_eq_false', beq_iff_eq, beq_eq_false_iff_ne, bne_iff_ne, bne_eq_false_iff_eq] at h) <;> (first | (exfalso; first | omega | exact h trivial | contradiction | (simp_all [eqRes]; done)) | (conv => whnf)))
    | (refine CallX.mk _ _ (by first | exact c2 | exact c1) ?_; conv => whnf)
    | (refine CallG.mk _ _ (by first | exact c2 | exact c1) ?_; conv => whnf)
    | (refine Ask.mk (by first | omega | (unfold roomOK; simp [cutRows]; done) | (unfold roomOK; simp [cutRows]; omega) | (simp [cutRows]; done) | (simp [cutRows]; omega)) ?_; conv => whnf)
    | (refine SliceG.fr ?_; conv => whnf)
    | (refine idx_at _ (by with_reducible rfl) (by first | assumption | omega) ?_; conv => whnf)
    | ((with_reducible refine row_map (by first | assumption | omega) ?_); conv => whnf)
    | ((with_reducible refine row_set (by first | assumption | omega | (simp only [List.length_set]; omega) | (simp; omega)) ?_); conv => whnf)
    | fail)
  refine loop_while (fun (n : Nat) => n) [] [0, 1, 7] (fun (n : Nat) => [(7, .c (.int .i64 (n : Int)))]) (fun (n : Nat) => []) (fun (n : Nat) => n ≤ l.length ∧ cntAt l t ≤ n) (l.length) ?_
  conv => whnf
  refine ⟨(by first | rfl | (simp; done) | (simp; rfl)), ?_, ?_⟩
  · exact ⟨Nat.le_refl _, hcl⟩
  · intro n ⟨h1, h2⟩
    have hmem : ∀ k (hk : k < l.length), l[k].mo ≤ t ↔ k < cntAt l t := fun k hk => by
      have := cnt_iff hf hk t
      rwa [moN_at hk] at this
    cases n with
    | zero =>
      have e0 : cntAt l t = 0 := by omega
      rw [e0] at c3 ⊢
      conv => whnf
      repeat' (first
        | (refine Split.mk (fun h => ?_) (fun h => ?_) <;> (try simp only [decide_eq_true_eq, decide_eq_false_iff_not, Bool.not_eq_true', Bool.not_eq_false', beq_iff_eq, beq_eq_false_iff_ne, bne_iff_ne, bne_eq_false_iff_eq] at h) <;> (first | (exfalso; first | omega | exact h trivial | contradiction | (simp_all [eqRes]; done)) | (conv => whnf)))
        | (refine CondG.mk (fun h => ?_) (fun h => ?_) <;> (try simp only [decide_eq_true_eq, decide_eq_false_iff_not, Bool.not_eq_true', Bool.not_eq_false', beq_iff_eq, beq_eq_false_iff_ne, bne_iff_ne, bne_eq_false_iff_eq] at h) <;> (first | (exfalso; first | omega | exact h trivial | contradiction | (simp_all [eqRes]; done)) | (conv => whnf)))
        | (refine CallX.mk _ _ (by first | exact c3) ?_; conv => whnf)
        | (refine CallG.mk _ _ (by first | exact c3) ?_; conv => whnf)
        | (refine Ask.mk (by first | omega | (unfold roomOK; simp [cutRows]; done) | (unfold roomOK; simp [cutRows]; omega) | (simp [cutRows]; done) | (simp [cutRows]; omega)) ?_; conv => whnf)
        | (refine SliceG.fr ?_; conv => whnf)
        | (refine idx_at _ (by with_reducible rfl) (by first | assumption | omega) ?_; conv => whnf)
        | ((with_reducible refine row_map (by first | assumption | omega) ?_); conv => whnf)
        | ((with_reducible refine row_set (by first | assumption | omega | (simp only [List.length_set]; omega) | (simp; omega)) ?_); conv => whnf)
        | fail)
      exact .mk ⟨rfl, rfl⟩
    | succ m =>
      have hk : m < l.length := by omega
      have hw : IntKind.i64.wrap (((m + 1 : Nat) : Int) - 1) = ((m : Nat) : Int) := by rw [wrap_in (by omega) (by omega)]; omega
      have h6 := hmem m hk
      by_cases h7 : m < cntAt l t
      · have h8 := h6.2 h7
        have e0 : cntAt l t = m + 1 := by omega
        rw [e0] at c3 ⊢
        conv => whnf
        repeat' (first
          | (refine Split.mk (fun h => ?_) (fun h => ?_) <;> (try simp only [decide_eq_true_eq, decide_eq_false_iff_not, Bool.not_eq_true', Bool.not_eq_false', beq_iff_eq, beq_eq_false_iff_ne, bne_iff_ne, bne_eq_false_iff_eq] at h) <;> (first | (exfalso; first | omega | exact h trivial | contradiction | (simp_all [eqRes]; done)) | (conv => whnf)))
          | (refine CondG.mk (fun h => ?_) (fun h => ?_) <;> (try simp only [decide_eq_true_eq, decide_eq_false_iff_not, Bool.not_eq_true', Bool.not_eq_false', beq_iff_eq, beq_eq_false_iff_ne, bne_iff_ne, bne_eq_false_iff_eq] at h) <;> (first | (exfalso; first | omega | exact h trivial | contradiction | (simp_all [eqRes]; done)) | (conv => whnf)))
          | (refine Ask.mk (by first | omega | (unfold roomOK; simp [cutRows]; done) | (unfold roomOK; simp [cutRows]; omega) | (simp [cutRows]; done) | (simp [cutRows]; omega)) ?_; conv => whnf)
          | (refine SliceG.fr ?_; conv => whnf)
          | (refine idx_at _ (by with_reducible rfl) (by first | assumption | omega) ?_; conv => whnf)
          | ((with_reducible refine row_map (by first | assumption | omega) ?_); conv => whnf)
          | ((with_reducible refine row_set (by first | assumption | omega | (simp only [List.length_set]; omega) | (simp; omega)) ?_); conv => whnf)
          | fail)
        rw [hw]
        repeat' (first
          | (refine Split.mk (fun h => ?_) (fun h => ?_) <;> (try simp only [decide_eq_true_eq, decide_eq_false_iff_not, Bool.not_eq_true', Bool.not_eq_false', beq_iff_eq, beq_eq_false_iff_ne, bne_iff_ne, bne_eq_false_iff_eq] at h) <;> (first | (exfalso; first | omega | exact h trivial | contradiction | (simp_all [eqRes]; done)) | (conv => whnf)))
          | (refine CondG.mk (fun h => ?_) (fun h => ?_) <;> (try simp only [decide_eq_true_eq, decide_eq_false_iff_not, Bool.not_eq_true', Bool.not_eq_false', beq_iff_eq, beq_eq_false_iff_ne, bne_iff_ne, bne_eq_false_iff_eq] at h) <;> (first | (exfalso; first | omega | exact h trivial | contradiction | (simp_all [eqRes]; done)) | (conv => whnf)))
          | (refine CallX.mk _ _ (by first | exact c3) ?_; conv => whnf)
          | (refine CallG.mk _ _ (by first | exact c3) ?_; conv => whnf)
          | (refine Ask.mk (by first | omega | (unfold roomOK; simp [cutRows]; done) | (unfold roomOK; simp [cutRows]; omega) | (simp [cutRows]; done) | (simp [cutRows]; omega)) ?_; conv => whnf)
          | (refine SliceG.fr ?_; conv => whnf)
          | (refine idx_at _ (by with_reducible rfl) (by first | assumption | omega) ?_; conv => whnf)
          | ((with_reducible refine row_map (by first | assumption | omega) ?_); conv => whnf)
          | ((with_reducible refine row_set (by first | assumption | omega | (simp only [List.length_set]; omega) | (simp; omega)) ?_); conv => whnf)
          | fail)
        exact .mk ⟨rfl, rfl⟩
      · have h8 : t < l[m].mo := by
          rcases Int.lt_or_le t l[m].mo with h9 | h9
          · exact h9
          · exact (h7 (h6.1 h9)).elim
        conv => whnf
        repeat' (first
          | (refine Split.mk (fun h => ?_) (fun h => ?_) <;> (try simp only [decide_eq_true_eq, decide_eq_false_iff_not, Bool.not_eq_true', Bool.not_eq_false', beq_iff_eq, beq_eq_false_iff_ne, bne_iff_ne, bne_eq_false_iff_eq] at h) <;> (first | (exfalso; first | omega | exact h trivial | contradiction | (simp_all [eqRes]; done)) | (conv => whnf)))
          | (refine CondG.mk (fun h => ?_) (fun h => ?_) <;> (try simp only [decide_eq_true_eq, decide_eq_false_iff_not, Bool.not_eq_true', Bool.not_eq_false', beq_iff_eq, beq_eq_false_iff_ne, bne_iff_ne, bne_eq_false_iff_eq] at h) <;> (first | (exfalso; first | omega | exact h trivial | contradiction | (simp_all [eqRes]; done)) | (conv => whnf)))
          | (refine Ask.mk (by first | omega | (unfold roomOK; simp [cutRows]; done) | (unfold roomOK; simp [cutRows]; omega) | (simp [cutRows]; done) | (simp [cutRows]; omega)) ?_; conv => whnf)
          | (refine SliceG.fr ?_; conv => whnf)
          | (refine idx_at _ (by with_reducible rfl) (by first | assumption | omega) ?_; conv => whnf)
          | ((with_reducible refine row_map (by first | assumption | omega) ?_); conv => whnf)
          | ((with_reducible refine row_set (by first | assumption | omega | (simp only [List.length_set]; omega) | (simp; omega)) ?_); conv => whnf)
          | fail)
        rw [hw]
        repeat' (first
          | (refine Split.mk (fun h => ?_) (fun h => ?_) <;> (try simp only [decide_eq_true_eq, decide_eq_false_iff_not, Bool.not_eq_true', Bool.not_eq_false', beq_iff_eq, beq_eq_false_iff_ne, bne_iff_ne, bne_eq_false_iff_eq] at h) <;> (first | (exfalso; first | omega | exact h trivial | contradiction | (simp_all [eqRes]; done)) | (conv => whnf)))
          | (refine CondG.mk (fun h => ?_) (fun h => ?_) <;> (try simp only [decide_eq_true_eq, decide_eq_false_iff_not, Bool.not_eq_true', Bool.not_eq_false', beq_iff_eq, beq_eq_false_iff_ne, bne_iff_ne, bne_eq_false_iff_eq] at h) <;> (first | (exfalso; first | omega | exact h trivial | contradiction | (simp_all [eqRes]; done)) | (conv => whnf)))
          | (refine Ask.mk (by first | omega | (unfold roomOK; simp [cutRows]; done) | (unfold roomOK; simp [cutRows]; omega) | (simp [cutRows]; done) | (simp [cutRows]; omega)) ?_; conv => whnf)
          | (refine SliceG.fr ?_; conv => whnf)
          | (refine idx_at _ (by with_reducible rfl) (by first | assumption | omega) ?_; conv => whnf)
          | ((with_reducible refine row_map (by first | assumption | omega) ?_); conv => whnf)
          | ((with_reducible refine row_set (by first | assumption | omega | (simp only [List.length_set]; omega) | (simp; omega)) ?_); conv => whnf)
          | fail)
        rw [hw]
        exact meas_next m (by omega) rfl ⟨by omega, by omega⟩
end Go.Proofs.YtmdcgimpgoacdaaGreatDoor

/- What is in the store at a moment: the lists. -/
namespace Go.Proofs.YtmdcgimpgoacdaaGreatDoor
set_option linter.unusedVariables false
set_option linter.unusedSimpArgs false
open Abs

set_option maxRecDepth 100000 in
set_option maxHeartbeats 4000000 in
theorem stockC_pc (a b : Pc) : PCp 51 [.agg (encPc a), .agg (encPc b)] [] (.c (.int .i64 (cmpS a.key b.key))) [] := by
  refine fn_sound (mt := mts) tab_fits tab_mixed Tryz.func51 (by rfl) (by kernel_rfl) (by kernel_rfl) Tryz.results51 (Nat.le_of_ble_eq_true (by kernel_rfl)) ?_
  conv => whnf
  repeat' (first
    | (refine Split.mk (fun h => ?_) (fun h => ?_) <;> (try simp only [decide_eq_true_eq, decide_eq_false_iff_not, Bool.not_eq_true', Bool.not_eq_false', beq_iff_eq, beq_eq_false_iff_ne] at h) <;> (first | (exfalso; first | omega | exact h trivial) | (conv => whnf)))
    | (refine CondG.mk (fun h => ?_) (fun h => ?_) <;> (try simp only [decide_eq_true_eq, decide_eq_false_iff_not, Bool.not_eq_true', Bool.not_eq_false', beq_iff_eq, beq_eq_false_iff_ne] at h) <;> (first | (exfalso; first | omega | exact h trivial) | (conv => whnf)))
    | (refine CallX.mk _ _ (by first | exact sCompare_pc _ _) ?_; conv => whnf)
    | (refine CallG.mk _ _ (by first | exact sCompare_pc _ _) ?_; conv => whnf)
    | (refine Ask.mk (by first | omega | (unfold roomOK; simp [cutRows]; done) | (unfold roomOK; simp [cutRows]; omega)) ?_; conv => whnf)
    | (refine SliceG.fr ?_; conv => whnf)
    | fail)
  exact fini rfl
theorem PCx.mono {P : Program} {f : Nat} {args : List S} {objs : List Ob} {Q Q' : S → List Ob → Prop} (h : PCx P f args objs Q) (hi : ∀ r os, Q r os → Q' r os) : PCx P f args objs Q' :=
  ⟨h.fn, fun F φ w cs a b c => (h.calls F φ w cs a b c).mono (by rintro e w' ⟨c, F', φ', r, os, hQ, rest⟩; exact ⟨c, F', φ', r, os, hi _ _ hQ, rest⟩)⟩
theorem sortDrums_pc {g : Nat} (hg : ∀ a b : Pc, PCp g [.agg (encPc a), .agg (encPc b)] [] (.c (.int .i64 (cmpS a.key b.key))) []) (l : List Pc) (hl : l.length ≤ 1000000) (hn : (l.map Pc.key).Nodup) :
    PCq 50 [.c (.row 0), .c (.fn g [])] [.row 56 3 (l.map encPc)] fun r os => ∃ l', (Rise Pc.key l' ∧ l'.Perm l) ∧ r = .tup [] ∧ os = [.row 56 3 (l'.map encPc)] := by
  have h := sort_pcx layDrum (encA := encPc) (c := fun a b : Pc => cmpS a.key b.key) (by decide) (fun w => (tab_fits 56 _ rfl).isAgg w) (fun w => (tab_fits 56 _ rfl).sizeOf w) (fun x => rfl) (swo_key Pc.key) hg 56 l (by omega)
  refine PCx.mono h ?_
  rintro r os ⟨l', hs, h1, h2⟩
  exact ⟨l', ⟨rise_of hs.2 ((hs.1.map _).nodup_iff.2 hn), hs.1⟩, h1, h2⟩
def dL (vis : List DE) : List Pc := vis.map dPc
set_option maxRecDepth 100000 in
set_option maxHeartbeats 4000000 in
theorem dStock_pc (l : List Ac) (t : Int) (h0 : atE l t = 0) :
    PCq 10 [.c (.lst 6 (l.map encAc)), .c (.int .i64 t)] [] fun r os => ∃ ds : List Pc, (Rise Pc.key ds ∧ ds.Perm (dL (stoAt l (cntAt l t)).d.es)) ∧ r = .tup [.c (.row 0), .c (.int .i64 0)] ∧ os = [.row 56 3 (ds.map encPc)] := by
  have hok := stoAt_ok l (cntAt l t)
  have hf : actsFault l = 0 := by
    unfold atE at h0
    split at h0
    · exact h0
    · rename_i h1; omega
  have hlen : (stoAt l (cntAt l t)).d.es.length ≤ 1000000 := (longOk_at hf (cntAt l t) (cntAt_le l t)).2
  have hc := at_ok l t h0
  generalize hs : stoAt l (cntAt l t) = s at hok hc hlen
  refine fn_soundX (mt := mts) tab_fits tab_mixed Tryz.func10 (by rfl) (by kernel_rfl) (by kernel_rfl) Tryz.results10 (Nat.le_of_ble_eq_true (by kernel_rfl)) ?_
  conv => whnf
  repeat' (first
    | (refine Split.mk (fun h => ?_) (fun h => ?_) <;> (try simp only [decide_eq_true_eq, decide_eq_false_iff_not, Bool.not_eq_true', Bool.not_eq_false', beq_iff_eq, beq_eq_false_iff_ne, bne_iff_ne, bne_eq_false_iff_eq] at h) <;> (first | (exfalso; first | omega | exact h trivial | contradiction | (simp_all [eqRes]; done)) | (conv => whnf)))
    | (refine CondG.mk (fun h => ?_) (fun h => ?_) <;> (try simp only [decide_eq_true_eq, decide_eq_false_iff_not, Bool.not_eq_true', Bool.not_eq_false', beq_iff_eq, beq_eq_false_iff_ne, bne_iff_ne, bne_eq_false_iff_eq] at h) <;> (first | (exfalso; first | omega | exact h trivial | contradiction | (simp_all [eqRes]; done)) | (conv => whnf)))
    | (refine CallX.mk _ _ (by first | exact hc) ?_; conv => whnf)
    | (refine CallG.mk _ _ (by first | exact hc) ?_; conv => whnf)
    | (refine Ask.mk (by first | omega | (unfold roomOK; simp [cutRows]; done) | (unfold roomOK; simp [cutRows]; omega) | (simp [cutRows]; done) | (simp [cutRows]; omega)) ?_; conv => whnf)
    | (refine SliceG.fr ?_; conv => whnf)
    | (refine idx_at _ (by with_reducible rfl) (by first | assumption | omega) ?_; conv => whnf)
    | ((with_reducible refine row_map (by first | assumption | omega) ?_); conv => whnf)
    | ((with_reducible refine row_set (by first | assumption | omega | (simp only [List.length_set]; omega) | (simp; omega)) ?_); conv => whnf)
    | fail)
  refine loop_meas (fun (vis : List DE) => s.d.es.length - vis.length) [.sl 8 56 3] [8, 24] (fun (vis : List DE) => ⟨[(8, .c (.row 0)), (24, .c (.ptr 1 0))], [(0, .row 56 3 ((dL vis.reverse).map encPc)), (1, .iter 2 s.d.clock (vis.map (·.1))), (2, stoD s)], 3⟩) (fun (vis : List DE) => Vis s.d vis) ([]) ?_ ?_
  · conv => whnf
    exact ⟨rfl, Vis.nil _⟩
  · intro vis hv
    have hvl := hv.len
    have hdl : (dL vis.reverse).length = vis.length := by simp [dL]
    have hslm : ((dL vis.reverse).map encPc).length = vis.length := by simp [dL]
    conv => whnf
    refine .mk rfl ?_
    conv => whnf
    refine sm_next hok.d hv (fun hp => ?_) (fun e he hn hv' hlt => ?_)
    · conv => whnf
      have hpr : (dL vis.reverse).Perm (dL s.d.es) := ((List.reverse_perm vis).trans hp).map _
      refine .ex _ (sortDrums_pc stockC_pc (dL vis.reverse) (by simp [dL]; omega) ?_) ?_
      · refine ((hpr.map Pc.key).nodup_iff).2 ?_
        unfold dL
        rw [List.map_map]
        exact keys_nd hok.d
      rintro _ _ ⟨ds, ⟨hr, hq⟩, rfl, rfl⟩
      conv => whnf
      exact .mk _ _ ⟨ds, ⟨hr, hq.trans hpr⟩, rfl, rfl⟩ (.mk ⟨rfl, rfl⟩)
    · conv => whnf
      refine .mk rfl ?_
      conv => whnf
      refine sm_at hok.d he ?_
      conv => whnf
      repeat' (first
        | (refine Split.mk (fun h => ?_) (fun h => ?_) <;> (try simp only [decide_eq_true_eq, decide_eq_false_iff_not, Bool.not_eq_true', Bool.not_eq_false', beq_iff_eq, beq_eq_false_iff_ne, bne_iff_ne, bne_eq_false_iff_eq] at h) <;> (first | (exfalso; first | omega | exact h trivial) | (conv => whnf)))
        | (refine CondG.mk (fun h => ?_) (fun h => ?_) <;> (try simp only [decide_eq_true_eq, decide_eq_false_iff_not, Bool.not_eq_true', Bool.not_eq_false', beq_iff_eq, beq_eq_false_iff_ne, bne_iff_ne, bne_eq_false_iff_eq] at h) <;> (first | (exfalso; first | omega | exact h trivial) | (conv => whnf)))
        | (refine Ask.mk (by first | omega | (unfold roomOK; simp [cutRows]; done) | (unfold roomOK; simp [cutRows]; omega) | (simp [cutRows]; done) | (simp [cutRows]; omega)) ?_; conv => whnf)
        | (refine SliceG.fr ?_; conv => whnf)
        | (refine idx_at _ (by with_reducible rfl) (by first | assumption | omega) ?_; conv => whnf)
        | ((with_reducible refine row_map (by first | assumption | omega) ?_); conv => whnf)
        | ((with_reducible refine row_set (by first | assumption | omega | (simp only [List.length_set]; omega) | (simp; omega)) ?_); conv => whnf)
        | fail)
      have h1 : dL (e :: vis).reverse = dL vis.reverse ++ [dPc e] := by simp [dL]
      exact meas_next (e :: vis) (by simp only [List.length_cons]; omega) (by rw [h1, List.map_append]; rfl) hv'
end Go.Proofs.YtmdcgimpgoacdaaGreatDoor

/- What is in the store at a moment, by the document; sums by type in maps; pairs. -/
namespace Go.Proofs.YtmdcgimpgoacdaaGreatDoor
set_option linter.unusedVariables false
set_option linter.unusedSimpArgs false
open Abs

theorem stL_nd {s : Rto} (h : s.ok) : ((stL s s.l.es).map Pc.key).Nodup := by
  unfold stL
  rw [List.map_map]
  exact (keys_nd h.l).sublist ((List.filter_sublist).map _)
set_option maxRecDepth 100000 in
set_option maxHeartbeats 4000000 in
theorem rStock_pc (l : List Ac) (hl : l.length ≤ 100000) (t : Int) (h12 : (rtoAt l (cntAt l t)).l.es.length ≤ 1000000) :
    PCq 17 [.c (.lst 6 (l.map encAc)), .c (.int .i64 t)] [] fun r os => ∃ ds : List Pc, (Rise Pc.key ds ∧ ds.Perm (stL (rtoAt l (cntAt l t)) (rtoAt l (cntAt l t)).l.es)) ∧ r = .c (.row 0) ∧ os = [.row 56 3 (ds.map encPc)] := by
  have hok := rtoAt_ok l (cntAt l t)
  generalize hs : rtoAt l (cntAt l t) = s at h12 hok
  have hst := stored_pcR l hl t
  rw [hs] at hst
  refine fn_soundX (mt := mts) tab_fits tab_mixed Tryz.func17 (by rfl) (by kernel_rfl) (by kernel_rfl) Tryz.results17 (Nat.le_of_ble_eq_true (by kernel_rfl)) ?_
  conv => whnf
  repeat' (first
    | (refine Split.mk (fun h => ?_) (fun h => ?_) <;> (try simp only [decide_eq_true_eq, decide_eq_false_iff_not, Bool.not_eq_true', Bool.not_eq_false', beq_iff_eq, beq_eq_false_iff_ne] at h) <;> (first | (exfalso; first | omega | exact h trivial) | (conv => whnf)))
    | (refine CondG.mk (fun h => ?_) (fun h => ?_) <;> (try simp only [decide_eq_true_eq, decide_eq_false_iff_not, Bool.not_eq_true', Bool.not_eq_false', beq_iff_eq, beq_eq_false_iff_ne] at h) <;> (first | (exfalso; first | omega | exact h trivial) | (conv => whnf)))
    | (refine CallX.mk _ _ (by first | exact hst) ?_; conv => whnf)
    | (refine CallG.mk _ _ (by first | exact hst) ?_; conv => whnf)
    | (refine Ask.mk (by first | omega | (unfold roomOK; simp [cutRows]; done) | (unfold roomOK; simp [cutRows]; omega)) ?_; conv => whnf)
    | (refine SliceG.fr ?_; conv => whnf)
    | fail)
  refine loop_meas (fun (vis : List LE) => s.l.es.length - vis.length) [.sl 8 56 3] [5, 8, 22] (fun (vis : List LE) => ⟨[(5, .c (.ptr 0 0)), (8, .c (.row 4)), (22, .c (.ptr 5 0))], [(0, .box [.mp 1, .mp 2, .row 3]), (1, rtoL s), (2, rtoK s), (3, .row 3 1 ((cutsR l (cntAt l t)).map encI)), (4, .row 56 3 ((stL s vis.reverse).map encPc)), (5, .iter 1 s.l.clock (vis.map (·.1)))], 6⟩) (fun (vis : List LE) => Vis s.l vis) ([]) ?_ ?_
  · conv => whnf
    exact ⟨rfl, Vis.nil _⟩
  · intro vis hv
    have hvl := hv.len
    have hsl := stL_len s vis.reverse
    rw [List.length_reverse] at hsl
    have hslm : ((stL s vis.reverse).map encPc).length = (stL s vis.reverse).length := List.length_map ..
    conv => whnf
    refine .mk rfl ?_
    conv => whnf
    refine sm_next hok.l hv (fun hp => ?_) (fun e he hn hv' hlt => ?_)
    · conv => whnf
      have hpr : (stL s vis.reverse).Perm (stL s s.l.es) := stL_perm s ((List.reverse_perm vis).trans hp)
      refine .ex _ (sortDrums_pc stock1_pc (stL s vis.reverse) (by omega) (((hpr.map Pc.key).nodup_iff).2 (stL_nd hok))) ?_
      rintro _ _ ⟨ds, ⟨hr, hq⟩, rfl, rfl⟩
      conv => whnf
      exact .mk _ _ ⟨ds, ⟨hr, hq.trans hpr⟩, rfl, rfl⟩ (.mk ⟨rfl, rfl⟩)
    · conv => whnf
      refine .mk rfl ?_
      conv => whnf
      refine sm_at hok.l he ?_
      conv => whnf
      repeat' (first
        | (refine Split.mk (fun h => ?_) (fun h => ?_) <;> (try simp only [decide_eq_true_eq, decide_eq_false_iff_not, Bool.not_eq_true', Bool.not_eq_false', beq_iff_eq, beq_eq_false_iff_ne, bne_iff_ne, bne_eq_false_iff_eq] at h) <;> (first | (exfalso; first | omega | exact h trivial) | (conv => whnf)))
        | (refine CondG.mk (fun h => ?_) (fun h => ?_) <;> (try simp only [decide_eq_true_eq, decide_eq_false_iff_not, Bool.not_eq_true', Bool.not_eq_false', beq_iff_eq, beq_eq_false_iff_ne, bne_iff_ne, bne_eq_false_iff_eq] at h) <;> (first | (exfalso; first | omega | exact h trivial) | (conv => whnf)))
        | (refine Ask.mk (by first | omega | (unfold roomOK; simp [cutRows]; done) | (unfold roomOK; simp [cutRows]; omega) | (simp [cutRows]; done) | (simp [cutRows]; omega)) ?_; conv => whnf)
        | (refine SliceG.fr ?_; conv => whnf)
        | (refine idx_at _ (by with_reducible rfl) (by first | assumption | omega) ?_; conv => whnf)
        | ((with_reducible refine row_map (by first | assumption | omega) ?_); conv => whnf)
        | ((with_reducible refine row_set (by first | assumption | omega | (simp only [List.length_set]; omega) | (simp; omega)) ?_); conv => whnf)
        | ((with_reducible refine sm_look (ek := ekS) (ev := evK) keyStr s.k e.2.1 bE ?_ ?_); exact rfl; conv => whnf)
        | fail)
      · have h1 : stL s (e :: vis).reverse = stL s vis.reverse ++ [stE s e] := by simp [stL, h]
        exact meas_next (e :: vis) (by simp only [List.length_cons]; omega) (by rw [h1, List.map_append]; rfl) hv'
      · have h1 : stL s (e :: vis).reverse = stL s vis.reverse := by simp [stL, show ¬ 0 < e.2.2 by omega]
        exact meas_next (e :: vis) (by simp only [List.length_cons]; omega) (by rw [h1]; rfl) hv'
/-- sums by type -/
abbrev MI := SM ByteArray Int
def sumsM : List Pc → MI
  | [] => SM.nil
  | p :: r => (sumsM r).put p.kind (IntKind.i64.wrap (((sumsM r).get p.kind).getD 0 + p.long))
theorem sumsM_ok : ∀ l, (sumsM l).ok
  | [] => SM.ok_nil
  | p :: r => (sumsM_ok r).put _ _
theorem sumsM_len : ∀ l, (sumsM l).es.length ≤ l.length
  | [] => Nat.le_refl _
  | p :: r => Nat.le_trans (eput_len (sumsM r).clock (sumsM r).es p.kind _) (by have := sumsM_len r; simp; omega)
theorem sumsM_get : ∀ (l : List Pc), (∀ p ∈ l, 0 ≤ p.long ∧ p.long ≤ 200000) → l.length ≤ 1000000 → ∀ n, ((sumsM l).get n).getD 0 = sumP n l
  | [], _, _, n => rfl
  | p :: r, h, hl, n => by
    have hr : ∀ q ∈ r, 0 ≤ q.long ∧ q.long ≤ 200000 := fun q hq => h q (by simp [hq])
    have hl' : r.length ≤ 1000000 := by simp at hl; omega
    have ih := sumsM_get r hr hl'
    have hb := sumP_in p.kind r hr
    have hp := h p (by simp)
    rw [sumsM, SM.get_put, ih]
    by_cases e : p.kind = n
    · subst e
      rw [if_pos rfl, wrap_in (by omega) (by omega)]
      simp [sumP]; omega
    · rw [if_neg e, ih, sumP, if_neg e]; omega
/-- the names of what is more than nothing, in order -/
def Keys (g : ByteArray → Int) (ns : List ByteArray) : Prop := Rise id ns ∧ ∀ n, n ∈ ns ↔ 0 < g n
theorem Keys.one {g g' : ByteArray → Int} {a b : List ByteArray} (h : Keys g a) (h' : Keys g' b) (e : ∀ n, g n = g' n) : a = b :=
  rise_ext h.1 h'.1 (fun x => by rw [h.2, h'.2, e])
def nmL (es : List (Nat × ByteArray × Int)) : List ByteArray := (es.filter fun e => decide (0 < e.2.2)).map (·.2.1)
theorem nmL_mem {m : MI} (h : m.ok) (n : ByteArray) : n ∈ nmL m.es ↔ 0 < (m.get n).getD 0 := by
  unfold nmL
  constructor
  · intro hn
    obtain ⟨e, he, rfl⟩ := List.mem_map.1 hn
    obtain ⟨h1, h2⟩ := List.mem_filter.1 he
    rw [get_of_mem h h1]
    simpa using h2
  · intro hn
    cases hg : m.get n with
    | none => rw [hg] at hn; simp at hn
    | some v =>
      rw [hg] at hn
      obtain ⟨k, hk⟩ := mem_of_get hg
      exact List.mem_map.2 ⟨(k, n, v), List.mem_filter.2 ⟨hk, by simpa using hn⟩, rfl⟩
theorem nmL_nd {m : MI} (h : m.ok) : (nmL m.es).Nodup := (keys_nd h).sublist ((List.filter_sublist).map _)
theorem keys_of {m : MI} (h : m.ok) {ns : List ByteArray} (hp : ns.Perm (nmL m.es)) (hs : Rise id ns) : Keys (fun n => (m.get n).getD 0) ns :=
  ⟨hs, fun n => by rw [hp.mem_iff, nmL_mem h]⟩
def encPr (x : ByteArray × ByteArray) : List V := [.str x.1, .str x.2]
def prsV (g : ByteArray → Int) (ns : List ByteArray) : List (ByteArray × ByteArray) := ns.map fun n => (n, itoaB (g n))
end Go.Proofs.YtmdcgimpgoacdaaGreatDoor

/- Pairs of names and numbers out of a map. -/
namespace Go.Proofs.YtmdcgimpgoacdaaGreatDoor
set_option linter.unusedVariables false
set_option linter.unusedSimpArgs false
open Abs

theorem nmL_len (es : List (Nat × ByteArray × Int)) : (nmL es).length ≤ es.length := by unfold nmL; rw [List.length_map]; exact List.length_filter_le _ _
set_option maxRecDepth 100000 in
set_option maxHeartbeats 4000000 in
theorem dPairs_pc (m : MI) (hok : m.ok) (h12 : m.es.length ≤ 12) (hb : ∀ n, -9000000000000000000 ≤ (m.get n).getD 0 ∧ (m.get n).getD 0 ≤ 9000000000000000000) :
    PCq 53 [.c (.mp 0)] [smO ekS evI m] fun r os => ∃ ns, Keys (fun n => (m.get n).getD 0) ns ∧ r = .c (.lst 2 ((prsV (fun n => (m.get n).getD 0) ns).map encPr)) ∧ os = [smO ekS evI m] := by
  refine fn_soundX (mt := mts) tab_fits tab_mixed Tryz.func53 (by rfl) (by kernel_rfl) (by kernel_rfl) Tryz.results53 (Nat.le_of_ble_eq_true (by kernel_rfl)) ?_
  conv => whnf
  refine loop_meas (fun (vis : List (Nat × ByteArray × Int)) => m.es.length - vis.length) [.sl 3 9 1] [0, 3, 10] (fun (vis : List (Nat × ByteArray × Int)) => ⟨[(0, .c (.mp 0)), (3, .c (.row 1)), (10, .c (.ptr 2 0))], [(0, smO ekS evI m), (1, .row 9 1 ((nmL vis.reverse).map encS)), (2, .iter 0 m.clock (vis.map (·.1)))], 3⟩) (fun (vis : List (Nat × ByteArray × Int)) => Vis m vis) ([]) ?_ ?_
  · conv => whnf
    exact ⟨rfl, Vis.nil _⟩
  · intro vis hv
    have hvl := hv.len
    have hsl := nmL_len vis.reverse
    rw [List.length_reverse] at hsl
    have hslm : ((nmL vis.reverse).map encS).length = (nmL vis.reverse).length := List.length_map ..
    conv => whnf
    refine .mk rfl ?_
    conv => whnf
    refine sm_next hok hv (fun hp => ?_) (fun e he hn hv' hlt => ?_)
    · conv => whnf
      have hpr : (nmL vis.reverse).Perm (nmL m.es) := (((List.reverse_perm vis).trans hp).filter _).map _
      repeat' (first
        | (refine Split.mk (fun h => ?_) (fun h => ?_) <;> (try simp only [decide_eq_true_eq, decide_eq_false_iff_not, Bool.not_eq_true', Bool.not_eq_false', beq_iff_eq, beq_eq_false_iff_ne, bne_iff_ne, bne_eq_false_iff_eq] at h) <;> (first | (exfalso; first | omega | exact h trivial) | (conv => whnf)))
        | (refine CondG.mk (fun h => ?_) (fun h => ?_) <;> (try simp only [decide_eq_true_eq, decide_eq_false_iff_not, Bool.not_eq_true', Bool.not_eq_false', beq_iff_eq, beq_eq_false_iff_ne, bne_iff_ne, bne_eq_false_iff_eq] at h) <;> (first | (exfalso; first | omega | exact h trivial) | (conv => whnf)))
        | (refine CallX.mk _ _ (by first | exact sortS_pc (nmL vis.reverse) (by omega)) ?_; conv => whnf)
        | (refine CallG.mk _ _ (by first | exact sortS_pc (nmL vis.reverse) (by omega)) ?_; conv => whnf)
        | (refine Ask.mk (by first | omega | (unfold roomOK; simp [cutRows]; done) | (unfold roomOK; simp [cutRows]; omega) | (simp [cutRows]; done) | (simp [cutRows]; omega)) ?_; conv => whnf)
        | (refine SliceG.fr ?_; conv => whnf)
        | (refine idx_at _ (by with_reducible rfl) (by first | assumption | omega) ?_; conv => whnf)
        | ((with_reducible refine row_map (by first | assumption | omega) ?_); conv => whnf)
        | ((with_reducible refine row_set (by first | assumption | omega | (simp only [List.length_set]; omega) | (simp; omega)) ?_); conv => whnf)
        | fail)
      have hk : Keys (fun n => (m.get n).getD 0) (insSort cmpS (nmL vis.reverse)) := by
        refine keys_of hok ((insSort_perm ..).trans hpr) (rise_of (key := id) (insSort_srt (swo_key id) _) ?_)
        rw [List.map_id]
        exact (((insSort_perm ..).trans hpr).nodup_iff).2 (nmL_nd hok)
      have hnl : (insSort cmpS (nmL vis.reverse)).length ≤ 12 := by rw [insSort_len]; omega
      generalize insSort cmpS (nmL vis.reverse) = ns at hk hnl ⊢
      have hnm : (ns.map encS).length = ns.length := List.length_map ..
      refine loop_for (ns.length) [.sl 6 59 2] [0, 6, 24, 25, 26] (fun k (_ : Unit) => [(26, .c (.int .i64 (k : Int)))]) (fun k (_ : Unit) => [(1, .row 59 2 ((prsV (fun n => (m.get n).getD 0) (ns.take k)).map encPr))]) (fun k (_ : Unit) => True) (()) ?_
      conv => whnf
      refine ⟨(by first | rfl | (simp; done) | (simp; rfl)), (by trivial), ?_, ?_⟩
      · intro k _ hk _
        have htl : (ns.take k).length = k := by rw [List.length_take]; omega
        have hpm : (prsV (fun n => (m.get n).getD 0) (ns.take k)).length = k := by unfold prsV; rw [List.length_map, htl]
        have hslm : ((prsV (fun n => (m.get n).getD 0) (ns.take k)).map encPr).length = k := by rw [List.length_map, hpm]
        have hbe := hb ns[k]
        conv => whnf
        repeat' (first
          | (refine Split.mk (fun h => ?_) (fun h => ?_) <;> (try simp only [decide_eq_true_eq, decide_eq_false_iff_not, Bool.not_eq_true', Bool.not_eq_false', beq_iff_eq, beq_eq_false_iff_ne, bne_iff_ne, bne_eq_false_iff_eq] at h) <;> (first | (exfalso; first | omega | exact h trivial) | (conv => whnf)))
          | (refine CondG.mk (fun h => ?_) (fun h => ?_) <;> (try simp only [decide_eq_true_eq, decide_eq_false_iff_not, Bool.not_eq_true', Bool.not_eq_false', beq_iff_eq, beq_eq_false_iff_ne, bne_iff_ne, bne_eq_false_iff_eq] at h) <;> (first | (exfalso; first | omega | exact h trivial) | (conv => whnf)))
          | (refine CallX.mk _ _ (by first | exact itoa_pc _ (Int.le_trans (by decide) (hb _).1) (Int.le_trans (hb _).2 (by decide))) ?_; conv => whnf)
          | (refine CallG.mk _ _ (by first | exact itoa_pc _ (Int.le_trans (by decide) (hb _).1) (Int.le_trans (hb _).2 (by decide))) ?_; conv => whnf)
          | (refine Ask.mk (by first | omega | (unfold roomOK; simp [cutRows]; done) | (unfold roomOK; simp [cutRows]; omega) | (simp [cutRows]; done) | (simp [cutRows]; omega)) ?_; conv => whnf)
          | (refine SliceG.fr ?_; conv => whnf)
          | (refine idx_at _ (by with_reducible rfl) (by first | assumption | omega) ?_; conv => whnf)
          | ((with_reducible refine row_map (by first | assumption | omega) ?_); conv => whnf)
          | ((with_reducible refine row_set (by first | assumption | omega | (simp only [List.length_set]; omega) | (simp; omega)) ?_); conv => whnf)
          | ((with_reducible refine sm_look (ek := ekS) (ev := evI) keyStr _ _ ((0 : Int)) ?_ ?_); exact rfl; conv => whnf)
          | ((with_reducible refine sm_upd (ek := ekS) (ev := evI) keyStr _ _ _ ?_); conv => whnf)
          | ((with_reducible refine sm_del (ek := ekS) (ev := evI) keyStr _ _ ?_); conv => whnf)
          | ((with_reducible refine sm_entry (ek := ekS) (ev := evI) keyStr _ _ ((0 : Int)) ?_ ?_); exact rfl; conv => whnf)
          | fail)
        have h1 : prsV (fun n => (m.get n).getD 0) (ns.take (k + 1)) = prsV (fun n => (m.get n).getD 0) (ns.take k) ++ [(ns[k], itoaB ((m.get ns[k]).getD 0))] := by rw [List.take_succ_eq_append_getElem hk]; unfold prsV; rw [List.map_append]; rfl
        exact count_next () hk (by rw [wrap_succ hk (by omega), h1, List.map_append]; rfl) trivial
      · intro _ _
        rw [List.take_length]
        conv => whnf
        repeat' (first
          | (refine Split.mk (fun h => ?_) (fun h => ?_) <;> (try simp only [decide_eq_true_eq, decide_eq_false_iff_not, Bool.not_eq_true', Bool.not_eq_false', beq_iff_eq, beq_eq_false_iff_ne, bne_iff_ne, bne_eq_false_iff_eq] at h) <;> (first | (exfalso; first | omega | exact h trivial) | (conv => whnf)))
          | (refine CondG.mk (fun h => ?_) (fun h => ?_) <;> (try simp only [decide_eq_true_eq, decide_eq_false_iff_not, Bool.not_eq_true', Bool.not_eq_false', beq_iff_eq, beq_eq_false_iff_ne, bne_iff_ne, bne_eq_false_iff_eq] at h) <;> (first | (exfalso; first | omega | exact h trivial) | (conv => whnf)))
          | (refine Ask.mk (by first | omega | (unfold roomOK; simp [cutRows]; done) | (unfold roomOK; simp [cutRows]; omega) | (simp [cutRows]; done) | (simp [cutRows]; omega)) ?_; conv => whnf)
          | (refine SliceG.fr ?_; conv => whnf)
          | (refine idx_at _ (by with_reducible rfl) (by first | assumption | omega) ?_; conv => whnf)
          | ((with_reducible refine row_map (by first | assumption | omega) ?_); conv => whnf)
          | ((with_reducible refine row_set (by first | assumption | omega | (simp only [List.length_set]; omega) | (simp; omega)) ?_); conv => whnf)
          | fail)
        first
          | exact .mk _ _ ⟨ns, hk, rfl, rfl⟩ (.frz 1 _ _ _ rfl (.weak [_, _] (.fro 1 _ _ rfl) rfl (Nat.le_refl _)))
          | exact .mk _ _ ⟨ns, hk, rfl, rfl⟩ (.frz 1 _ _ _ rfl (.weak [_] (.fro 1 _ _ rfl) rfl (Nat.le_refl _)))
    · conv => whnf
      refine .mk rfl ?_
      conv => whnf
      refine sm_at hok he ?_
      conv => whnf
      repeat' (first
        | (refine Split.mk (fun h => ?_) (fun h => ?_) <;> (try simp only [decide_eq_true_eq, decide_eq_false_iff_not, Bool.not_eq_true', Bool.not_eq_false', beq_iff_eq, beq_eq_false_iff_ne, bne_iff_ne, bne_eq_false_iff_eq] at h) <;> (first | (exfalso; first | omega | exact h trivial) | (conv => whnf)))
        | (refine CondG.mk (fun h => ?_) (fun h => ?_) <;> (try simp only [decide_eq_true_eq, decide_eq_false_iff_not, Bool.not_eq_true', Bool.not_eq_false', beq_iff_eq, beq_eq_false_iff_ne, bne_iff_ne, bne_eq_false_iff_eq] at h) <;> (first | (exfalso; first | omega | exact h trivial) | (conv => whnf)))
        | (refine Ask.mk (by first | omega | (unfold roomOK; simp [cutRows]; done) | (unfold roomOK; simp [cutRows]; omega) | (simp [cutRows]; done) | (simp [cutRows]; omega)) ?_; conv => whnf)
        | (refine SliceG.fr ?_; conv => whnf)
        | (refine idx_at _ (by with_reducible rfl) (by first | assumption | omega) ?_; conv => whnf)
        | ((with_reducible refine row_map (by first | assumption | omega) ?_); conv => whnf)
        | ((with_reducible refine row_set (by first | assumption | omega | (simp only [List.length_set]; omega) | (simp; omega)) ?_); conv => whnf)
        | fail)
      · have h1 : nmL (e :: vis).reverse = nmL vis.reverse ++ [e.2.1] := by simp [nmL, h]
        exact meas_next (e :: vis) (by simp only [List.length_cons]; omega) (by rw [h1, List.map_append]; rfl) hv'
      · have h1 : nmL (e :: vis).reverse = nmL vis.reverse := by simp [nmL, show ¬ 0 < e.2.2 by omega]
        exact meas_next (e :: vis) (by simp only [List.length_cons]; omega) (by rw [h1]; rfl) hv'
set_option maxRecDepth 100000 in
set_option maxHeartbeats 4000000 in
theorem pairsC_pc (a b : ByteArray × ByteArray) : PCp 96 [.agg (encPr a), .agg (encPr b)] [] (.c (.int .i64 (cmpS a.1 b.1))) [] := by
  refine fn_sound (mt := mts) tab_fits tab_mixed Tryz.func96 (by rfl) (by kernel_rfl) (by kernel_rfl) Tryz.results96 (Nat.le_of_ble_eq_true (by kernel_rfl)) ?_
  conv => whnf
  repeat' (first
    | (refine Split.mk (fun h => ?_) (fun h => ?_) <;> (try simp only [decide_eq_true_eq, decide_eq_false_iff_not, Bool.not_eq_true', Bool.not_eq_false', beq_iff_eq, beq_eq_false_iff_ne] at h) <;> (first | (exfalso; first | omega | exact h trivial) | (conv => whnf)))
    | (refine CondG.mk (fun h => ?_) (fun h => ?_) <;> (try simp only [decide_eq_true_eq, decide_eq_false_iff_not, Bool.not_eq_true', Bool.not_eq_false', beq_iff_eq, beq_eq_false_iff_ne] at h) <;> (first | (exfalso; first | omega | exact h trivial) | (conv => whnf)))
    | (refine CallX.mk _ _ (by first | exact sCompare_pc _ _) ?_; conv => whnf)
    | (refine CallG.mk _ _ (by first | exact sCompare_pc _ _) ?_; conv => whnf)
    | (refine Ask.mk (by first | omega | (unfold roomOK; simp [cutRows]; done) | (unfold roomOK; simp [cutRows]; omega)) ?_; conv => whnf)
    | (refine SliceG.fr ?_; conv => whnf)
    | fail)
  exact fini rfl
theorem prsV_perm (g : ByteArray → Int) {a b : List ByteArray} (h : a.Perm b) : (prsV g a).Perm (prsV g b) := h.map _
set_option maxRecDepth 100000 in
set_option maxHeartbeats 4000000 in
theorem rPairs_pc (m : MI) (hok : m.ok) (h12 : m.es.length ≤ 12) (hb : ∀ n, -9000000000000000000 ≤ (m.get n).getD 0 ∧ (m.get n).getD 0 ≤ 9000000000000000000) :
    PCq 59 [.c (.mp 0)] [smO ekS evI m] fun r os => ∃ ns, Keys (fun n => (m.get n).getD 0) ns ∧ r = .c (.row 1) ∧ os = [smO ekS evI m, .row 59 2 ((prsV (fun n => (m.get n).getD 0) ns).map encPr)] := by
  refine fn_soundX (mt := mts) tab_fits tab_mixed Tryz.func59 (by rfl) (by kernel_rfl) (by kernel_rfl) Tryz.results59 (Nat.le_of_ble_eq_true (by kernel_rfl)) ?_
  conv => whnf
  refine loop_meas (fun (vis : List (Nat × ByteArray × Int)) => m.es.length - vis.length) [.sl 3 59 2] [3, 7] (fun (vis : List (Nat × ByteArray × Int)) => ⟨[(3, .c (.row 1)), (7, .c (.ptr 2 0))], [(0, smO ekS evI m), (1, .row 59 2 ((prsV (fun n => (m.get n).getD 0) (nmL vis.reverse)).map encPr)), (2, .iter 0 m.clock (vis.map (·.1)))], 3⟩) (fun (vis : List (Nat × ByteArray × Int)) => Vis m vis) ([]) ?_ ?_
  · conv => whnf
    exact ⟨rfl, Vis.nil _⟩
  · intro vis hv
    have hvl := hv.len
    have hsl := nmL_len vis.reverse
    rw [List.length_reverse] at hsl
    have hpm : (prsV (fun n => (m.get n).getD 0) (nmL vis.reverse)).length = (nmL vis.reverse).length := List.length_map ..
    have hslm : ((prsV (fun n => (m.get n).getD 0) (nmL vis.reverse)).map encPr).length = (nmL vis.reverse).length := by rw [List.length_map, hpm]
    conv => whnf
    refine .mk rfl ?_
    conv => whnf
    refine sm_next hok hv (fun hp => ?_) (fun e he hn hv' hlt => ?_)
    · conv => whnf
      have hpr : (nmL vis.reverse).Perm (nmL m.es) := (((List.reverse_perm vis).trans hp).filter _).map _
      have hS := sort_pcx layPair (encA := encPr) (c := fun a b : ByteArray × ByteArray => cmpS a.1 b.1) (by decide) (fun w => (tab_fits 59 _ rfl).isAgg w) (fun w => (tab_fits 59 _ rfl).sizeOf w) (fun x => rfl) (swo_key Prod.fst) pairsC_pc 59 (prsV (fun n => (m.get n).getD 0) (nmL vis.reverse)) (by omega)
      refine .ex _ hS ?_
      rintro _ _ ⟨ps, hs, rfl, rfl⟩
      have hfst : (prsV (fun n => (m.get n).getD 0) (nmL vis.reverse)).map Prod.fst = nmL vis.reverse := by unfold prsV; rw [List.map_map]; exact List.map_id' _
      have hrise : Rise Prod.fst ps := rise_of hs.2 (by
        refine ((hs.1.map Prod.fst).nodup_iff).2 ?_
        rw [hfst]
        exact (hpr.nodup_iff).2 (nmL_nd hok))
      have hps : ps = prsV (fun n => (m.get n).getD 0) (ps.map Prod.fst) := by
        unfold prsV
        rw [List.map_map]
        refine (List.map_id' ps).symm.trans (List.map_congr_left fun x hx => ?_)
        obtain ⟨n, hn, rfl⟩ := List.mem_map.1 (hs.1.mem_iff.1 hx)
        rfl
      have hk : Keys (fun n => (m.get n).getD 0) (ps.map Prod.fst) := by
        refine keys_of hok (((hs.1.map Prod.fst).trans (by rw [hfst])).trans hpr) ?_
        exact rise_map hrise
      rw [hps]
      conv => whnf
      exact .mk _ _ ⟨_, hk, rfl, rfl⟩ (.mk ⟨rfl, rfl⟩)
    · conv => whnf
      refine .mk rfl ?_
      conv => whnf
      refine sm_at hok he ?_
      conv => whnf
      have hge : (m.get e.2.1).getD 0 = e.2.2 := by rw [get_of_mem hok he]; rfl
      have hbe := hb e.2.1
      rw [hge] at hbe
      repeat' (first
        | (refine Split.mk (fun h => ?_) (fun h => ?_) <;> (try simp only [decide_eq_true_eq, decide_eq_false_iff_not, Bool.not_eq_true', Bool.not_eq_false', beq_iff_eq, beq_eq_false_iff_ne, bne_iff_ne, bne_eq_false_iff_eq] at h) <;> (first | (exfalso; first | omega | exact h trivial) | (conv => whnf)))
        | (refine CondG.mk (fun h => ?_) (fun h => ?_) <;> (try simp only [decide_eq_true_eq, decide_eq_false_iff_not, Bool.not_eq_true', Bool.not_eq_false', beq_iff_eq, beq_eq_false_iff_ne, bne_iff_ne, bne_eq_false_iff_eq] at h) <;> (first | (exfalso; first | omega | exact h trivial) | (conv => whnf)))
        | (refine CallX.mk _ _ (by first | exact itoa_pc e.2.2 (by omega) (by omega)) ?_; conv => whnf)
        | (refine CallG.mk _ _ (by first | exact itoa_pc e.2.2 (by omega) (by omega)) ?_; conv => whnf)
        | (refine Ask.mk (by first | omega | (unfold roomOK; simp [cutRows]; done) | (unfold roomOK; simp [cutRows]; omega) | (simp [cutRows]; done) | (simp [cutRows]; omega)) ?_; conv => whnf)
        | (refine SliceG.fr ?_; conv => whnf)
        | (refine idx_at _ (by with_reducible rfl) (by first | assumption | omega) ?_; conv => whnf)
        | ((with_reducible refine row_map (by first | assumption | omega) ?_); conv => whnf)
        | ((with_reducible refine row_set (by first | assumption | omega | (simp only [List.length_set]; omega) | (simp; omega)) ?_); conv => whnf)
        | fail)
      · have h1 : prsV (fun n => (m.get n).getD 0) (nmL (e :: vis).reverse) = prsV (fun n => (m.get n).getD 0) (nmL vis.reverse) ++ [(e.2.1, itoaB e.2.2)] := by simp [nmL, prsV, h, hge]
        exact meas_next (e :: vis) (by simp only [List.length_cons]; omega) (by rw [h1, List.map_append]; rfl) hv'
      · have h1 : nmL (e :: vis).reverse = nmL vis.reverse := by simp [nmL, show ¬ 0 < e.2.2 by omega]
        exact meas_next (e :: vis) (by simp only [List.length_cons]; omega) (by rw [h1]; rfl) hv'
end Go.Proofs.YtmdcgimpgoacdaaGreatDoor

/- Totals by type, by the program and by the document. -/
namespace Go.Proofs.YtmdcgimpgoacdaaGreatDoor
set_option linter.unusedVariables false
set_option linter.unusedSimpArgs false
open Abs

theorem sumsM_in (l : List Pc) (h : ∀ p ∈ l, 0 ≤ p.long ∧ p.long ≤ 200000) (hl : l.length ≤ 1000000) (n : ByteArray) : -9000000000000000000 ≤ ((sumsM l).get n).getD 0 ∧ ((sumsM l).get n).getD 0 ≤ 9000000000000000000 := by
  rw [sumsM_get l h hl]
  have := sumP_in n l h
  omega
set_option maxRecDepth 100000 in
set_option maxHeartbeats 4000000 in
theorem dTotals_pc (l : List Ac) (t : Int) (h0 : atE l t = 0) (h12 : (stoAt l (cntAt l t)).d.es.length ≤ 12) :
    PCq 11 [.c (.lst 6 (l.map encAc)), .c (.int .i64 t)] [] fun r os => ∃ ns, Keys (fun n => sumP n (dL (stoAt l (cntAt l t)).d.es)) ns ∧ r = .tup [.c (.lst 2 ((prsV (fun n => sumP n (dL (stoAt l (cntAt l t)).d.es)) ns).map encPr)), .c (.int .i64 0)] ∧ os = [] := by
  have hok := stoAt_ok l (cntAt l t)
  have hf : actsFault l = 0 := by
    unfold atE at h0
    split at h0
    · exact h0
    · rename_i h1; omega
  have hlo := longOk_at hf (cntAt l t) (cntAt_le l t)
  have hc := at_ok l t h0
  generalize hs : stoAt l (cntAt l t) = s at hok hc h12 hlo
  have hin : ∀ vis : List DE, (∀ e ∈ vis, e ∈ s.d.es) → ∀ p ∈ dL vis, 0 ≤ p.long ∧ p.long ≤ 200000 := by
    intro vis hv p hp
    obtain ⟨e, he, rfl⟩ := List.mem_map.1 hp
    have := hlo.1 e (hv e he)
    exact ⟨by show 0 ≤ e.2.2.2; omega, by show e.2.2.2 ≤ 200000; omega⟩
  refine fn_soundX (mt := mts) tab_fits tab_mixed Tryz.func11 (by rfl) (by kernel_rfl) (by kernel_rfl) Tryz.results11 (Nat.le_of_ble_eq_true (by kernel_rfl)) ?_
  conv => whnf
  repeat' (first
    | (refine Split.mk (fun h => ?_) (fun h => ?_) <;> (try simp only [decide_eq_true_eq, decide_eq_false_iff_not, Bool.not_eq_true', Bool.not_eq_false', beq_iff_eq, beq_eq_false_iff_ne, bne_iff_ne, bne_eq_false_iff_eq] at h) <;> (first | (exfalso; first | omega | exact h trivial | contradiction | (simp_all [eqRes]; done)) | (conv => whnf)))
    | (refine CondG.mk (fun h => ?_) (fun h => ?_) <;> (try simp only [decide_eq_true_eq, decide_eq_false_iff_not, Bool.not_eq_true', Bool.not_eq_false', beq_iff_eq, beq_eq_false_iff_ne, bne_iff_ne, bne_eq_false_iff_eq] at h) <;> (first | (exfalso; first | omega | exact h trivial | contradiction | (simp_all [eqRes]; done)) | (conv => whnf)))
    | (refine CallX.mk _ _ (by first | exact hc) ?_; conv => whnf)
    | (refine CallG.mk _ _ (by first | exact hc) ?_; conv => whnf)
    | (refine Ask.mk (by first | omega | (unfold roomOK; simp [cutRows]; done) | (unfold roomOK; simp [cutRows]; omega) | (simp [cutRows]; done) | (simp [cutRows]; omega)) ?_; conv => whnf)
    | (refine SliceG.fr ?_; conv => whnf)
    | (refine idx_at _ (by with_reducible rfl) (by first | assumption | omega) ?_; conv => whnf)
    | ((with_reducible refine row_map (by first | assumption | omega) ?_); conv => whnf)
    | ((with_reducible refine row_set (by first | assumption | omega | (simp only [List.length_set]; omega) | (simp; omega)) ?_); conv => whnf)
    | fail)
  refine loop_meas (fun (vis : List DE) => s.d.es.length - vis.length) [] [8, 25] (fun (vis : List DE) => ⟨[(8, .c (.mp 0)), (25, .c (.ptr 1 0))], [(0, smO ekS evI (sumsM (dL vis))), (1, .iter 2 s.d.clock (vis.map (·.1))), (2, stoD s)], 3⟩) (fun (vis : List DE) => Vis s.d vis) ([]) ?_ ?_
  · conv => whnf
    exact ⟨rfl, Vis.nil _⟩
  · intro vis hv
    have hvl := hv.len
    have hdl : (dL vis).length = vis.length := by simp [dL]
    have hsm := sumsM_ok (dL vis)
    conv => whnf
    refine .mk rfl ?_
    conv => whnf
    refine sm_next hok.d hv (fun hp => ?_) (fun e he hn hv' hlt => ?_)
    · have hml := sumsM_len (dL vis)
      have hget : ∀ n, ((sumsM (dL vis)).get n).getD 0 = sumP n (dL s.d.es) := fun n => by
        rw [sumsM_get _ (hin vis hv.sub) (by omega)]
        exact sumP_perm n (hp.map _)
      conv => whnf
      refine .ex _ (dPairs_pc (sumsM (dL vis)) hsm (by omega) (sumsM_in _ (hin vis hv.sub) (by omega))) ?_
      rintro _ _ ⟨ns, hk, rfl, rfl⟩
      simp only [hget] at hk ⊢
      conv => whnf
      exact .mk _ _ ⟨ns, hk, rfl, rfl⟩ (by first | exact .mk ⟨rfl, rfl⟩ | exact .weak _ (.refl _) rfl (Nat.le_refl _))
    · conv => whnf
      refine .mk rfl ?_
      conv => whnf
      refine sm_at hok.d he ?_
      conv => whnf
      repeat' (first
        | (refine Split.mk (fun h => ?_) (fun h => ?_) <;> (try simp only [decide_eq_true_eq, decide_eq_false_iff_not, Bool.not_eq_true', Bool.not_eq_false', beq_iff_eq, beq_eq_false_iff_ne, bne_iff_ne, bne_eq_false_iff_eq] at h) <;> (first | (exfalso; first | omega | exact h trivial) | (conv => whnf)))
        | (refine CondG.mk (fun h => ?_) (fun h => ?_) <;> (try simp only [decide_eq_true_eq, decide_eq_false_iff_not, Bool.not_eq_true', Bool.not_eq_false', beq_iff_eq, beq_eq_false_iff_ne, bne_iff_ne, bne_eq_false_iff_eq] at h) <;> (first | (exfalso; first | omega | exact h trivial) | (conv => whnf)))
        | (refine Ask.mk (by first | omega | (unfold roomOK; simp [cutRows]; done) | (unfold roomOK; simp [cutRows]; omega) | (simp [cutRows]; done) | (simp [cutRows]; omega)) ?_; conv => whnf)
        | (refine SliceG.fr ?_; conv => whnf)
        | (refine idx_at _ (by with_reducible rfl) (by first | assumption | omega) ?_; conv => whnf)
        | ((with_reducible refine row_map (by first | assumption | omega) ?_); conv => whnf)
        | ((with_reducible refine row_set (by first | assumption | omega | (simp only [List.length_set]; omega) | (simp; omega)) ?_); conv => whnf)
        | ((with_reducible refine sm_stamp (ek := ekS) (ev := evI) hsm _ _ _ ?_ ?_); exact rfl; conv => whnf)
        | ((with_reducible refine sm_look (ek := ekS) (ev := evI) keyStr _ _ ((0 : Int)) ?_ ?_); exact rfl; conv => whnf)
        | ((with_reducible refine sm_upd (ek := ekS) (ev := evI) keyStr _ _ _ ?_); conv => whnf)
        | ((with_reducible refine sm_del (ek := ekS) (ev := evI) keyStr _ _ ?_); conv => whnf)
        | ((with_reducible refine sm_entry (ek := ekS) (ev := evI) keyStr _ _ ((0 : Int)) ?_ ?_); exact rfl; conv => whnf)
        | fail)
      exact meas_next (e :: vis) (by simp only [List.length_cons]; omega) rfl hv'
def rTot (ds : List Pc) : MI := sumsM ds.reverse
set_option maxRecDepth 100000 in
set_option maxHeartbeats 4000000 in
theorem rTotals_pc (l : List Ac) (hl : l.length ≤ 100000) (t : Int) (hb : LongR (rtoAt l (cntAt l t))) :
    PCq 18 [.c (.lst 6 (l.map encAc)), .c (.int .i64 t)] [] fun r os => ∃ ns, Keys (fun n => sumP n (stL (rtoAt l (cntAt l t)) (rtoAt l (cntAt l t)).l.es)) ns ∧ r = .c (.row 0) ∧ os = [.row 59 2 ((prsV (fun n => sumP n (stL (rtoAt l (cntAt l t)) (rtoAt l (cntAt l t)).l.es)) ns).map encPr)] := by
  have hS := rStock_pc l hl t (by have := hb.2; omega)
  generalize rtoAt l (cntAt l t) = s at hS hb
  refine fn_soundX (mt := mts) tab_fits tab_mixed Tryz.func18 (by rfl) (by kernel_rfl) (by kernel_rfl) Tryz.results18 (Nat.le_of_ble_eq_true (by kernel_rfl)) ?_
  conv => whnf
  refine .ex _ hS ?_
  rintro _ _ ⟨ds, ⟨hr, hp⟩, rfl, rfl⟩
  have hsl := stL_len s s.l.es
  have hdl : ds.length ≤ 12 := by have := hp.length_eq; have := hb.2; omega
  have hin : ∀ p ∈ ds, 0 ≤ p.long ∧ p.long ≤ 200000 := by
    intro p hq
    have h6 := hp.mem_iff.1 hq
    unfold stL at h6
    obtain ⟨e, he, rfl⟩ := List.mem_map.1 h6
    exact hb.1 e (List.mem_filter.1 he).1
  have hdm : (ds.map encPc).length = ds.length := List.length_map ..
  conv => whnf
  refine loop_for (ds.length) [] [5, 11, 12, 13] (fun k (_ : Unit) => [(13, .c (.int .i64 (k : Int)))]) (fun k (_ : Unit) => [(0, smO ekS evI (sumsM (ds.take k).reverse))]) (fun k (_ : Unit) => True) (()) ?_
  conv => whnf
  refine ⟨?_, (by trivial), ?_, ?_⟩
  · rfl
  · intro k _ hk _
    have hsm := sumsM_ok (ds.take k).reverse
    have hrv : (ds.take (k + 1)).reverse = ds[k] :: (ds.take k).reverse := by rw [List.take_succ_eq_append_getElem hk, List.reverse_append]; rfl
    conv => whnf
    repeat' (first
      | (refine Split.mk (fun h => ?_) (fun h => ?_) <;> (try simp only [decide_eq_true_eq, decide_eq_false_iff_not, Bool.not_eq_true', Bool.not_eq_false', beq_iff_eq, beq_eq_false_iff_ne, bne_iff_ne, bne_eq_false_iff_eq] at h) <;> (first | (exfalso; first | omega | exact h trivial) | (conv => whnf)))
      | (refine CondG.mk (fun h => ?_) (fun h => ?_) <;> (try simp only [decide_eq_true_eq, decide_eq_false_iff_not, Bool.not_eq_true', Bool.not_eq_false', beq_iff_eq, beq_eq_false_iff_ne, bne_iff_ne, bne_eq_false_iff_eq] at h) <;> (first | (exfalso; first | omega | exact h trivial) | (conv => whnf)))
      | (refine Ask.mk (by first | omega | (unfold roomOK; simp [cutRows]; done) | (unfold roomOK; simp [cutRows]; omega) | (simp [cutRows]; done) | (simp [cutRows]; omega)) ?_; conv => whnf)
      | (refine SliceG.fr ?_; conv => whnf)
      | (refine idx_at _ (by with_reducible rfl) (by first | assumption | omega) ?_; conv => whnf)
      | ((with_reducible refine row_map (by first | assumption | omega) ?_); conv => whnf)
      | ((with_reducible refine row_set (by first | assumption | omega | (simp only [List.length_set]; omega) | (simp; omega)) ?_); conv => whnf)
      | ((with_reducible refine sm_stamp (ek := ekS) (ev := evI) hsm _ _ _ ?_ ?_); exact rfl; conv => whnf)
      | ((with_reducible refine sm_look (ek := ekS) (ev := evI) keyStr _ _ ((0 : Int)) ?_ ?_); exact rfl; conv => whnf)
      | ((with_reducible refine sm_upd (ek := ekS) (ev := evI) keyStr _ _ _ ?_); conv => whnf)
      | ((with_reducible refine sm_del (ek := ekS) (ev := evI) keyStr _ _ ?_); conv => whnf)
      | ((with_reducible refine sm_entry (ek := ekS) (ev := evI) keyStr _ _ ((0 : Int)) ?_ ?_); exact rfl; conv => whnf)
      | fail)
    exact count_next () hk (by rw [wrap_succ hk (by omega), hrv]; rfl) trivial
  · intro _ _
    rw [List.take_length]
    have hml := sumsM_len ds.reverse
    rw [List.length_reverse] at hml
    have hin' : ∀ p ∈ ds.reverse, 0 ≤ p.long ∧ p.long ≤ 200000 := fun p hq => hin p (List.mem_reverse.1 hq)
    have hget : ∀ n, ((sumsM ds.reverse).get n).getD 0 = sumP n (stL s s.l.es) := fun n => by
      rw [sumsM_get _ hin' (by simp; omega)]
      exact sumP_perm n ((List.reverse_perm ds).trans hp)
    conv => whnf
    repeat' (first
      | (refine Split.mk (fun h => ?_) (fun h => ?_) <;> (try simp only [decide_eq_true_eq, decide_eq_false_iff_not, Bool.not_eq_true', Bool.not_eq_false', beq_iff_eq, beq_eq_false_iff_ne, bne_iff_ne, bne_eq_false_iff_eq] at h) <;> (first | (exfalso; first | omega | exact h trivial) | (conv => whnf)))
      | (refine CondG.mk (fun h => ?_) (fun h => ?_) <;> (try simp only [decide_eq_true_eq, decide_eq_false_iff_not, Bool.not_eq_true', Bool.not_eq_false', beq_iff_eq, beq_eq_false_iff_ne, bne_iff_ne, bne_eq_false_iff_eq] at h) <;> (first | (exfalso; first | omega | exact h trivial) | (conv => whnf)))
      | (refine Ask.mk (by first | omega | (unfold roomOK; simp [cutRows]; done) | (unfold roomOK; simp [cutRows]; omega) | (simp [cutRows]; done) | (simp [cutRows]; omega)) ?_; conv => whnf)
      | (refine SliceG.fr ?_; conv => whnf)
      | (refine idx_at _ (by with_reducible rfl) (by first | assumption | omega) ?_; conv => whnf)
      | ((with_reducible refine row_map (by first | assumption | omega) ?_); conv => whnf)
      | ((with_reducible refine row_set (by first | assumption | omega | (simp only [List.length_set]; omega) | (simp; omega)) ?_); conv => whnf)
      | fail)
    refine .ex _ (rPairs_pc (sumsM ds.reverse) (sumsM_ok _) (by omega) (sumsM_in _ hin' (by simp; omega))) ?_
    rintro _ _ ⟨ns, hk, rfl, rfl⟩
    simp only [hget] at hk ⊢
    conv => whnf
    exact .mk _ _ ⟨ns, hk, rfl, rfl⟩ (.mk ⟨rfl, rfl⟩)
end Go.Proofs.YtmdcgimpgoacdaaGreatDoor

/- Lists of acts joined and sorted: by the program and by the document. -/
namespace Go.Proofs.YtmdcgimpgoacdaaGreatDoor
set_option linter.unusedVariables false
set_option linter.unusedSimpArgs false
open Abs

/-- a comparison -/
structure Cmp {α : Type} (c : α → α → Int) : Prop where
  anti : ∀ a b, c b a = - c a b
  trans : ∀ a b d, c a b ≤ 0 → c b d ≤ 0 → c a d ≤ 0
theorem Cmp.lt {α : Type} {c : α → α → Int} (h : Cmp c) {a b d : α} (h1 : c a b ≤ 0) (h2 : c b d ≤ 0) (h3 : c a b < 0 ∨ c b d < 0) : c a d < 0 := by
  have h4 := h.trans a b d h1 h2
  rcases Int.lt_or_le (c a d) 0 with h5 | h5
  · exact h5
  · have a1 := h.anti a d
    have a2 := h.anti a b
    have a3 := h.anti b d
    rcases h3 with h3 | h3
    · have := h.trans b d a h2 (by omega); omega
    · have := h.trans d a b (by omega) h1; omega
theorem Cmp.swo {α : Type} {c : α → α → Int} (h : Cmp c) : SWOc c where
  irrefl x := by have := h.anti x x; omega
  trans x y z h1 h2 := h.lt (by omega) (by omega) (.inl h1)
  ntrans x y z h1 h2 := by
    have a1 := h.anti x y
    have a2 := h.anti y z
    have a3 := h.anti x z
    have := h.trans z y x (by omega) (by omega)
    omega
theorem Cmp.lex {α : Type} {c1 c2 : α → α → Int} (h1 : Cmp c1) (h2 : Cmp c2) : Cmp fun a b => if c1 a b = 0 then c2 a b else c1 a b where
  anti a b := by
    have a1 := h1.anti a b
    have a2 := h2.anti a b
    split <;> split <;> omega
  trans a b d g1 g2 := by
    have a1 := h1.anti a b
    have a2 := h1.anti b d
    have a3 := h1.anti a d
    by_cases e1 : c1 a b = 0
    · rw [if_pos e1] at g1
      by_cases e2 : c1 b d = 0
      · rw [if_pos e2] at g2
        have t1 := h1.trans a b d (by omega) (by omega)
        have t2 := h1.trans d b a (by omega) (by omega)
        rw [if_pos (by omega)]
        exact h2.trans a b d g1 g2
      · rw [if_neg e2] at g2
        have := h1.lt (a := a) (b := b) (d := d) (by omega) (by omega) (.inr (by omega))
        rw [if_neg (by omega)]; omega
    · rw [if_neg e1] at g1
      have t0 : c1 b d ≤ 0 := by
        by_cases e2 : c1 b d = 0
        · omega
        · rw [if_neg e2] at g2; exact g2
      have := h1.lt (a := a) (b := b) (d := d) (by omega) t0 (.inl (by omega))
      rw [if_neg (by omega)]; omega
theorem cmp_int {α : Type} (f : α → Int) : Cmp fun a b => cmpI (f a) (f b) where
  anti a b := by simp only [cmpI]; (repeat' split) <;> omega
  trans a b d := by simp only [cmpI]; (repeat' split) <;> omega
theorem cmp_str {α : Type} (f : α → ByteArray) : Cmp fun a b => cmpS (f a) (f b) where
  anti a b := cmpS_swap ..
  trans a b d h1 h2 := by
    have key : ∀ x y : ByteArray, cmpS x y ≤ 0 ↔ (ltB x y = true ∨ x = y) := fun x y => by rw [← cmp_lt, ← cmp_zero]; omega
    rw [key] at h1 h2 ⊢
    rcases h1 with h1 | h1
    · rcases h2 with h2 | h2
      · exact .inl (ltB_trans h1 h2)
      · rw [← h2]; exact .inl h1
    · rw [h1]; exact h2
theorem cmp_null {α : Type} : Cmp fun _ _ : α => 0 := ⟨fun _ _ => rfl, fun _ _ _ _ _ => Int.le_refl _⟩
theorem cmp_time : Cmp timeC :=
  (cmp_int Ac.mo).lex ((cmp_str Ac.drum).lex ((cmp_int Ac.kd).lex ((cmp_str Ac.ty).lex ((cmp_str Ac.of).lex ((cmp_int Ac.long).lex cmp_null)))))
theorem time_zero {x y : Ac} (h : timeC x y = 0) : x = y := by
  have key : ∀ l : List Int, firstErr l = 0 → ∀ z ∈ l, z = 0 := by
    intro l
    induction l with
    | nil => intro _ z hz; cases hz
    | cons a r ih =>
      intro h z hz
      simp only [firstErr] at h
      by_cases ha : a = 0
      · rw [if_pos ha] at h
        rcases List.mem_cons.1 hz with e | e
        · rw [e, ha]
        · exact ih h z e
      · rw [if_neg ha] at h; exact (ha h).elim
  have h6 := key _ h
  obtain ⟨a1, a2, a3, a4, a5, a6⟩ := x
  obtain ⟨b1, b2, b3, b4, b5, b6⟩ := y
  simp only [List.mem_cons, List.not_mem_nil, or_false, forall_eq_or_imp, forall_eq] at h6
  obtain ⟨g1, g2, g3, g4, g5, g6⟩ := h6
  rw [cmpI_zero] at g1 g3 g6
  rw [cmpS_zero] at g2 g4 g5
  subst g1 g2 g3 g4 g5 g6
  rfl
theorem time_one {a b : List Ac} (hp : a.Perm b) (ha : a.Pairwise fun x y => ¬ timeC y x < 0) (hb : b.Pairwise fun x y => ¬ timeC y x < 0) : a = b :=
  sorted_one cmp_time.swo (fun x y h1 h2 => time_zero (by have := cmp_time.anti x y; omega)) hp ha hb
def mgV (a b : List Ac) : List Ac := cpt (insSort timeC (a ++ b))
set_option maxRecDepth 100000 in
set_option maxHeartbeats 4000000 in
theorem dMerge_pc (a b : List Ac) (hl : a.length + b.length < 20) :
    PCp 8 [.c (.lst 6 (a.map encAc)), .c (.lst 6 (b.map encAc))] [] (.tup [.c (.lst 6 ((if firstErr [actsFault a, actsFault b] = 0 then mgV a b else []).map encAc)), .c (.int .i64 (firstErr [actsFault a, actsFault b]))]) [] := by
  have hle := cpt_len (insSort timeC (a ++ b))
  rw [insSort_len, List.length_append] at hle
  obtain ⟨ob, hob, hc⟩ := cptAc_pc (insSort timeC (a ++ b)) (by rw [insSort_len, List.length_append]; omega)
  have hlm : ((cpt (insSort timeC (a ++ b))).map encAc).length = (cpt (insSort timeC (a ++ b))).length := List.length_map ..
  refine fn_sound (mt := mts) tab_fits tab_mixed Tryz.func8 (by rfl) (by kernel_rfl) (by kernel_rfl) Tryz.results8 (Nat.le_of_ble_eq_true (by kernel_rfl)) ?_
  conv => whnf
  repeat' (first
    | (refine Split.mk (fun h => ?_) (fun h => ?_) <;> (try simp only [decide_eq_true_eq, decide_eq_false_iff_not, Bool.not_eq_true', Bool.not_eq_false', beq_iff_eq, beq_eq_false_iff_ne, bne_iff_ne, bne_eq_false_iff_eq] at h) <;> (first | (exfalso; first | omega | exact h trivial) | (conv => whnf)))
    | (refine CondG.mk (fun h => ?_) (fun h => ?_) <;> (try simp only [decide_eq_true_eq, decide_eq_false_iff_not, Bool.not_eq_true', Bool.not_eq_false', beq_iff_eq, beq_eq_false_iff_ne, bne_iff_ne, bne_eq_false_iff_eq] at h) <;> (first | (exfalso; first | omega | exact h trivial) | (conv => whnf)))
    | (refine CallX.mk _ _ (by first | exact checkActs_pc _ | exact first_pc [actsFault a, actsFault b] (by simp) | exact concat_pc a b (by omega) (by omega) | exact stAct_pc _ timeC byTime_pc (a ++ b) (by simp; omega)) ?_; conv => whnf)
    | (refine CallG.mk _ _ (by first | exact checkActs_pc _ | exact first_pc [actsFault a, actsFault b] (by simp) | exact concat_pc a b (by omega) (by omega) | exact stAct_pc _ timeC byTime_pc (a ++ b) (by simp; omega)) ?_; conv => whnf)
    | (refine Ask.mk (by first | omega | (unfold roomOK; simp [cutRows]; done) | (unfold roomOK; simp [cutRows]; omega) | (simp [cutRows]; done) | (simp [cutRows]; omega)) ?_; conv => whnf)
    | (refine SliceG.fr ?_; conv => whnf)
    | (refine idx_at _ (by with_reducible rfl) (by first | assumption | omega) ?_; conv => whnf)
    | ((with_reducible refine row_map (by first | assumption | omega) ?_); conv => whnf)
    | ((with_reducible refine row_set (by first | assumption | omega | (simp only [List.length_set]; omega) | (simp; omega)) ?_); conv => whnf)
    | fail)
  · rw [if_neg h]
    refine .weak [] (.tup _ _ rfl ?_) rfl (Nat.le_refl _)
    intro i x y hx hy
    match i with
    | 0 => cases hx; cases hy; exact .nil 6
    | 1 => cases hx; cases hy; exact .refl _
    | n + 2 => cases hx
  · refine .mk _ _ hc ?_
    conv => whnf
    have h0 : firstErr [actsFault a, actsFault b] = 0 := by omega
    rcases hob with ⟨rows, rfl⟩ | rfl
    · conv => whnf
      refine .mk (fun h => ?_) (fun h => ?_)
      · simp at h; omega
      conv => whnf
      rw [if_pos h0, h0]
      exact .mk ⟨rfl, rfl⟩
    · conv => whnf
      refine .mk (fun h => ?_) (fun h => ?_)
      · simp at h; omega
      conv => whnf
      rw [if_pos h0, h0]
      exact .mk ⟨rfl, rfl⟩
end Go.Proofs.YtmdcgimpgoacdaaGreatDoor

/- MergedActs: the document's list. -/
namespace Go.Proofs.YtmdcgimpgoacdaaGreatDoor
set_option linter.unusedVariables false
set_option linter.unusedSimpArgs false
open Abs

abbrev OkAc := {x : Ac // actErr x = 0}
theorem swo_ok : SWOc fun x y : OkAc => timeC x.1 y.1 := ⟨fun x => cmp_time.swo.irrefl x.1, fun x y z => cmp_time.swo.trans x.1 y.1 z.1, fun x y z => cmp_time.swo.ntrans x.1 y.1 z.1⟩
theorem ord_ok (x y : OkAc) : ordC x.1 y.1 = timeC x.1 y.1 := (ord_time y.2 x.2).1
theorem sortActs_pc (l : List OkAc) (hl : l.length ≤ 100000) :
    PCq 56 [.c (.row 0), .c (.fn 42 [])] [.row 51 6 (l.map fun x => encAc x.1)] fun r os => ∃ l', Sorted' (fun x y : OkAc => timeC x.1 y.1) l l' ∧ r = .tup [] ∧ os = [.row 51 6 (l'.map fun x => encAc x.1)] :=
  sort_pcx layStoreAct (by decide) (fun w => (tab_fits 51 _ rfl).isAgg w) (fun w => (tab_fits 51 _ rfl).sizeOf w) (fun x => rfl) swo_ok (fun x y => by rw [← ord_ok]; exact actOrder_pc x.1 y.1) _ l (by omega)
theorem sorted_val {l l' : List OkAc} (h : Sorted' (fun x y : OkAc => timeC x.1 y.1) l l') : l'.map (·.1) = insSort timeC (l.map (·.1)) := by
  refine time_one ((h.1.map _).trans (insSort_perm ..).symm) ?_ (insSort_srt cmp_time.swo _)
  rw [List.pairwise_map]
  exact h.2
set_option maxRecDepth 100000 in
set_option maxHeartbeats 4000000 in
theorem rMerged_pc (a b : List Ac) (ha : a.length ≤ 900) (hb' : b.length ≤ 900) (hx : ∀ x ∈ a ++ b, actErr x = 0) :
    PCp 15 [.c (.lst 6 (a.map encAc)), .c (.lst 6 (b.map encAc))] [] (.tup [.c (.lst 6 ((mgV a b).map encAc)), .c (.int .i64 0)]) [] := by
  have hle := cpt_len (insSort timeC (a ++ b))
  rw [insSort_len, List.length_append] at hle
  obtain ⟨ob, hob, hc⟩ := cptAc_pc (insSort timeC (a ++ b)) (by rw [insSort_len, List.length_append]; omega)
  have hlm : ((cpt (insSort timeC (a ++ b))).map encAc).length = (cpt (insSort timeC (a ++ b))).length := List.length_map ..
  obtain ⟨l, hl⟩ : ∃ l : List OkAc, l.map (·.1) = a ++ b := ⟨(a ++ b).attachWith _ hx, by simp⟩
  have hlen : l.length ≤ 100000 := by
    have := congrArg List.length hl
    simp at this; omega
  have henc : (a ++ b).map encAc = l.map fun x => encAc x.1 := by rw [← hl, List.map_map]; rfl
  have hcc := concat_pc a b (by omega) (by omega)
  rw [henc] at hcc
  refine fn_sound (mt := mts) tab_fits tab_mixed Tryz.func15 (by rfl) (by kernel_rfl) (by kernel_rfl) Tryz.results15 (Nat.le_of_ble_eq_true (by kernel_rfl)) ?_
  conv => whnf
  refine .mk _ _ hcc ?_
  conv => whnf
  refine .ex _ (sortActs_pc l hlen) ?_
  rintro _ _ ⟨l', hs, rfl, rfl⟩
  have hv := sorted_val hs
  rw [hl] at hv
  rw [show (l'.map fun x => encAc x.1) = (insSort timeC (a ++ b)).map encAc by rw [← hv, List.map_map]; rfl]
  conv => whnf
  refine .mk _ _ hc ?_
  conv => whnf
  rcases hob with ⟨rows, rfl⟩ | rfl
  · conv => whnf
    refine .mk (fun h => ?_) (fun h => ?_)
    · simp at h; omega
    conv => whnf
    exact .mk ⟨rfl, rfl⟩
  · conv => whnf
    refine .mk (fun h => ?_) (fun h => ?_)
    · simp at h; omega
    conv => whnf
    exact .mk ⟨rfl, rfl⟩
end Go.Proofs.YtmdcgimpgoacdaaGreatDoor

/- Refused acts, by the program. -/
namespace Go.Proofs.YtmdcgimpgoacdaaGreatDoor
set_option linter.unusedVariables false
set_option linter.unusedSimpArgs false
open Abs

/-- acts refused, and why -/
def pRef (l : List Ac) : Nat → List Int
  | 0 => []
  | k + 1 => if (takeS (stoAt l k) (l.getD k ⟨0, 0, bE, bE, bE, 0⟩)).2.2 = 0 then pRef l k else pRef l k ++ [(k : Int)]
def pWhy (l : List Ac) : Nat → List Int
  | 0 => []
  | k + 1 => if (takeS (stoAt l k) (l.getD k ⟨0, 0, bE, bE, bE, 0⟩)).2.2 = 0 then pWhy l k else pWhy l k ++ [(takeS (stoAt l k) (l.getD k ⟨0, 0, bE, bE, bE, 0⟩)).2.2]
theorem pRef_len (l : List Ac) : ∀ k, (pRef l k).length = (pWhy l k).length ∧ (pRef l k).length ≤ k
  | 0 => ⟨rfl, Nat.le_refl _⟩
  | k + 1 => by
    have := pRef_len l k
    unfold pRef pWhy
    split
    · omega
    · simp; omega
set_option maxRecDepth 100000 in
set_option maxHeartbeats 4000000 in
theorem ref0_nil (s : Sto) (i : Int) (of : ByteArray) (e : Int) (he : e = 0) :
    PCp 48 [.c (.ptr 0 0), .c (.int .i64 i), .c (.str of), .c (.int .i64 e), .c (.ptr 3 0), .c (.ptr 4 0)] [stBox, stoD s, stoK s, .box [.nils], .box [.nils]] (.tup []) [stBox, stoD s, stoK s, .box [.nils], .box [.nils]] := by
  subst he
  refine fn_sound (mt := mts) tab_fits tab_mixed Tryz.func48 (by rfl) (by kernel_rfl) (by kernel_rfl) Tryz.results48 (Nat.le_of_ble_eq_true (by kernel_rfl)) ?_
  conv => whnf
  repeat' (first
    | (refine Split.mk (fun h => ?_) (fun h => ?_) <;> (try simp only [decide_eq_true_eq, decide_eq_false_iff_not, Bool.not_eq_true', Bool.not_eq_false', beq_iff_eq, beq_eq_false_iff_ne, bne_iff_ne, bne_eq_false_iff_eq] at h) <;> (first | (exfalso; first | omega | exact h trivial | contradiction | (simp_all [eqRes]; done)) | (conv => whnf)))
    | (refine CondG.mk (fun h => ?_) (fun h => ?_) <;> (try simp only [decide_eq_true_eq, decide_eq_false_iff_not, Bool.not_eq_true', Bool.not_eq_false', beq_iff_eq, beq_eq_false_iff_ne, bne_iff_ne, bne_eq_false_iff_eq] at h) <;> (first | (exfalso; first | omega | exact h trivial | contradiction | (simp_all [eqRes]; done)) | (conv => whnf)))
    | (refine Ask.mk (by first | omega | (unfold roomOK; simp [cutRows]; done) | (unfold roomOK; simp [cutRows]; omega) | (simp [cutRows]; done) | (simp [cutRows]; omega)) ?_; conv => whnf)
    | (refine SliceG.fr ?_; conv => whnf)
    | (refine idx_at _ (by with_reducible rfl) (by first | assumption | omega) ?_; conv => whnf)
    | ((with_reducible refine row_map (by first | assumption | omega) ?_); conv => whnf)
    | ((with_reducible refine row_set (by first | assumption | omega | (simp only [List.length_set]; omega) | (simp; omega)) ?_); conv => whnf)
    | fail)
  exact .mk ⟨rfl, rfl⟩
set_option maxRecDepth 100000 in
set_option maxHeartbeats 4000000 in
theorem ref0_row (s : Sto) (i : Int) (of : ByteArray) (e : Int) (he : e = 0) (o y : List Int) :
    PCp 48 [.c (.ptr 0 0), .c (.int .i64 i), .c (.str of), .c (.int .i64 e), .c (.ptr 3 0), .c (.ptr 5 0)] [stBox, stoD s, stoK s, .box [.row 4], .row 3 1 (o.map encI), .box [.row 6], .row 30 1 (y.map encI)] (.tup []) [stBox, stoD s, stoK s, .box [.row 4], .row 3 1 (o.map encI), .box [.row 6], .row 30 1 (y.map encI)] := by
  subst he
  refine fn_sound (mt := mts) tab_fits tab_mixed Tryz.func48 (by rfl) (by kernel_rfl) (by kernel_rfl) Tryz.results48 (Nat.le_of_ble_eq_true (by kernel_rfl)) ?_
  conv => whnf
  repeat' (first
    | (refine Split.mk (fun h => ?_) (fun h => ?_) <;> (try simp only [decide_eq_true_eq, decide_eq_false_iff_not, Bool.not_eq_true', Bool.not_eq_false', beq_iff_eq, beq_eq_false_iff_ne, bne_iff_ne, bne_eq_false_iff_eq] at h) <;> (first | (exfalso; first | omega | exact h trivial | contradiction | (simp_all [eqRes]; done)) | (conv => whnf)))
    | (refine CondG.mk (fun h => ?_) (fun h => ?_) <;> (try simp only [decide_eq_true_eq, decide_eq_false_iff_not, Bool.not_eq_true', Bool.not_eq_false', beq_iff_eq, beq_eq_false_iff_ne, bne_iff_ne, bne_eq_false_iff_eq] at h) <;> (first | (exfalso; first | omega | exact h trivial | contradiction | (simp_all [eqRes]; done)) | (conv => whnf)))
    | (refine Ask.mk (by first | omega | (unfold roomOK; simp [cutRows]; done) | (unfold roomOK; simp [cutRows]; omega) | (simp [cutRows]; done) | (simp [cutRows]; omega)) ?_; conv => whnf)
    | (refine SliceG.fr ?_; conv => whnf)
    | (refine idx_at _ (by with_reducible rfl) (by first | assumption | omega) ?_; conv => whnf)
    | ((with_reducible refine row_map (by first | assumption | omega) ?_); conv => whnf)
    | ((with_reducible refine row_set (by first | assumption | omega | (simp only [List.length_set]; omega) | (simp; omega)) ?_); conv => whnf)
    | fail)
  exact .mk ⟨rfl, rfl⟩
set_option maxRecDepth 100000 in
set_option maxHeartbeats 4000000 in
theorem ref1_nil (s : Sto) (i : Int) (of : ByteArray) (e : Int) (he : e ≠ 0) :
    PCp 48 [.c (.ptr 0 0), .c (.int .i64 i), .c (.str of), .c (.int .i64 e), .c (.ptr 3 0), .c (.ptr 4 0)] [stBox, stoD s, stoK s, .box [.nils], .box [.nils]] (.tup []) [stBox, stoD s, stoK s, .box [.row 5], .box [.row 6], .row 3 1 ([i].map encI), .row 30 1 ([e].map encI)] := by
  refine fn_sound (mt := mts) tab_fits tab_mixed Tryz.func48 (by rfl) (by kernel_rfl) (by kernel_rfl) Tryz.results48 (Nat.le_of_ble_eq_true (by kernel_rfl)) ?_
  conv => whnf
  repeat' (first
    | (refine Split.mk (fun h => ?_) (fun h => ?_) <;> (try simp only [decide_eq_true_eq, decide_eq_false_iff_not, Bool.not_eq_true', Bool.not_eq_false', beq_iff_eq, beq_eq_false_iff_ne, bne_iff_ne, bne_eq_false_iff_eq] at h) <;> (first | (exfalso; first | omega | exact h trivial | contradiction | (simp_all [eqRes]; done)) | (conv => whnf)))
    | (refine CondG.mk (fun h => ?_) (fun h => ?_) <;> (try simp only [decide_eq_true_eq, decide_eq_false_iff_not, Bool.not_eq_true', Bool.not_eq_false', beq_iff_eq, beq_eq_false_iff_ne, bne_iff_ne, bne_eq_false_iff_eq] at h) <;> (first | (exfalso; first | omega | exact h trivial | contradiction | (simp_all [eqRes]; done)) | (conv => whnf)))
    | (refine Ask.mk (by first | omega | (unfold roomOK; simp [cutRows]; done) | (unfold roomOK; simp [cutRows]; omega) | (simp [cutRows]; done) | (simp [cutRows]; omega)) ?_; conv => whnf)
    | (refine SliceG.fr ?_; conv => whnf)
    | (refine idx_at _ (by with_reducible rfl) (by first | assumption | omega) ?_; conv => whnf)
    | ((with_reducible refine row_map (by first | assumption | omega) ?_); conv => whnf)
    | ((with_reducible refine row_set (by first | assumption | omega | (simp only [List.length_set]; omega) | (simp; omega)) ?_); conv => whnf)
    | fail)
  exact .mk ⟨rfl, rfl⟩
set_option maxRecDepth 100000 in
set_option maxHeartbeats 4000000 in
theorem ref1_row (s : Sto) (i : Int) (of : ByteArray) (e : Int) (he : e ≠ 0) (o y : List Int) (ho : o.length ≤ 100000) (hy : y.length ≤ 100000) :
    PCp 48 [.c (.ptr 0 0), .c (.int .i64 i), .c (.str of), .c (.int .i64 e), .c (.ptr 3 0), .c (.ptr 5 0)] [stBox, stoD s, stoK s, .box [.row 4], .row 3 1 (o.map encI), .box [.row 6], .row 30 1 (y.map encI)] (.tup []) [stBox, stoD s, stoK s, .box [.row 7], .dead, .box [.row 8], .dead, .row 3 1 ((o ++ [i]).map encI), .row 30 1 ((y ++ [e]).map encI)] := by
  have hom : (o.map encI).length = o.length := List.length_map ..
  have hym : (y.map encI).length = y.length := List.length_map ..
  refine fn_sound (mt := mts) tab_fits tab_mixed Tryz.func48 (by rfl) (by kernel_rfl) (by kernel_rfl) Tryz.results48 (Nat.le_of_ble_eq_true (by kernel_rfl)) ?_
  conv => whnf
  repeat' (first
    | (refine Split.mk (fun h => ?_) (fun h => ?_) <;> (try simp only [decide_eq_true_eq, decide_eq_false_iff_not, Bool.not_eq_true', Bool.not_eq_false', beq_iff_eq, beq_eq_false_iff_ne, bne_iff_ne, bne_eq_false_iff_eq] at h) <;> (first | (exfalso; first | omega | exact h trivial | contradiction | (simp_all [eqRes]; done)) | (conv => whnf)))
    | (refine CondG.mk (fun h => ?_) (fun h => ?_) <;> (try simp only [decide_eq_true_eq, decide_eq_false_iff_not, Bool.not_eq_true', Bool.not_eq_false', beq_iff_eq, beq_eq_false_iff_ne, bne_iff_ne, bne_eq_false_iff_eq] at h) <;> (first | (exfalso; first | omega | exact h trivial | contradiction | (simp_all [eqRes]; done)) | (conv => whnf)))
    | (refine Ask.mk (by first | omega | (unfold roomOK; simp [cutRows]; done) | (unfold roomOK; simp [cutRows]; omega) | (simp [cutRows]; done) | (simp [cutRows]; omega)) ?_; conv => whnf)
    | (refine SliceG.fr ?_; conv => whnf)
    | (refine idx_at _ (by with_reducible rfl) (by first | assumption | omega) ?_; conv => whnf)
    | ((with_reducible refine row_map (by first | assumption | omega) ?_); conv => whnf)
    | ((with_reducible refine row_set (by first | assumption | omega | (simp only [List.length_set]; omega) | (simp; omega)) ?_); conv => whnf)
    | fail)
  rw [List.map_append, List.map_append]
  exact .mk ⟨rfl, rfl⟩
/-- the lists behind the first acts: nil as long as there is none -/
def refO (l : List Ac) (k : Nat) : List (Nat × Ob) :=
  if pRef l k = [] then [(0, .box [.nils]), (1, .box [.nils]), (2, .box [.mp 3, .mp 4]), (3, stoD (stoAt l k)), (4, stoK (stoAt l k))]
  else [(0, .box [.row 2]), (1, .box [.row 3]), (2, .row 3 1 ((pRef l k).map encI)), (3, .row 30 1 ((pWhy l k).map encI)), (4, .box [.mp 5, .mp 6]), (5, stoD (stoAt l k)), (6, stoK (stoAt l k))]
def refP (l : List Ac) (k : Nat) : S := if pRef l k = [] then .c (.ptr 2 0) else .c (.ptr 4 0)
theorem refO_len (l : List Ac) (k : Nat) : (refO l k).length = if pRef l k = [] then 5 else 7 := by unfold refO; split <;> rfl
set_option maxRecDepth 100000 in
set_option maxHeartbeats 4000000 in
theorem followR_pc (l : List Ac) (hl : l.length ≤ 100000) :
    PCp 47 [.c (.lst 6 (l.map encAc)), .c (.fn 48 [.ptr 0 0, .ptr 1 0])] [.box [.nils], .box [.nils]] (refP l l.length) ((refO l l.length).map (·.2)) := by
  have hlm : (l.map encAc).length = l.length := List.length_map ..
  refine fn_sound (mt := mts) tab_fits tab_mixed Tryz.func47 (by rfl) (by kernel_rfl) (by kernel_rfl) Tryz.results47 (Nat.le_of_ble_eq_true (by kernel_rfl)) ?_
  conv => whnf
  refine loop_count (l.length) [] [1, 5, 14, 15, 16] (fun k (_ : Unit) => ⟨[(1, .c (.fn 48 [.ptr 0 0, .ptr 1 0])), (5, refP l k), (14, .c (.lst 6 (l.map encAc))), (15, .c (.int .i64 (l.map encAc).length)), (16, .c (.int .i64 (k : Int)))], refO l k, (refO l k).length⟩) (fun k _ => True) () ?_ ?_ ?_
  · conv => whnf
    exact ⟨rfl, trivial⟩
  · intro k _ hk _
    have hg : l.getD k ⟨0, 0, bE, bE, bE, 0⟩ = l[k] := by simp [hk]
    have hlen := pRef_len l k
    by_cases h0 : pRef l k = []
    · have hy0 : pWhy l k = [] := List.length_eq_zero_iff.1 (by rw [← hlen.1, h0]; rfl)
      rw [refO_len, if_pos h0, refO, if_pos h0, refP, if_pos h0]
      conv => whnf
      by_cases he : (takeS (stoAt l k) l[k]).2.2 = 0
      · have h1 : pRef l (k + 1) = [] := by rw [pRef, hg, if_pos he, h0]
        repeat' (first
          | (refine Split.mk (fun h => ?_) (fun h => ?_) <;> (try simp only [decide_eq_true_eq, decide_eq_false_iff_not, Bool.not_eq_true', Bool.not_eq_false', beq_iff_eq, beq_eq_false_iff_ne, bne_iff_ne, bne_eq_false_iff_eq] at h) <;> (first | (exfalso; first | omega | exact h trivial) | (conv => whnf)))
          | (refine CondG.mk (fun h => ?_) (fun h => ?_) <;> (try simp only [decide_eq_true_eq, decide_eq_false_iff_not, Bool.not_eq_true', Bool.not_eq_false', beq_iff_eq, beq_eq_false_iff_ne, bne_iff_ne, bne_eq_false_iff_eq] at h) <;> (first | (exfalso; first | omega | exact h trivial) | (conv => whnf)))
          | (refine CallX.mk _ _ (by first | exact take_pc (stoAt l k) (stoAt_ok l k) l[k] | exact ref0_nil _ _ _ _ he) ?_; conv => whnf)
          | (refine CallG.mk _ _ (by first | exact take_pc (stoAt l k) (stoAt_ok l k) l[k] | exact ref0_nil _ _ _ _ he) ?_; conv => whnf)
          | (refine Ask.mk (by first | omega | (unfold roomOK; simp [cutRows]; done) | (unfold roomOK; simp [cutRows]; omega) | (simp [cutRows]; done) | (simp [cutRows]; omega)) ?_; conv => whnf)
          | (refine SliceG.fr ?_; conv => whnf)
          | (refine idx_at _ (by with_reducible rfl) (by first | assumption | omega) ?_; conv => whnf)
          | ((with_reducible refine row_map (by first | assumption | omega) ?_); conv => whnf)
          | ((with_reducible refine row_set (by first | assumption | omega | (simp only [List.length_set]; omega) | (simp; omega)) ?_); conv => whnf)
          | fail)
        refine count_next () hk (by rw [wrap_succ hk (by omega), refO_len, if_pos h1, refO, if_pos h1, refP, if_pos h1]; simp only [stoAt, hg]; rfl) trivial
      · have h1 : pRef l (k + 1) = [(k : Int)] := by rw [pRef, hg, if_neg he, h0]; rfl
        have h2 : pWhy l (k + 1) = [(takeS (stoAt l k) l[k]).2.2] := by rw [pWhy, hg, if_neg he, hy0]; rfl
        have h3 : pRef l (k + 1) ≠ [] := by rw [h1]; simp
        repeat' (first
          | (refine Split.mk (fun h => ?_) (fun h => ?_) <;> (try simp only [decide_eq_true_eq, decide_eq_false_iff_not, Bool.not_eq_true', Bool.not_eq_false', beq_iff_eq, beq_eq_false_iff_ne, bne_iff_ne, bne_eq_false_iff_eq] at h) <;> (first | (exfalso; first | omega | exact h trivial) | (conv => whnf)))
          | (refine CondG.mk (fun h => ?_) (fun h => ?_) <;> (try simp only [decide_eq_true_eq, decide_eq_false_iff_not, Bool.not_eq_true', Bool.not_eq_false', beq_iff_eq, beq_eq_false_iff_ne, bne_iff_ne, bne_eq_false_iff_eq] at h) <;> (first | (exfalso; first | omega | exact h trivial) | (conv => whnf)))
          | (refine CallX.mk _ _ (by first | exact take_pc (stoAt l k) (stoAt_ok l k) l[k] | exact ref1_nil _ _ _ _ he) ?_; conv => whnf)
          | (refine CallG.mk _ _ (by first | exact take_pc (stoAt l k) (stoAt_ok l k) l[k] | exact ref1_nil _ _ _ _ he) ?_; conv => whnf)
          | (refine Ask.mk (by first | omega | (unfold roomOK; simp [cutRows]; done) | (unfold roomOK; simp [cutRows]; omega) | (simp [cutRows]; done) | (simp [cutRows]; omega)) ?_; conv => whnf)
          | (refine SliceG.fr ?_; conv => whnf)
          | (refine idx_at _ (by with_reducible rfl) (by first | assumption | omega) ?_; conv => whnf)
          | ((with_reducible refine row_map (by first | assumption | omega) ?_); conv => whnf)
          | ((with_reducible refine row_set (by first | assumption | omega | (simp only [List.length_set]; omega) | (simp; omega)) ?_); conv => whnf)
          | fail)
        refine count_next () hk (by rw [wrap_succ hk (by omega), refO_len, if_neg h3, refO, if_neg h3, refP, if_neg h3, h1, h2]; simp only [stoAt, hg]; rfl) trivial
    · rw [refO_len, if_neg h0, refO, if_neg h0, refP, if_neg h0]
      conv => whnf
      by_cases he : (takeS (stoAt l k) l[k]).2.2 = 0
      · have h1 : pRef l (k + 1) = pRef l k := by rw [pRef, hg, if_pos he]
        have h2 : pWhy l (k + 1) = pWhy l k := by rw [pWhy, hg, if_pos he]
        repeat' (first
          | (refine Split.mk (fun h => ?_) (fun h => ?_) <;> (try simp only [decide_eq_true_eq, decide_eq_false_iff_not, Bool.not_eq_true', Bool.not_eq_false', beq_iff_eq, beq_eq_false_iff_ne, bne_iff_ne, bne_eq_false_iff_eq] at h) <;> (first | (exfalso; first | omega | exact h trivial) | (conv => whnf)))
          | (refine CondG.mk (fun h => ?_) (fun h => ?_) <;> (try simp only [decide_eq_true_eq, decide_eq_false_iff_not, Bool.not_eq_true', Bool.not_eq_false', beq_iff_eq, beq_eq_false_iff_ne, bne_iff_ne, bne_eq_false_iff_eq] at h) <;> (first | (exfalso; first | omega | exact h trivial) | (conv => whnf)))
          | (refine CallX.mk _ _ (by first | exact take_pc (stoAt l k) (stoAt_ok l k) l[k] | exact ref0_row _ _ _ _ he _ _) ?_; conv => whnf)
          | (refine CallG.mk _ _ (by first | exact take_pc (stoAt l k) (stoAt_ok l k) l[k] | exact ref0_row _ _ _ _ he _ _) ?_; conv => whnf)
          | (refine Ask.mk (by first | omega | (unfold roomOK; simp [cutRows]; done) | (unfold roomOK; simp [cutRows]; omega) | (simp [cutRows]; done) | (simp [cutRows]; omega)) ?_; conv => whnf)
          | (refine SliceG.fr ?_; conv => whnf)
          | (refine idx_at _ (by with_reducible rfl) (by first | assumption | omega) ?_; conv => whnf)
          | ((with_reducible refine row_map (by first | assumption | omega) ?_); conv => whnf)
          | ((with_reducible refine row_set (by first | assumption | omega | (simp only [List.length_set]; omega) | (simp; omega)) ?_); conv => whnf)
          | fail)
        refine count_next () hk (by rw [wrap_succ hk (by omega), refO_len, h1, if_neg h0, refO, h1, if_neg h0, refP, h1, if_neg h0, h2]; simp only [stoAt, hg]; rfl) trivial
      · have h1 : pRef l (k + 1) = pRef l k ++ [(k : Int)] := by rw [pRef, hg, if_neg he]
        have h2 : pWhy l (k + 1) = pWhy l k ++ [(takeS (stoAt l k) l[k]).2.2] := by rw [pWhy, hg, if_neg he]
        have h3 : pRef l (k + 1) ≠ [] := by rw [h1]; simp
        repeat' (first
          | (refine Split.mk (fun h => ?_) (fun h => ?_) <;> (try simp only [decide_eq_true_eq, decide_eq_false_iff_not, Bool.not_eq_true', Bool.not_eq_false', beq_iff_eq, beq_eq_false_iff_ne, bne_iff_ne, bne_eq_false_iff_eq] at h) <;> (first | (exfalso; first | omega | exact h trivial) | (conv => whnf)))
          | (refine CondG.mk (fun h => ?_) (fun h => ?_) <;> (try simp only [decide_eq_true_eq, decide_eq_false_iff_not, Bool.not_eq_true', Bool.not_eq_false', beq_iff_eq, beq_eq_false_iff_ne, bne_iff_ne, bne_eq_false_iff_eq] at h) <;> (first | (exfalso; first | omega | exact h trivial) | (conv => whnf)))
          | (refine CallX.mk _ _ (by first | exact take_pc (stoAt l k) (stoAt_ok l k) l[k] | exact ref1_row _ _ _ _ he (pRef l k) (pWhy l k) (by omega) (by omega)) ?_; conv => whnf)
          | (refine CallG.mk _ _ (by first | exact take_pc (stoAt l k) (stoAt_ok l k) l[k] | exact ref1_row _ _ _ _ he (pRef l k) (pWhy l k) (by omega) (by omega)) ?_; conv => whnf)
          | (refine Ask.mk (by first | omega | (unfold roomOK; simp [cutRows]; done) | (unfold roomOK; simp [cutRows]; omega) | (simp [cutRows]; done) | (simp [cutRows]; omega)) ?_; conv => whnf)
          | (refine SliceG.fr ?_; conv => whnf)
          | (refine idx_at _ (by with_reducible rfl) (by first | assumption | omega) ?_; conv => whnf)
          | ((with_reducible refine row_map (by first | assumption | omega) ?_); conv => whnf)
          | ((with_reducible refine row_set (by first | assumption | omega | (simp only [List.length_set]; omega) | (simp; omega)) ?_); conv => whnf)
          | fail)
        refine count_next () hk (by rw [wrap_succ hk (by omega), refO_len, if_neg h3, refO, if_neg h3, refP, if_neg h3, h1, h2]; simp only [stoAt, hg]; rfl) trivial
  · intro _ _
    by_cases h0 : pRef l l.length = []
    · rw [refO_len, if_pos h0, refO, if_pos h0, refP, if_pos h0]
      conv => whnf
      repeat' (first
        | (refine Split.mk (fun h => ?_) (fun h => ?_) <;> (try simp only [decide_eq_true_eq, decide_eq_false_iff_not, Bool.not_eq_true', Bool.not_eq_false', beq_iff_eq, beq_eq_false_iff_ne, bne_iff_ne, bne_eq_false_iff_eq] at h) <;> (first | (exfalso; first | omega | exact h trivial | contradiction | (simp_all [eqRes]; done)) | (conv => whnf)))
        | (refine CondG.mk (fun h => ?_) (fun h => ?_) <;> (try simp only [decide_eq_true_eq, decide_eq_false_iff_not, Bool.not_eq_true', Bool.not_eq_false', beq_iff_eq, beq_eq_false_iff_ne, bne_iff_ne, bne_eq_false_iff_eq] at h) <;> (first | (exfalso; first | omega | exact h trivial | contradiction | (simp_all [eqRes]; done)) | (conv => whnf)))
        | (refine Ask.mk (by first | omega | (unfold roomOK; simp [cutRows]; done) | (unfold roomOK; simp [cutRows]; omega) | (simp [cutRows]; done) | (simp [cutRows]; omega)) ?_; conv => whnf)
        | (refine SliceG.fr ?_; conv => whnf)
        | (refine idx_at _ (by with_reducible rfl) (by first | assumption | omega) ?_; conv => whnf)
        | ((with_reducible refine row_map (by first | assumption | omega) ?_); conv => whnf)
        | ((with_reducible refine row_set (by first | assumption | omega | (simp only [List.length_set]; omega) | (simp; omega)) ?_); conv => whnf)
        | fail)
      exact .mk ⟨rfl, rfl⟩
    · rw [refO_len, if_neg h0, refO, if_neg h0, refP, if_neg h0]
      conv => whnf
      repeat' (first
        | (refine Split.mk (fun h => ?_) (fun h => ?_) <;> (try simp only [decide_eq_true_eq, decide_eq_false_iff_not, Bool.not_eq_true', Bool.not_eq_false', beq_iff_eq, beq_eq_false_iff_ne, bne_iff_ne, bne_eq_false_iff_eq] at h) <;> (first | (exfalso; first | omega | exact h trivial | contradiction | (simp_all [eqRes]; done)) | (conv => whnf)))
        | (refine CondG.mk (fun h => ?_) (fun h => ?_) <;> (try simp only [decide_eq_true_eq, decide_eq_false_iff_not, Bool.not_eq_true', Bool.not_eq_false', beq_iff_eq, beq_eq_false_iff_ne, bne_iff_ne, bne_eq_false_iff_eq] at h) <;> (first | (exfalso; first | omega | exact h trivial | contradiction | (simp_all [eqRes]; done)) | (conv => whnf)))
        | (refine Ask.mk (by first | omega | (unfold roomOK; simp [cutRows]; done) | (unfold roomOK; simp [cutRows]; omega) | (simp [cutRows]; done) | (simp [cutRows]; omega)) ?_; conv => whnf)
        | (refine SliceG.fr ?_; conv => whnf)
        | (refine idx_at _ (by with_reducible rfl) (by first | assumption | omega) ?_; conv => whnf)
        | ((with_reducible refine row_map (by first | assumption | omega) ?_); conv => whnf)
        | ((with_reducible refine row_set (by first | assumption | omega | (simp only [List.length_set]; omega) | (simp; omega)) ?_); conv => whnf)
        | fail)
      exact .mk ⟨rfl, rfl⟩
def refV (l : List Ac) : List Int := if actsFault l = 0 then pRef l l.length else []
def whyV (l : List Ac) : List Int := if actsFault l = 0 then pWhy l l.length else []
set_option maxRecDepth 100000 in
set_option maxHeartbeats 4000000 in
theorem dRefused_pc (l : List Ac) (hl : l.length ≤ 100000) :
    PCp 9 [.c (.lst 6 (l.map encAc))] [] (.tup [.c (.lst 1 ((refV l).map encI)), .c (.lst 1 ((whyV l).map encI)), .c (.int .i64 (actsFault l))]) [] := by
  have hc := followR_pc l hl
  have hlen := pRef_len l l.length
  by_cases hf : actsFault l = 0
  · rw [refV, whyV, if_pos hf, if_pos hf, hf]
    by_cases h0 : pRef l l.length = []
    · have hy0 : pWhy l l.length = [] := List.length_eq_zero_iff.1 (by rw [← hlen.1, h0]; rfl)
      rw [refP, refO, if_pos h0, if_pos h0] at hc
      refine fn_sound (mt := mts) tab_fits tab_mixed Tryz.func9 (by rfl) (by kernel_rfl) (by kernel_rfl) Tryz.results9 (Nat.le_of_ble_eq_true (by kernel_rfl)) ?_
      conv => whnf
      repeat' (first
        | (refine Split.mk (fun h => ?_) (fun h => ?_) <;> (try simp only [decide_eq_true_eq, decide_eq_false_iff_not, Bool.not_eq_true', Bool.not_eq_false', beq_iff_eq, beq_eq_false_iff_ne, bne_iff_ne, bne_eq_false_iff_eq] at h) <;> (first | (exfalso; first | omega | exact h trivial | contradiction | (simp_all [eqRes]; done)) | (conv => whnf)))
        | (refine CondG.mk (fun h => ?_) (fun h => ?_) <;> (try simp only [decide_eq_true_eq, decide_eq_false_iff_not, Bool.not_eq_true', Bool.not_eq_false', beq_iff_eq, beq_eq_false_iff_ne, bne_iff_ne, bne_eq_false_iff_eq] at h) <;> (first | (exfalso; first | omega | exact h trivial | contradiction | (simp_all [eqRes]; done)) | (conv => whnf)))
        | (refine CallX.mk _ _ (by first | exact checkActs_pc l | exact hc) ?_; conv => whnf)
        | (refine CallG.mk _ _ (by first | exact checkActs_pc l | exact hc) ?_; conv => whnf)
        | (refine Ask.mk (by first | omega | (unfold roomOK; simp [cutRows]; done) | (unfold roomOK; simp [cutRows]; omega) | (simp [cutRows]; done) | (simp [cutRows]; omega)) ?_; conv => whnf)
        | (refine SliceG.fr ?_; conv => whnf)
        | (refine idx_at _ (by with_reducible rfl) (by first | assumption | omega) ?_; conv => whnf)
        | ((with_reducible refine row_map (by first | assumption | omega) ?_); conv => whnf)
        | ((with_reducible refine row_set (by first | assumption | omega | (simp only [List.length_set]; omega) | (simp; omega)) ?_); conv => whnf)
        | fail)
      rw [h0, hy0]
      refine .weak [] (.tup _ _ rfl ?_) rfl (Nat.le_refl _)
      intro i x y hx hy
      match i with
      | 0 => cases hx; cases hy; exact .nil 1
      | 1 => cases hx; cases hy; exact .nil 1
      | 2 => cases hx; cases hy; exact .refl _
      | n + 3 => cases hx
    · rw [refP, refO, if_neg h0, if_neg h0] at hc
      refine fn_sound (mt := mts) tab_fits tab_mixed Tryz.func9 (by rfl) (by kernel_rfl) (by kernel_rfl) Tryz.results9 (Nat.le_of_ble_eq_true (by kernel_rfl)) ?_
      conv => whnf
      repeat' (first
        | (refine Split.mk (fun h => ?_) (fun h => ?_) <;> (try simp only [decide_eq_true_eq, decide_eq_false_iff_not, Bool.not_eq_true', Bool.not_eq_false', beq_iff_eq, beq_eq_false_iff_ne, bne_iff_ne, bne_eq_false_iff_eq] at h) <;> (first | (exfalso; first | omega | exact h trivial | contradiction | (simp_all [eqRes]; done)) | (conv => whnf)))
        | (refine CondG.mk (fun h => ?_) (fun h => ?_) <;> (try simp only [decide_eq_true_eq, decide_eq_false_iff_not, Bool.not_eq_true', Bool.not_eq_false', beq_iff_eq, beq_eq_false_iff_ne, bne_iff_ne, bne_eq_false_iff_eq] at h) <;> (first | (exfalso; first | omega | exact h trivial | contradiction | (simp_all [eqRes]; done)) | (conv => whnf)))
        | (refine CallX.mk _ _ (by first | exact checkActs_pc l | exact hc) ?_; conv => whnf)
        | (refine CallG.mk _ _ (by first | exact checkActs_pc l | exact hc) ?_; conv => whnf)
        | (refine Ask.mk (by first | omega | (unfold roomOK; simp [cutRows]; done) | (unfold roomOK; simp [cutRows]; omega) | (simp [cutRows]; done) | (simp [cutRows]; omega)) ?_; conv => whnf)
        | (refine SliceG.fr ?_; conv => whnf)
        | (refine idx_at _ (by with_reducible rfl) (by first | assumption | omega) ?_; conv => whnf)
        | ((with_reducible refine row_map (by first | assumption | omega) ?_); conv => whnf)
        | ((with_reducible refine row_set (by first | assumption | omega | (simp only [List.length_set]; omega) | (simp; omega)) ?_); conv => whnf)
        | fail)
      refine .frz 0 _ _ _ rfl (.frz 1 _ _ _ rfl (.weak [_, _] (.tup _ _ rfl ?_) rfl (Nat.le_refl _)))
      intro i x y hx hy
      match i with
      | 0 => cases hx; cases hy; exact .fro 0 _ _ rfl
      | 1 => cases hx; cases hy; exact .fro 1 _ _ rfl
      | 2 => cases hx; cases hy; exact .refl _
      | n + 3 => cases hx
  · rw [refV, whyV, if_neg hf, if_neg hf]
    refine fn_sound (mt := mts) tab_fits tab_mixed Tryz.func9 (by rfl) (by kernel_rfl) (by kernel_rfl) Tryz.results9 (Nat.le_of_ble_eq_true (by kernel_rfl)) ?_
    conv => whnf
    repeat' (first
      | (refine Split.mk (fun h => ?_) (fun h => ?_) <;> (try simp only [decide_eq_true_eq, decide_eq_false_iff_not, Bool.not_eq_true', Bool.not_eq_false', beq_iff_eq, beq_eq_false_iff_ne, bne_iff_ne, bne_eq_false_iff_eq] at h) <;> (first | (exfalso; first | omega | exact h trivial | contradiction | (simp_all [eqRes]; done)) | (conv => whnf)))
      | (refine CondG.mk (fun h => ?_) (fun h => ?_) <;> (try simp only [decide_eq_true_eq, decide_eq_false_iff_not, Bool.not_eq_true', Bool.not_eq_false', beq_iff_eq, beq_eq_false_iff_ne, bne_iff_ne, bne_eq_false_iff_eq] at h) <;> (first | (exfalso; first | omega | exact h trivial | contradiction | (simp_all [eqRes]; done)) | (conv => whnf)))
      | (refine CallX.mk _ _ (by first | exact checkActs_pc l) ?_; conv => whnf)
      | (refine CallG.mk _ _ (by first | exact checkActs_pc l) ?_; conv => whnf)
      | (refine Ask.mk (by first | omega | (unfold roomOK; simp [cutRows]; done) | (unfold roomOK; simp [cutRows]; omega) | (simp [cutRows]; done) | (simp [cutRows]; omega)) ?_; conv => whnf)
      | (refine SliceG.fr ?_; conv => whnf)
      | (refine idx_at _ (by with_reducible rfl) (by first | assumption | omega) ?_; conv => whnf)
      | ((with_reducible refine row_map (by first | assumption | omega) ?_); conv => whnf)
      | ((with_reducible refine row_set (by first | assumption | omega | (simp only [List.length_set]; omega) | (simp; omega)) ?_); conv => whnf)
      | fail)
    refine .weak [] (.tup _ _ rfl ?_) rfl (Nat.le_refl _)
    intro i x y hx hy
    match i with
    | 0 => cases hx; cases hy; exact .nil 1
    | 1 => cases hx; cases hy; exact .nil 1
    | 2 => cases hx; cases hy; exact .refl _
    | n + 3 => cases hx
end Go.Proofs.YtmdcgimpgoacdaaGreatDoor

/- Lists that are the same. -/
namespace Go.Proofs.YtmdcgimpgoacdaaGreatDoor
set_option linter.unusedVariables false
set_option linter.unusedSimpArgs false
open Abs

set_option maxRecDepth 100000 in
set_option maxHeartbeats 4000000 in
theorem eqAcS_pc (l : List Ac) (hl : l.length ≤ 1000000) : PCp 20 [.c (.lst 6 (l.map encAc)), .c (.lst 6 (l.map encAc))] [] (.c (.bool true)) [] := by
  have hlm : (l.map encAc).length = l.length := List.length_map ..
  refine fn_sound (mt := mts) tab_fits tab_mixed Tryz.func20 (by rfl) (by kernel_rfl) (by kernel_rfl) Tryz.results20 (Nat.le_of_ble_eq_true (by kernel_rfl)) ?_
  conv => whnf
  repeat' (first
    | (refine Split.mk (fun h => ?_) (fun h => ?_) <;> (try simp only [decide_eq_true_eq, decide_eq_false_iff_not, Bool.not_eq_true', Bool.not_eq_false', beq_iff_eq, beq_eq_false_iff_ne, bne_iff_ne, bne_eq_false_iff_eq] at h) <;> (first | (exfalso; first | omega | exact h trivial | contradiction | (simp_all [eqRes]; done)) | (conv => whnf)))
    | (refine CondG.mk (fun h => ?_) (fun h => ?_) <;> (try simp only [decide_eq_true_eq, decide_eq_false_iff_not, Bool.not_eq_true', Bool.not_eq_false', beq_iff_eq, beq_eq_false_iff_ne, bne_iff_ne, bne_eq_false_iff_eq] at h) <;> (first | (exfalso; first | omega | exact h trivial | contradiction | (simp_all [eqRes]; done)) | (conv => whnf)))
    | (refine Ask.mk (by first | omega | (unfold roomOK; simp [cutRows]; done) | (unfold roomOK; simp [cutRows]; omega) | (simp [cutRows]; done) | (simp [cutRows]; omega)) ?_; conv => whnf)
    | (refine SliceG.fr ?_; conv => whnf)
    | (refine idx_at _ (by with_reducible rfl) (by first | assumption | omega) ?_; conv => whnf)
    | ((with_reducible refine row_map (by first | assumption | omega) ?_); conv => whnf)
    | ((with_reducible refine row_set (by first | assumption | omega | (simp only [List.length_set]; omega) | (simp; omega)) ?_); conv => whnf)
    | fail)
  refine loop_for (l.length) [] [0, 1, 12, 13] (fun k (_ : Unit) => [(13, .c (.int .i64 (k : Int)))]) (fun k (_ : Unit) => []) (fun k (_ : Unit) => True) (()) ?_
  conv => whnf
  refine ⟨(by first | rfl | (simp; done) | (simp; rfl)), (by trivial), ?_, ?_⟩
  · intro k _ hk _
    conv => whnf
    repeat' (first
      | (refine Split.mk (fun h => ?_) (fun h => ?_) <;> (try simp only [decide_eq_true_eq, decide_eq_false_iff_not, Bool.not_eq_true', Bool.not_eq_false', beq_iff_eq, beq_eq_false_iff_ne, bne_iff_ne, bne_eq_false_iff_eq] at h) <;> (first | (exfalso; first | omega | exact h trivial | contradiction | (simp_all [eqRes]; done)) | (conv => whnf)))
      | (refine CondG.mk (fun h => ?_) (fun h => ?_) <;> (try simp only [decide_eq_true_eq, decide_eq_false_iff_not, Bool.not_eq_true', Bool.not_eq_false', beq_iff_eq, beq_eq_false_iff_ne, bne_iff_ne, bne_eq_false_iff_eq] at h) <;> (first | (exfalso; first | omega | exact h trivial | contradiction | (simp_all [eqRes]; done)) | (conv => whnf)))
      | (refine Ask.mk (by first | omega | (unfold roomOK; simp [cutRows]; done) | (unfold roomOK; simp [cutRows]; omega) | (simp [cutRows]; done) | (simp [cutRows]; omega)) ?_; conv => whnf)
      | (refine SliceG.fr ?_; conv => whnf)
      | (refine idx_at _ (by with_reducible rfl) (by first | assumption | omega) ?_; conv => whnf)
      | ((with_reducible refine row_map (by first | assumption | omega) ?_); conv => whnf)
      | ((with_reducible refine row_set (by first | assumption | omega | (simp only [List.length_set]; omega) | (simp; omega)) ?_); conv => whnf)
      | fail)
    all_goals exact count_next () hk (by rw [wrap_succ hk (by omega)]; rfl) trivial
  · intro _ _
    conv => whnf
    repeat' (first
      | (refine Split.mk (fun h => ?_) (fun h => ?_) <;> (try simp only [decide_eq_true_eq, decide_eq_false_iff_not, Bool.not_eq_true', Bool.not_eq_false', beq_iff_eq, beq_eq_false_iff_ne, bne_iff_ne, bne_eq_false_iff_eq] at h) <;> (first | (exfalso; first | omega | exact h trivial | contradiction | (simp_all [eqRes]; done)) | (conv => whnf)))
      | (refine CondG.mk (fun h => ?_) (fun h => ?_) <;> (try simp only [decide_eq_true_eq, decide_eq_false_iff_not, Bool.not_eq_true', Bool.not_eq_false', beq_iff_eq, beq_eq_false_iff_ne, bne_iff_ne, bne_eq_false_iff_eq] at h) <;> (first | (exfalso; first | omega | exact h trivial | contradiction | (simp_all [eqRes]; done)) | (conv => whnf)))
      | (refine Ask.mk (by first | omega | (unfold roomOK; simp [cutRows]; done) | (unfold roomOK; simp [cutRows]; omega) | (simp [cutRows]; done) | (simp [cutRows]; omega)) ?_; conv => whnf)
      | (refine SliceG.fr ?_; conv => whnf)
      | (refine idx_at _ (by with_reducible rfl) (by first | assumption | omega) ?_; conv => whnf)
      | ((with_reducible refine row_map (by first | assumption | omega) ?_); conv => whnf)
      | ((with_reducible refine row_set (by first | assumption | omega | (simp only [List.length_set]; omega) | (simp; omega)) ?_); conv => whnf)
      | fail)
    all_goals exact .mk ⟨rfl, rfl⟩
set_option maxRecDepth 100000 in
set_option maxHeartbeats 4000000 in
theorem eqErS_pc (l : List Int) (hl : l.length ≤ 1000000) : PCp 22 [.c (.lst 1 (l.map encI)), .c (.lst 1 (l.map encI))] [] (.c (.bool true)) [] := by
  have hlm : (l.map encI).length = l.length := List.length_map ..
  refine fn_sound (mt := mts) tab_fits tab_mixed Tryz.func22 (by rfl) (by kernel_rfl) (by kernel_rfl) Tryz.results22 (Nat.le_of_ble_eq_true (by kernel_rfl)) ?_
  conv => whnf
  repeat' (first
    | (refine Split.mk (fun h => ?_) (fun h => ?_) <;> (try simp only [decide_eq_true_eq, decide_eq_false_iff_not, Bool.not_eq_true', Bool.not_eq_false', beq_iff_eq, beq_eq_false_iff_ne, bne_iff_ne, bne_eq_false_iff_eq] at h) <;> (first | (exfalso; first | omega | exact h trivial | contradiction | (simp_all [eqRes]; done)) | (conv => whnf)))
    | (refine CondG.mk (fun h => ?_) (fun h => ?_) <;> (try simp only [decide_eq_true_eq, decide_eq_false_iff_not, Bool.not_eq_true', Bool.not_eq_false', beq_iff_eq, beq_eq_false_iff_ne, bne_iff_ne, bne_eq_false_iff_eq] at h) <;> (first | (exfalso; first | omega | exact h trivial | contradiction | (simp_all [eqRes]; done)) | (conv => whnf)))
    | (refine Ask.mk (by first | omega | (unfold roomOK; simp [cutRows]; done) | (unfold roomOK; simp [cutRows]; omega) | (simp [cutRows]; done) | (simp [cutRows]; omega)) ?_; conv => whnf)
    | (refine SliceG.fr ?_; conv => whnf)
    | (refine idx_at _ (by with_reducible rfl) (by first | assumption | omega) ?_; conv => whnf)
    | ((with_reducible refine row_map (by first | assumption | omega) ?_); conv => whnf)
    | ((with_reducible refine row_set (by first | assumption | omega | (simp only [List.length_set]; omega) | (simp; omega)) ?_); conv => whnf)
    | fail)
  refine loop_for (l.length) [] [0, 1, 12, 13] (fun k (_ : Unit) => [(13, .c (.int .i64 (k : Int)))]) (fun k (_ : Unit) => []) (fun k (_ : Unit) => True) (()) ?_
  conv => whnf
  refine ⟨(by first | rfl | (simp; done) | (simp; rfl)), (by trivial), ?_, ?_⟩
  · intro k _ hk _
    conv => whnf
    repeat' (first
      | (refine Split.mk (fun h => ?_) (fun h => ?_) <;> (try simp only [decide_eq_true_eq, decide_eq_false_iff_not, Bool.not_eq_true', Bool.not_eq_false', beq_iff_eq, beq_eq_false_iff_ne, bne_iff_ne, bne_eq_false_iff_eq] at h) <;> (first | (exfalso; first | omega | exact h trivial | contradiction | (simp_all [eqRes]; done)) | (conv => whnf)))
      | (refine CondG.mk (fun h => ?_) (fun h => ?_) <;> (try simp only [decide_eq_true_eq, decide_eq_false_iff_not, Bool.not_eq_true', Bool.not_eq_false', beq_iff_eq, beq_eq_false_iff_ne, bne_iff_ne, bne_eq_false_iff_eq] at h) <;> (first | (exfalso; first | omega | exact h trivial | contradiction | (simp_all [eqRes]; done)) | (conv => whnf)))
      | (refine Ask.mk (by first | omega | (unfold roomOK; simp [cutRows]; done) | (unfold roomOK; simp [cutRows]; omega) | (simp [cutRows]; done) | (simp [cutRows]; omega)) ?_; conv => whnf)
      | (refine SliceG.fr ?_; conv => whnf)
      | (refine idx_at _ (by with_reducible rfl) (by first | assumption | omega) ?_; conv => whnf)
      | ((with_reducible refine row_map (by first | assumption | omega) ?_); conv => whnf)
      | ((with_reducible refine row_set (by first | assumption | omega | (simp only [List.length_set]; omega) | (simp; omega)) ?_); conv => whnf)
      | fail)
    all_goals exact count_next () hk (by rw [wrap_succ hk (by omega)]; rfl) trivial
  · intro _ _
    conv => whnf
    repeat' (first
      | (refine Split.mk (fun h => ?_) (fun h => ?_) <;> (try simp only [decide_eq_true_eq, decide_eq_false_iff_not, Bool.not_eq_true', Bool.not_eq_false', beq_iff_eq, beq_eq_false_iff_ne, bne_iff_ne, bne_eq_false_iff_eq] at h) <;> (first | (exfalso; first | omega | exact h trivial | contradiction | (simp_all [eqRes]; done)) | (conv => whnf)))
      | (refine CondG.mk (fun h => ?_) (fun h => ?_) <;> (try simp only [decide_eq_true_eq, decide_eq_false_iff_not, Bool.not_eq_true', Bool.not_eq_false', beq_iff_eq, beq_eq_false_iff_ne, bne_iff_ne, bne_eq_false_iff_eq] at h) <;> (first | (exfalso; first | omega | exact h trivial | contradiction | (simp_all [eqRes]; done)) | (conv => whnf)))
      | (refine Ask.mk (by first | omega | (unfold roomOK; simp [cutRows]; done) | (unfold roomOK; simp [cutRows]; omega) | (simp [cutRows]; done) | (simp [cutRows]; omega)) ?_; conv => whnf)
      | (refine SliceG.fr ?_; conv => whnf)
      | (refine idx_at _ (by with_reducible rfl) (by first | assumption | omega) ?_; conv => whnf)
      | ((with_reducible refine row_map (by first | assumption | omega) ?_); conv => whnf)
      | ((with_reducible refine row_set (by first | assumption | omega | (simp only [List.length_set]; omega) | (simp; omega)) ?_); conv => whnf)
      | fail)
    all_goals exact .mk ⟨rfl, rfl⟩
set_option maxRecDepth 100000 in
set_option maxHeartbeats 4000000 in
theorem eqInS_pc (l : List Int) (hl : l.length ≤ 1000000) : PCp 21 [.c (.lst 1 (l.map encI)), .c (.lst 1 (l.map encI))] [] (.c (.bool true)) [] := by
  have hlm : (l.map encI).length = l.length := List.length_map ..
  refine fn_sound (mt := mts) tab_fits tab_mixed Tryz.func21 (by rfl) (by kernel_rfl) (by kernel_rfl) Tryz.results21 (Nat.le_of_ble_eq_true (by kernel_rfl)) ?_
  conv => whnf
  repeat' (first
    | (refine Split.mk (fun h => ?_) (fun h => ?_) <;> (try simp only [decide_eq_true_eq, decide_eq_false_iff_not, Bool.not_eq_true', Bool.not_eq_false', beq_iff_eq, beq_eq_false_iff_ne, bne_iff_ne, bne_eq_false_iff_eq] at h) <;> (first | (exfalso; first | omega | exact h trivial | contradiction | (simp_all [eqRes]; done)) | (conv => whnf)))
    | (refine CondG.mk (fun h => ?_) (fun h => ?_) <;> (try simp only [decide_eq_true_eq, decide_eq_false_iff_not, Bool.not_eq_true', Bool.not_eq_false', beq_iff_eq, beq_eq_false_iff_ne, bne_iff_ne, bne_eq_false_iff_eq] at h) <;> (first | (exfalso; first | omega | exact h trivial | contradiction | (simp_all [eqRes]; done)) | (conv => whnf)))
    | (refine Ask.mk (by first | omega | (unfold roomOK; simp [cutRows]; done) | (unfold roomOK; simp [cutRows]; omega) | (simp [cutRows]; done) | (simp [cutRows]; omega)) ?_; conv => whnf)
    | (refine SliceG.fr ?_; conv => whnf)
    | (refine idx_at _ (by with_reducible rfl) (by first | assumption | omega) ?_; conv => whnf)
    | ((with_reducible refine row_map (by first | assumption | omega) ?_); conv => whnf)
    | ((with_reducible refine row_set (by first | assumption | omega | (simp only [List.length_set]; omega) | (simp; omega)) ?_); conv => whnf)
    | fail)
  refine loop_for (l.length) [] [0, 1, 12, 13] (fun k (_ : Unit) => [(13, .c (.int .i64 (k : Int)))]) (fun k (_ : Unit) => []) (fun k (_ : Unit) => True) (()) ?_
  conv => whnf
  refine ⟨(by first | rfl | (simp; done) | (simp; rfl)), (by trivial), ?_, ?_⟩
  · intro k _ hk _
    conv => whnf
    repeat' (first
      | (refine Split.mk (fun h => ?_) (fun h => ?_) <;> (try simp only [decide_eq_true_eq, decide_eq_false_iff_not, Bool.not_eq_true', Bool.not_eq_false', beq_iff_eq, beq_eq_false_iff_ne, bne_iff_ne, bne_eq_false_iff_eq] at h) <;> (first | (exfalso; first | omega | exact h trivial | contradiction | (simp_all [eqRes]; done)) | (conv => whnf)))
      | (refine CondG.mk (fun h => ?_) (fun h => ?_) <;> (try simp only [decide_eq_true_eq, decide_eq_false_iff_not, Bool.not_eq_true', Bool.not_eq_false', beq_iff_eq, beq_eq_false_iff_ne, bne_iff_ne, bne_eq_false_iff_eq] at h) <;> (first | (exfalso; first | omega | exact h trivial | contradiction | (simp_all [eqRes]; done)) | (conv => whnf)))
      | (refine Ask.mk (by first | omega | (unfold roomOK; simp [cutRows]; done) | (unfold roomOK; simp [cutRows]; omega) | (simp [cutRows]; done) | (simp [cutRows]; omega)) ?_; conv => whnf)
      | (refine SliceG.fr ?_; conv => whnf)
      | (refine idx_at _ (by with_reducible rfl) (by first | assumption | omega) ?_; conv => whnf)
      | ((with_reducible refine row_map (by first | assumption | omega) ?_); conv => whnf)
      | ((with_reducible refine row_set (by first | assumption | omega | (simp only [List.length_set]; omega) | (simp; omega)) ?_); conv => whnf)
      | fail)
    all_goals exact count_next () hk (by rw [wrap_succ hk (by omega)]; rfl) trivial
  · intro _ _
    conv => whnf
    repeat' (first
      | (refine Split.mk (fun h => ?_) (fun h => ?_) <;> (try simp only [decide_eq_true_eq, decide_eq_false_iff_not, Bool.not_eq_true', Bool.not_eq_false', beq_iff_eq, beq_eq_false_iff_ne, bne_iff_ne, bne_eq_false_iff_eq] at h) <;> (first | (exfalso; first | omega | exact h trivial | contradiction | (simp_all [eqRes]; done)) | (conv => whnf)))
      | (refine CondG.mk (fun h => ?_) (fun h => ?_) <;> (try simp only [decide_eq_true_eq, decide_eq_false_iff_not, Bool.not_eq_true', Bool.not_eq_false', beq_iff_eq, beq_eq_false_iff_ne, bne_iff_ne, bne_eq_false_iff_eq] at h) <;> (first | (exfalso; first | omega | exact h trivial | contradiction | (simp_all [eqRes]; done)) | (conv => whnf)))
      | (refine Ask.mk (by first | omega | (unfold roomOK; simp [cutRows]; done) | (unfold roomOK; simp [cutRows]; omega) | (simp [cutRows]; done) | (simp [cutRows]; omega)) ?_; conv => whnf)
      | (refine SliceG.fr ?_; conv => whnf)
      | (refine idx_at _ (by with_reducible rfl) (by first | assumption | omega) ?_; conv => whnf)
      | ((with_reducible refine row_map (by first | assumption | omega) ?_); conv => whnf)
      | ((with_reducible refine row_set (by first | assumption | omega | (simp only [List.length_set]; omega) | (simp; omega)) ?_); conv => whnf)
      | fail)
    all_goals exact .mk ⟨rfl, rfl⟩
set_option maxRecDepth 100000 in
set_option maxHeartbeats 4000000 in
theorem eqPcS_pc (l : List Pc) (hl : l.length ≤ 1000000) : PCp 23 [.c (.lst 3 (l.map encPc)), .c (.lst 3 (l.map encPc))] [] (.c (.bool true)) [] := by
  have hlm : (l.map encPc).length = l.length := List.length_map ..
  refine fn_sound (mt := mts) tab_fits tab_mixed Tryz.func23 (by rfl) (by kernel_rfl) (by kernel_rfl) Tryz.results23 (Nat.le_of_ble_eq_true (by kernel_rfl)) ?_
  conv => whnf
  repeat' (first
    | (refine Split.mk (fun h => ?_) (fun h => ?_) <;> (try simp only [decide_eq_true_eq, decide_eq_false_iff_not, Bool.not_eq_true', Bool.not_eq_false', beq_iff_eq, beq_eq_false_iff_ne, bne_iff_ne, bne_eq_false_iff_eq] at h) <;> (first | (exfalso; first | omega | exact h trivial | contradiction | (simp_all [eqRes]; done)) | (conv => whnf)))
    | (refine CondG.mk (fun h => ?_) (fun h => ?_) <;> (try simp only [decide_eq_true_eq, decide_eq_false_iff_not, Bool.not_eq_true', Bool.not_eq_false', beq_iff_eq, beq_eq_false_iff_ne, bne_iff_ne, bne_eq_false_iff_eq] at h) <;> (first | (exfalso; first | omega | exact h trivial | contradiction | (simp_all [eqRes]; done)) | (conv => whnf)))
    | (refine Ask.mk (by first | omega | (unfold roomOK; simp [cutRows]; done) | (unfold roomOK; simp [cutRows]; omega) | (simp [cutRows]; done) | (simp [cutRows]; omega)) ?_; conv => whnf)
    | (refine SliceG.fr ?_; conv => whnf)
    | (refine idx_at _ (by with_reducible rfl) (by first | assumption | omega) ?_; conv => whnf)
    | ((with_reducible refine row_map (by first | assumption | omega) ?_); conv => whnf)
    | ((with_reducible refine row_set (by first | assumption | omega | (simp only [List.length_set]; omega) | (simp; omega)) ?_); conv => whnf)
    | fail)
  refine loop_for (l.length) [] [0, 1, 12, 13] (fun k (_ : Unit) => [(13, .c (.int .i64 (k : Int)))]) (fun k (_ : Unit) => []) (fun k (_ : Unit) => True) (()) ?_
  conv => whnf
  refine ⟨(by first | rfl | (simp; done) | (simp; rfl)), (by trivial), ?_, ?_⟩
  · intro k _ hk _
    conv => whnf
    repeat' (first
      | (refine Split.mk (fun h => ?_) (fun h => ?_) <;> (try simp only [decide_eq_true_eq, decide_eq_false_iff_not, Bool.not_eq_true', Bool.not_eq_false', beq_iff_eq, beq_eq_false_iff_ne, bne_iff_ne, bne_eq_false_iff_eq] at h) <;> (first | (exfalso; first | omega | exact h trivial | contradiction | (simp_all [eqRes]; done)) | (conv => whnf)))
      | (refine CondG.mk (fun h => ?_) (fun h => ?_) <;> (try simp only [decide_eq_true_eq, decide_eq_false_iff_not, Bool.not_eq_true', Bool.not_eq_false', beq_iff_eq, beq_eq_false_iff_ne, bne_iff_ne, bne_eq_false_iff_eq] at h) <;> (first | (exfalso; first | omega | exact h trivial | contradiction | (simp_all [eqRes]; done)) | (conv => whnf)))
      | (refine Ask.mk (by first | omega | (unfold roomOK; simp [cutRows]; done) | (unfold roomOK; simp [cutRows]; omega) | (simp [cutRows]; done) | (simp [cutRows]; omega)) ?_; conv => whnf)
      | (refine SliceG.fr ?_; conv => whnf)
      | (refine idx_at _ (by with_reducible rfl) (by first | assumption | omega) ?_; conv => whnf)
      | ((with_reducible refine row_map (by first | assumption | omega) ?_); conv => whnf)
      | ((with_reducible refine row_set (by first | assumption | omega | (simp only [List.length_set]; omega) | (simp; omega)) ?_); conv => whnf)
      | fail)
    all_goals exact count_next () hk (by rw [wrap_succ hk (by omega)]; rfl) trivial
  · intro _ _
    conv => whnf
    repeat' (first
      | (refine Split.mk (fun h => ?_) (fun h => ?_) <;> (try simp only [decide_eq_true_eq, decide_eq_false_iff_not, Bool.not_eq_true', Bool.not_eq_false', beq_iff_eq, beq_eq_false_iff_ne, bne_iff_ne, bne_eq_false_iff_eq] at h) <;> (first | (exfalso; first | omega | exact h trivial | contradiction | (simp_all [eqRes]; done)) | (conv => whnf)))
      | (refine CondG.mk (fun h => ?_) (fun h => ?_) <;> (try simp only [decide_eq_true_eq, decide_eq_false_iff_not, Bool.not_eq_true', Bool.not_eq_false', beq_iff_eq, beq_eq_false_iff_ne, bne_iff_ne, bne_eq_false_iff_eq] at h) <;> (first | (exfalso; first | omega | exact h trivial | contradiction | (simp_all [eqRes]; done)) | (conv => whnf)))
      | (refine Ask.mk (by first | omega | (unfold roomOK; simp [cutRows]; done) | (unfold roomOK; simp [cutRows]; omega) | (simp [cutRows]; done) | (simp [cutRows]; omega)) ?_; conv => whnf)
      | (refine SliceG.fr ?_; conv => whnf)
      | (refine idx_at _ (by with_reducible rfl) (by first | assumption | omega) ?_; conv => whnf)
      | ((with_reducible refine row_map (by first | assumption | omega) ?_); conv => whnf)
      | ((with_reducible refine row_set (by first | assumption | omega | (simp only [List.length_set]; omega) | (simp; omega)) ?_); conv => whnf)
      | fail)
    all_goals exact .mk ⟨rfl, rfl⟩
set_option maxRecDepth 100000 in
set_option maxHeartbeats 4000000 in
theorem eqPrS_pc (l : List (ByteArray × ByteArray)) (hl : l.length ≤ 1000000) : PCp 24 [.c (.lst 2 (l.map encPr)), .c (.lst 2 (l.map encPr))] [] (.c (.bool true)) [] := by
  have hlm : (l.map encPr).length = l.length := List.length_map ..
  refine fn_sound (mt := mts) tab_fits tab_mixed Tryz.func24 (by rfl) (by kernel_rfl) (by kernel_rfl) Tryz.results24 (Nat.le_of_ble_eq_true (by kernel_rfl)) ?_
  conv => whnf
  repeat' (first
    | (refine Split.mk (fun h => ?_) (fun h => ?_) <;> (try simp only [decide_eq_true_eq, decide_eq_false_iff_not, Bool.not_eq_true', Bool.not_eq_false', beq_iff_eq, beq_eq_false_iff_ne, bne_iff_ne, bne_eq_false_iff_eq] at h) <;> (first | (exfalso; first | omega | exact h trivial | contradiction | (simp_all [eqRes]; done)) | (conv => whnf)))
    | (refine CondG.mk (fun h => ?_) (fun h => ?_) <;> (try simp only [decide_eq_true_eq, decide_eq_false_iff_not, Bool.not_eq_true', Bool.not_eq_false', beq_iff_eq, beq_eq_false_iff_ne, bne_iff_ne, bne_eq_false_iff_eq] at h) <;> (first | (exfalso; first | omega | exact h trivial | contradiction | (simp_all [eqRes]; done)) | (conv => whnf)))
    | (refine Ask.mk (by first | omega | (unfold roomOK; simp [cutRows]; done) | (unfold roomOK; simp [cutRows]; omega) | (simp [cutRows]; done) | (simp [cutRows]; omega)) ?_; conv => whnf)
    | (refine SliceG.fr ?_; conv => whnf)
    | (refine idx_at _ (by with_reducible rfl) (by first | assumption | omega) ?_; conv => whnf)
    | ((with_reducible refine row_map (by first | assumption | omega) ?_); conv => whnf)
    | ((with_reducible refine row_set (by first | assumption | omega | (simp only [List.length_set]; omega) | (simp; omega)) ?_); conv => whnf)
    | fail)
  refine loop_for (l.length) [] [0, 1, 12, 13] (fun k (_ : Unit) => [(13, .c (.int .i64 (k : Int)))]) (fun k (_ : Unit) => []) (fun k (_ : Unit) => True) (()) ?_
  conv => whnf
  refine ⟨(by first | rfl | (simp; done) | (simp; rfl)), (by trivial), ?_, ?_⟩
  · intro k _ hk _
    conv => whnf
    repeat' (first
      | (refine Split.mk (fun h => ?_) (fun h => ?_) <;> (try simp only [decide_eq_true_eq, decide_eq_false_iff_not, Bool.not_eq_true', Bool.not_eq_false', beq_iff_eq, beq_eq_false_iff_ne, bne_iff_ne, bne_eq_false_iff_eq] at h) <;> (first | (exfalso; first | omega | exact h trivial | contradiction | (simp_all [eqRes]; done)) | (conv => whnf)))
      | (refine CondG.mk (fun h => ?_) (fun h => ?_) <;> (try simp only [decide_eq_true_eq, decide_eq_false_iff_not, Bool.not_eq_true', Bool.not_eq_false', beq_iff_eq, beq_eq_false_iff_ne, bne_iff_ne, bne_eq_false_iff_eq] at h) <;> (first | (exfalso; first | omega | exact h trivial | contradiction | (simp_all [eqRes]; done)) | (conv => whnf)))
      | (refine Ask.mk (by first | omega | (unfold roomOK; simp [cutRows]; done) | (unfold roomOK; simp [cutRows]; omega) | (simp [cutRows]; done) | (simp [cutRows]; omega)) ?_; conv => whnf)
      | (refine SliceG.fr ?_; conv => whnf)
      | (refine idx_at _ (by with_reducible rfl) (by first | assumption | omega) ?_; conv => whnf)
      | ((with_reducible refine row_map (by first | assumption | omega) ?_); conv => whnf)
      | ((with_reducible refine row_set (by first | assumption | omega | (simp only [List.length_set]; omega) | (simp; omega)) ?_); conv => whnf)
      | fail)
    all_goals exact count_next () hk (by rw [wrap_succ hk (by omega)]; rfl) trivial
  · intro _ _
    conv => whnf
    repeat' (first
      | (refine Split.mk (fun h => ?_) (fun h => ?_) <;> (try simp only [decide_eq_true_eq, decide_eq_false_iff_not, Bool.not_eq_true', Bool.not_eq_false', beq_iff_eq, beq_eq_false_iff_ne, bne_iff_ne, bne_eq_false_iff_eq] at h) <;> (first | (exfalso; first | omega | exact h trivial | contradiction | (simp_all [eqRes]; done)) | (conv => whnf)))
      | (refine CondG.mk (fun h => ?_) (fun h => ?_) <;> (try simp only [decide_eq_true_eq, decide_eq_false_iff_not, Bool.not_eq_true', Bool.not_eq_false', beq_iff_eq, beq_eq_false_iff_ne, bne_iff_ne, bne_eq_false_iff_eq] at h) <;> (first | (exfalso; first | omega | exact h trivial | contradiction | (simp_all [eqRes]; done)) | (conv => whnf)))
      | (refine Ask.mk (by first | omega | (unfold roomOK; simp [cutRows]; done) | (unfold roomOK; simp [cutRows]; omega) | (simp [cutRows]; done) | (simp [cutRows]; omega)) ?_; conv => whnf)
      | (refine SliceG.fr ?_; conv => whnf)
      | (refine idx_at _ (by with_reducible rfl) (by first | assumption | omega) ?_; conv => whnf)
      | ((with_reducible refine row_map (by first | assumption | omega) ?_); conv => whnf)
      | ((with_reducible refine row_set (by first | assumption | omega | (simp only [List.length_set]; omega) | (simp; omega)) ?_); conv => whnf)
      | fail)
    all_goals exact .mk ⟨rfl, rfl⟩
end Go.Proofs.YtmdcgimpgoacdaaGreatDoor

/- Both sides of what is refused, in stock, and in all. -/
namespace Go.Proofs.YtmdcgimpgoacdaaGreatDoor
set_option linter.unusedVariables false
set_option linter.unusedSimpArgs false
open Abs

theorem ref_eq {l : List Ac} (h : actsFault l = 0) : ∀ k, k ≤ l.length → pRef l k = refR l k ∧ pWhy l k = whyR l k
  | 0, _ => ⟨rfl, rfl⟩
  | k + 1, hk => by
    obtain ⟨h1, h2⟩ := ref_eq h k (by omega)
    have hg : l.getD k ⟨0, 0, bE, bE, bE, 0⟩ = l[k] := by simp [show k < l.length by omega]
    have hg' : l.getD k acD = l[k] := by simp [show k < l.length by omega]
    have hst := (rel_step (stoAt_ok l k) (rel_at h k (by omega)) ((actsFault_all h).2 l[k] (List.getElem_mem _))).2.1
    unfold pRef pWhy refR whyR
    rw [hg, hst, h1, h2]
    exact ⟨rfl, rfl⟩
theorem cnt_end {l : List Ac} (h : actsFault l = 0) : cntAt l 345686400000 = l.length := by
  have key : ∀ q : List Ac, (∀ x ∈ q, x.mo ≤ 345686400000) → (q.takeWhile fun x => decide (x.mo ≤ 345686400000)) = q := by
    intro q
    induction q with
    | nil => intro _; rfl
    | cons a r ih =>
      intro h6
      rw [List.takeWhile_cons, if_pos (decide_eq_true (h6 a (by simp))), ih (fun x hx => h6 x (by simp [hx]))]
  unfold cntAt
  rw [key l (fun x hx => by have := actErr_in ((actsFault_all h).2 x hx); omega)]
set_option maxRecDepth 100000 in
set_option maxHeartbeats 4000000 in
theorem rRefused_pc (l : List Ac) (h : actsFault l = 0) : PCp 16 [.c (.lst 6 (l.map encAc))] [] (.tup [.c (.row 0), .c (.row 1)]) [.row 3 1 ((refV l).map encI), .row 30 1 ((whyV l).map encI)] := by
  have hl := (actsFault_all h).1
  have hc := stored_pcR l (by omega) 345686400000
  have he := ref_eq h l.length (Nat.le_refl _)
  rw [cnt_end h, ← he.1, ← he.2] at hc
  rw [refV, whyV, if_pos h, if_pos h]
  refine fn_sound (mt := mts) tab_fits tab_mixed Tryz.func16 (by rfl) (by kernel_rfl) (by kernel_rfl) Tryz.results16 (Nat.le_of_ble_eq_true (by kernel_rfl)) ?_
  conv => whnf
  repeat' (first
    | (refine Split.mk (fun h => ?_) (fun h => ?_) <;> (try simp only [decide_eq_true_eq, decide_eq_false_iff_not, Bool.not_eq_true', Bool.not_eq_false', beq_iff_eq, beq_eq_false_iff_ne, bne_iff_ne, bne_eq_false_iff_eq] at h) <;> (first | (exfalso; first | omega | exact h trivial) | (conv => whnf)))
    | (refine CondG.mk (fun h => ?_) (fun h => ?_) <;> (try simp only [decide_eq_true_eq, decide_eq_false_iff_not, Bool.not_eq_true', Bool.not_eq_false', beq_iff_eq, beq_eq_false_iff_ne, bne_iff_ne, bne_eq_false_iff_eq] at h) <;> (first | (exfalso; first | omega | exact h trivial) | (conv => whnf)))
    | (refine CallX.mk _ _ (by first | exact hc) ?_; conv => whnf)
    | (refine CallG.mk _ _ (by first | exact hc) ?_; conv => whnf)
    | (refine Ask.mk (by first | omega | (unfold roomOK; simp [cutRows]; done) | (unfold roomOK; simp [cutRows]; omega) | (simp [cutRows]; done) | (simp [cutRows]; omega)) ?_; conv => whnf)
    | (refine SliceG.fr ?_; conv => whnf)
    | (refine idx_at _ (by with_reducible rfl) (by first | assumption | omega) ?_; conv => whnf)
    | ((with_reducible refine row_map (by first | assumption | omega) ?_); conv => whnf)
    | ((with_reducible refine row_set (by first | assumption | omega | (simp only [List.length_set]; omega) | (simp; omega)) ?_); conv => whnf)
    | fail)
  exact .mk ⟨rfl, rfl⟩
abbrev rAt (l : List Ac) (t : Int) : Rto := rtoAt l (cntAt l t)
def stockV (l : List Ac) (t : Int) : List Pc := insSort (fun a b => cmpS a.key b.key) (stL (rAt l t) (rAt l t).l.es)
theorem stock_one {l : List Ac} {t : Int} {ds : List Pc} (hr : Rise Pc.key ds) (hp : ds.Perm (stL (rAt l t) (rAt l t).l.es)) : ds = stockV l t := by
  have hq : (stockV l t).Perm (stL (rAt l t) (rAt l t).l.es) := insSort_perm ..
  refine rise_one (hp.trans hq.symm) hr (rise_of (insSort_srt (swo_key Pc.key) _) ?_)
  exact ((hq.map Pc.key).nodup_iff).2 (stL_nd (rtoAt_ok _ _))
theorem at_fault {l : List Ac} {t : Int} (h : atE l t = 0) : actsFault l = 0 := by
  unfold atE at h
  split at h
  · exact h
  · rename_i h1; omega
theorem both_perm {l : List Ac} {t : Int} (h : atE l t = 0) : (dL (stoAt l (cntAt l t)).d.es).Perm (stL (rAt l t) (rAt l t).l.es) :=
  sto_perm (stoAt_ok _ _) (rtoAt_ok _ _) (rel_at (at_fault h) _ (cntAt_le l t))
theorem dStock_one (l : List Ac) (t : Int) (h : atE l t = 0) : PCp 10 [.c (.lst 6 (l.map encAc)), .c (.int .i64 t)] [] (.tup [.c (.row 0), .c (.int .i64 0)]) [.row 56 3 ((stockV l t).map encPc)] :=
  PCx.mono (dStock_pc l t h) (by rintro r os ⟨ds, ⟨hr, hp⟩, rfl, rfl⟩; rw [stock_one hr (hp.trans (both_perm h))]; exact ⟨rfl, rfl⟩)
theorem rStock_one (l : List Ac) (t : Int) (h : atE l t = 0) (hb : LongR (rAt l t)) : PCp 17 [.c (.lst 6 (l.map encAc)), .c (.int .i64 t)] [] (.c (.row 0)) [.row 56 3 ((stockV l t).map encPc)] :=
  PCx.mono (rStock_pc l (by have := (actsFault_all (at_fault h)).1; omega) t (by have h6 : (rtoAt l (cntAt l t)).l.es.length ≤ 12 := hb.2; omega)) (by rintro r os ⟨ds, ⟨hr, hp⟩, rfl, rfl⟩; rw [stock_one hr hp]; exact ⟨rfl, rfl⟩)
def totG (l : List Ac) (t : Int) (n : ByteArray) : Int := sumP n (stL (rAt l t) (rAt l t).l.es)
open Classical in
noncomputable def totV (l : List Ac) (t : Int) : List (ByteArray × ByteArray) := if h : ∃ ns, Keys (totG l t) ns then prsV (totG l t) h.choose else []
theorem tot_one {l : List Ac} {t : Int} {ns : List ByteArray} (h : Keys (totG l t) ns) : prsV (totG l t) ns = totV l t := by
  unfold totV
  rw [dif_pos ⟨ns, h⟩]
  exact congrArg (prsV (totG l t)) (Keys.one h (Exists.choose_spec (⟨ns, h⟩ : ∃ ns, Keys (totG l t) ns)) (fun _ => rfl))
theorem dTotals_one (l : List Ac) (t : Int) (h : atE l t = 0) (hb : LongR (rAt l t)) : PCp 11 [.c (.lst 6 (l.map encAc)), .c (.int .i64 t)] [] (.tup [.c (.lst 2 ((totV l t).map encPr)), .c (.int .i64 0)]) [] := by
  have hp := both_perm h
  have h12 : (stoAt l (cntAt l t)).d.es.length ≤ 12 := by
    have h1 := hp.length_eq
    have h2 := stL_len (rAt l t) (rAt l t).l.es
    have h3 := hb.2
    simp only [dL, List.length_map] at h1
    omega
  refine PCx.mono (dTotals_pc l t h h12) ?_
  have hg : (fun n => sumP n (dL (stoAt l (cntAt l t)).d.es)) = totG l t := funext fun n => sumP_perm n hp
  rw [hg]
  rintro r os ⟨ns, hk, rfl, rfl⟩
  rw [tot_one hk]
  exact ⟨rfl, rfl⟩
theorem rTotals_one (l : List Ac) (t : Int) (h : atE l t = 0) (hb : LongR (rAt l t)) : PCp 18 [.c (.lst 6 (l.map encAc)), .c (.int .i64 t)] [] (.c (.row 0)) [.row 59 2 ((totV l t).map encPr)] := by
  refine PCx.mono (rTotals_pc l (by have := (actsFault_all (at_fault h)).1; omega) t hb) ?_
  rintro r os ⟨ns, hk, rfl, rfl⟩
  have hk' : Keys (totG l t) ns := hk
  have := tot_one hk'
  exact ⟨rfl, by rw [← this]; rfl⟩
set_option maxRecDepth 100000 in
set_option maxHeartbeats 4000000 in
theorem dStock_bad (l : List Ac) (t : Int) (h : atE l t ≠ 0) : PCp 10 [.c (.lst 6 (l.map encAc)), .c (.int .i64 t)] [] (.tup [.c (.lst 3 []), .c (.int .i64 (atE l t))]) [] := by
  refine fn_sound (mt := mts) tab_fits tab_mixed Tryz.func10 (by rfl) (by kernel_rfl) (by kernel_rfl) Tryz.results10 (Nat.le_of_ble_eq_true (by kernel_rfl)) ?_
  conv => whnf
  repeat' (first
    | (refine Split.mk (fun h => ?_) (fun h => ?_) <;> (try simp only [decide_eq_true_eq, decide_eq_false_iff_not, Bool.not_eq_true', Bool.not_eq_false', beq_iff_eq, beq_eq_false_iff_ne, bne_iff_ne, bne_eq_false_iff_eq] at h) <;> (first | (exfalso; first | omega | exact h trivial | contradiction | (simp_all [eqRes]; done)) | (conv => whnf)))
    | (refine CondG.mk (fun h => ?_) (fun h => ?_) <;> (try simp only [decide_eq_true_eq, decide_eq_false_iff_not, Bool.not_eq_true', Bool.not_eq_false', beq_iff_eq, beq_eq_false_iff_ne, bne_iff_ne, bne_eq_false_iff_eq] at h) <;> (first | (exfalso; first | omega | exact h trivial | contradiction | (simp_all [eqRes]; done)) | (conv => whnf)))
    | (refine CallX.mk _ _ (by first | exact at_bad l t h) ?_; conv => whnf)
    | (refine CallG.mk _ _ (by first | exact at_bad l t h) ?_; conv => whnf)
    | (refine Ask.mk (by first | omega | (unfold roomOK; simp [cutRows]; done) | (unfold roomOK; simp [cutRows]; omega) | (simp [cutRows]; done) | (simp [cutRows]; omega)) ?_; conv => whnf)
    | (refine SliceG.fr ?_; conv => whnf)
    | (refine idx_at _ (by with_reducible rfl) (by first | assumption | omega) ?_; conv => whnf)
    | ((with_reducible refine row_map (by first | assumption | omega) ?_); conv => whnf)
    | ((with_reducible refine row_set (by first | assumption | omega | (simp only [List.length_set]; omega) | (simp; omega)) ?_); conv => whnf)
    | fail)
  refine .weak [] (.tup _ _ rfl ?_) rfl (Nat.le_refl _)
  intro i x y hx hy
  match i with
  | 0 => cases hx; cases hy; exact .nil 3
  | 1 => cases hx; cases hy; exact .refl _
  | n + 2 => cases hx
set_option maxRecDepth 100000 in
set_option maxHeartbeats 4000000 in
theorem dTotals_bad (l : List Ac) (t : Int) (h : atE l t ≠ 0) : PCp 11 [.c (.lst 6 (l.map encAc)), .c (.int .i64 t)] [] (.tup [.c (.lst 2 []), .c (.int .i64 (atE l t))]) [] := by
  refine fn_sound (mt := mts) tab_fits tab_mixed Tryz.func11 (by rfl) (by kernel_rfl) (by kernel_rfl) Tryz.results11 (Nat.le_of_ble_eq_true (by kernel_rfl)) ?_
  conv => whnf
  repeat' (first
    | (refine Split.mk (fun h => ?_) (fun h => ?_) <;> (try simp only [decide_eq_true_eq, decide_eq_false_iff_not, Bool.not_eq_true', Bool.not_eq_false', beq_iff_eq, beq_eq_false_iff_ne, bne_iff_ne, bne_eq_false_iff_eq] at h) <;> (first | (exfalso; first | omega | exact h trivial | contradiction | (simp_all [eqRes]; done)) | (conv => whnf)))
    | (refine CondG.mk (fun h => ?_) (fun h => ?_) <;> (try simp only [decide_eq_true_eq, decide_eq_false_iff_not, Bool.not_eq_true', Bool.not_eq_false', beq_iff_eq, beq_eq_false_iff_ne, bne_iff_ne, bne_eq_false_iff_eq] at h) <;> (first | (exfalso; first | omega | exact h trivial | contradiction | (simp_all [eqRes]; done)) | (conv => whnf)))
    | (refine CallX.mk _ _ (by first | exact at_bad l t h) ?_; conv => whnf)
    | (refine CallG.mk _ _ (by first | exact at_bad l t h) ?_; conv => whnf)
    | (refine Ask.mk (by first | omega | (unfold roomOK; simp [cutRows]; done) | (unfold roomOK; simp [cutRows]; omega) | (simp [cutRows]; done) | (simp [cutRows]; omega)) ?_; conv => whnf)
    | (refine SliceG.fr ?_; conv => whnf)
    | (refine idx_at _ (by with_reducible rfl) (by first | assumption | omega) ?_; conv => whnf)
    | ((with_reducible refine row_map (by first | assumption | omega) ?_); conv => whnf)
    | ((with_reducible refine row_set (by first | assumption | omega | (simp only [List.length_set]; omega) | (simp; omega)) ?_); conv => whnf)
    | fail)
  refine .weak [] (.tup _ _ rfl ?_) rfl (Nat.le_refl _)
  intro i x y hx hy
  match i with
  | 0 => cases hx; cases hy; exact .nil 2
  | 1 => cases hx; cases hy; exact .refl _
  | n + 2 => cases hx
set_option maxRecDepth 100000 in
set_option maxHeartbeats 4000000 in
theorem rMomentFault_pc (t : Int) : PCp 14 [.c (.int .i64 t)] [] (.c (.int .i64 (if momB t = true then 0 else 1))) [] := by
  refine fn_sound (mt := mts) tab_fits tab_mixed Tryz.func14 (by rfl) (by kernel_rfl) (by kernel_rfl) Tryz.results14 (Nat.le_of_ble_eq_true (by kernel_rfl)) ?_
  conv => whnf
  repeat' (first
    | (refine Split.mk (fun h => ?_) (fun h => ?_) <;> (try simp only [decide_eq_true_eq, decide_eq_false_iff_not, Bool.not_eq_true', Bool.not_eq_false', beq_iff_eq, beq_eq_false_iff_ne, bne_iff_ne, bne_eq_false_iff_eq] at h) <;> (first | (exfalso; first | omega | exact h trivial) | (conv => whnf)))
    | (refine CondG.mk (fun h => ?_) (fun h => ?_) <;> (try simp only [decide_eq_true_eq, decide_eq_false_iff_not, Bool.not_eq_true', Bool.not_eq_false', beq_iff_eq, beq_eq_false_iff_ne, bne_iff_ne, bne_eq_false_iff_eq] at h) <;> (first | (exfalso; first | omega | exact h trivial) | (conv => whnf)))
    | (refine CallX.mk _ _ (by first | exact rMoment_pc t) ?_; conv => whnf)
    | (refine CallG.mk _ _ (by first | exact rMoment_pc t) ?_; conv => whnf)
    | (refine Ask.mk (by first | omega | (unfold roomOK; simp [cutRows]; done) | (unfold roomOK; simp [cutRows]; omega) | (simp [cutRows]; done) | (simp [cutRows]; omega)) ?_; conv => whnf)
    | (refine SliceG.fr ?_; conv => whnf)
    | (refine idx_at _ (by with_reducible rfl) (by first | assumption | omega) ?_; conv => whnf)
    | ((with_reducible refine row_map (by first | assumption | omega) ?_); conv => whnf)
    | ((with_reducible refine row_set (by first | assumption | omega | (simp only [List.length_set]; omega) | (simp; omega)) ?_); conv => whnf)
    | fail)
  all_goals exact fini (by simp_all)
end Go.Proofs.YtmdcgimpgoacdaaGreatDoor

/- The law StoresFollowed. -/
namespace Go.Proofs.YtmdcgimpgoacdaaGreatDoor
set_option linter.unusedVariables false
set_option linter.unusedSimpArgs false
open Abs

set_option maxRecDepth 100000 in
set_option maxHeartbeats 4000000 in
theorem storeTime_pc {L : List Int} {p : Int} (hst : StOk L p) : PCp 7 [.c (.ptr 0 0)] [stO L p] (.c (.int .i64 (pickV L p [0, 2, 5, 10, 20, 50, -1, 345686400000]))) [stO L (p + 1)] := by
  refine fn_sound (mt := mts) tab_fits tab_mixed Tryz.func7 (by rfl) (by kernel_rfl) (by kernel_rfl) Tryz.results7 (Nat.le_of_ble_eq_true (by kernel_rfl)) ?_
  conv => whnf
  repeat' (first
    | (refine Split.mk (fun h => ?_) (fun h => ?_) <;> (try simp only [decide_eq_true_eq, decide_eq_false_iff_not, Bool.not_eq_true', Bool.not_eq_false', beq_iff_eq, beq_eq_false_iff_ne, bne_iff_ne, bne_eq_false_iff_eq] at h) <;> (first | (exfalso; first | omega | exact h trivial) | (conv => whnf)))
    | (refine CondG.mk (fun h => ?_) (fun h => ?_) <;> (try simp only [decide_eq_true_eq, decide_eq_false_iff_not, Bool.not_eq_true', Bool.not_eq_false', beq_iff_eq, beq_eq_false_iff_ne, bne_iff_ne, bne_eq_false_iff_eq] at h) <;> (first | (exfalso; first | omega | exact h trivial) | (conv => whnf)))
    | (refine CallX.mk _ _ (by first | exact pick_ok hst [0, 2, 5, 10, 20, 50, -1, 345686400000] (by decide) (by decide)) ?_; conv => whnf)
    | (refine CallG.mk _ _ (by first | exact pick_ok hst [0, 2, 5, 10, 20, 50, -1, 345686400000] (by decide) (by decide)) ?_; conv => whnf)
    | (refine Ask.mk (by first | omega | (unfold roomOK; simp [cutRows]; done) | (unfold roomOK; simp [cutRows]; omega) | (simp [cutRows]; done) | (simp [cutRows]; omega)) ?_; conv => whnf)
    | (refine SliceG.fr ?_; conv => whnf)
    | (refine idx_at _ (by with_reducible rfl) (by first | assumption | omega) ?_; conv => whnf)
    | ((with_reducible refine row_map (by first | assumption | omega) ?_); conv => whnf)
    | ((with_reducible refine row_set (by first | assumption | omega | (simp only [List.length_set]; omega) | (simp; omega)) ?_); conv => whnf)
    | fail)
  exact .mk ⟨rfl, rfl⟩
theorem eqAcN : PCp 20 [.c (.lst 6 []), .c .nils] [] (.c (.bool true)) [] := (eqAcS_pc [] (by simp)).wk (P2.cons (.refl _) (P2.cons (.c (.nils 6)) P2.nil))
theorem eqInN : PCp 21 [.c (.lst 1 []), .c .nils] [] (.c (.bool true)) [] := (eqInS_pc [] (by simp)).wk (P2.cons (.refl _) (P2.cons (.c (.nils 1)) P2.nil))
theorem eqErN : PCp 22 [.c (.lst 1 []), .c .nils] [] (.c (.bool true)) [] := (eqErS_pc [] (by simp)).wk (P2.cons (.refl _) (P2.cons (.c (.nils 1)) P2.nil))
theorem eqPcN : PCp 23 [.c (.lst 3 []), .c .nils] [] (.c (.bool true)) [] := (eqPcS_pc [] (by simp)).wk (P2.cons (.refl _) (P2.cons (.c (.nils 3)) P2.nil))
theorem eqPrN : PCp 24 [.c (.lst 2 []), .c .nils] [] (.c (.bool true)) [] := (eqPrS_pc [] (by simp)).wk (P2.cons (.refl _) (P2.cons (.c (.nils 2)) P2.nil))
theorem atE_eq (l : List Ac) (t : Int) : firstErr [actsFault l, if momB t = true then 0 else 1] = atE l t := by
  unfold atE firstErr firstErr firstErr
  repeat' split
  all_goals first | rfl | omega
theorem refV_len (l : List Ac) (hl : l.length ≤ 1000000) : (refV l).length ≤ 1000000 ∧ (whyV l).length ≤ 1000000 := by
  have := pRef_len l l.length
  unfold refV whyV
  split
  · omega
  · simp
theorem totV_len (l : List Ac) (t : Int) (h : atE l t = 0) (hb : LongR (rAt l t)) : (totV l t).length ≤ 1000000 := by
  by_cases hx : ∃ ns, Keys (totG l t) ns
  · obtain ⟨ns, hk⟩ := hx
    rw [← tot_one hk]
    have hn : ∀ n ∈ ns, n ∈ (sumsM (stL (rAt l t) (rAt l t).l.es)).es.map (·.2.1) := by
      intro n hn
      have h1 := (hk.2 n).1 hn
      have hin : ∀ p ∈ stL (rAt l t) (rAt l t).l.es, 0 ≤ p.long ∧ p.long ≤ 200000 := by
        intro p hq
        unfold stL at hq
        obtain ⟨e, he, rfl⟩ := List.mem_map.1 hq
        exact hb.1 e (List.mem_filter.1 he).1
      have hsl := stL_len (rAt l t) (rAt l t).l.es
      have h12 := hb.2
      rw [totG, ← sumsM_get _ hin (by omega)] at h1
      cases hg : (sumsM (stL (rAt l t) (rAt l t).l.es)).get n with
      | none => rw [hg] at h1; simp at h1
      | some v =>
        obtain ⟨k, hk⟩ := mem_of_get hg
        exact List.mem_map.2 ⟨_, hk, rfl⟩
    have h6 := nodup_sub_len (rise_nodup (key := id) hk.1 |> fun h => by rwa [List.map_id] at h) hn
    have h7 := sumsM_len (stL (rAt l t) (rAt l t).l.es)
    have h8 := stL_len (rAt l t) (rAt l t).l.es
    have h9 := hb.2
    rw [List.length_map] at h6
    unfold prsV
    rw [List.length_map]
    omega
  · unfold totV
    rw [dif_neg hx]; simp
set_option maxRecDepth 100000 in
set_option maxHeartbeats 4000000 in
theorem storesFollowed_pc (L : List Int) (hL : L.length ≤ 9223372036854775807) : PCp 3 [.c (.lst 1 (L.map encI))] [] (.c (.bool true)) [] := by
  have st0 : StOk L 0 := ⟨hL, by omega, by omega⟩
  have hr := rangeV_in L 0 0 14 (by omega)
  obtain ⟨n, hn⟩ := Int.eq_ofNat_of_zero_le hr.1
  refine fn_sound (mt := mts) tab_fits tab_mixed Tryz.func3 (by rfl) (by kernel_rfl) (by kernel_rfl) Tryz.results3 (Nat.le_of_ble_eq_true (by kernel_rfl)) ?_
  conv => whnf
  repeat' (first
    | (refine Split.mk (fun h => ?_) (fun h => ?_) <;> (try simp only [decide_eq_true_eq, decide_eq_false_iff_not, Bool.not_eq_true', Bool.not_eq_false', beq_iff_eq, beq_eq_false_iff_ne, bne_iff_ne, bne_eq_false_iff_eq] at h) <;> (first | (exfalso; first | omega | exact h trivial) | (conv => whnf)))
    | (refine CondG.mk (fun h => ?_) (fun h => ?_) <;> (try simp only [decide_eq_true_eq, decide_eq_false_iff_not, Bool.not_eq_true', Bool.not_eq_false', beq_iff_eq, beq_eq_false_iff_ne, bne_iff_ne, bne_eq_false_iff_eq] at h) <;> (first | (exfalso; first | omega | exact h trivial) | (conv => whnf)))
    | (refine CallX.mk _ _ (by first | exact range_ok st0 0 14 (by omega) (small_lit (by decide)) (small_lit (by decide))) ?_; conv => whnf)
    | (refine CallG.mk _ _ (by first | exact range_ok st0 0 14 (by omega) (small_lit (by decide)) (small_lit (by decide))) ?_; conv => whnf)
    | (refine Ask.mk (by first | omega | (unfold roomOK; simp [cutRows]; done) | (unfold roomOK; simp [cutRows]; omega) | (simp [cutRows]; done) | (simp [cutRows]; omega)) ?_; conv => whnf)
    | (refine SliceG.fr ?_; conv => whnf)
    | (refine idx_at _ (by with_reducible rfl) (by first | assumption | omega) ?_; conv => whnf)
    | ((with_reducible refine row_map (by first | assumption | omega) ?_); conv => whnf)
    | ((with_reducible refine row_set (by first | assumption | omega | (simp only [List.length_set]; omega) | (simp; omega)) ?_); conv => whnf)
    | fail)
  rw [hn]
  refine .ex _ (acts_pc (L := L) (p := 0 + 1) ⟨hL, by omega, by omega⟩ (by omega) n (by omega)) ?_
  rintro _ _ ⟨l, p, rfl, rfl, h1, h2, h3, h4⟩
  have hS : StOk L p := ⟨hL, by omega, by omega⟩
  have hr2 := rangeV_in L p 0 4 (by omega)
  obtain ⟨n2, hn2⟩ := Int.eq_ofNat_of_zero_le hr2.1
  conv => whnf
  repeat' (first
    | (refine Split.mk (fun h => ?_) (fun h => ?_) <;> (try simp only [decide_eq_true_eq, decide_eq_false_iff_not, Bool.not_eq_true', Bool.not_eq_false', beq_iff_eq, beq_eq_false_iff_ne, bne_iff_ne, bne_eq_false_iff_eq] at h) <;> (first | (exfalso; first | omega | exact h trivial) | (conv => whnf)))
    | (refine CondG.mk (fun h => ?_) (fun h => ?_) <;> (try simp only [decide_eq_true_eq, decide_eq_false_iff_not, Bool.not_eq_true', Bool.not_eq_false', beq_iff_eq, beq_eq_false_iff_ne, bne_iff_ne, bne_eq_false_iff_eq] at h) <;> (first | (exfalso; first | omega | exact h trivial) | (conv => whnf)))
    | (refine CallX.mk _ _ (by first | exact range_ok hS 0 4 (by omega) (small_lit (by decide)) (small_lit (by decide))) ?_; conv => whnf)
    | (refine CallG.mk _ _ (by first | exact range_ok hS 0 4 (by omega) (small_lit (by decide)) (small_lit (by decide))) ?_; conv => whnf)
    | (refine Ask.mk (by first | omega | (unfold roomOK; simp [cutRows]; done) | (unfold roomOK; simp [cutRows]; omega) | (simp [cutRows]; done) | (simp [cutRows]; omega)) ?_; conv => whnf)
    | (refine SliceG.fr ?_; conv => whnf)
    | (refine idx_at _ (by with_reducible rfl) (by first | assumption | omega) ?_; conv => whnf)
    | ((with_reducible refine row_map (by first | assumption | omega) ?_); conv => whnf)
    | ((with_reducible refine row_set (by first | assumption | omega | (simp only [List.length_set]; omega) | (simp; omega)) ?_); conv => whnf)
    | fail)
  rw [hn2]
  refine .ex _ (acts_pc (L := L) (p := p + 1) ⟨hL, by omega, by omega⟩ (by omega) n2 (by omega)) ?_
  rintro _ _ ⟨b, p2, rfl, rfl, h5, h6, h7, h8⟩
  conv => whnf
  repeat' (first
    | (refine Split.mk (fun h => ?_) (fun h => ?_) <;> (try simp only [decide_eq_true_eq, decide_eq_false_iff_not, Bool.not_eq_true', Bool.not_eq_false', beq_iff_eq, beq_eq_false_iff_ne, bne_iff_ne, bne_eq_false_iff_eq] at h) <;> (first | (exfalso; first | omega | exact h trivial) | (conv => whnf)))
    | (refine CondG.mk (fun h => ?_) (fun h => ?_) <;> (try simp only [decide_eq_true_eq, decide_eq_false_iff_not, Bool.not_eq_true', Bool.not_eq_false', beq_iff_eq, beq_eq_false_iff_ne, bne_iff_ne, bne_eq_false_iff_eq] at h) <;> (first | (exfalso; first | omega | exact h trivial) | (conv => whnf)))
    | (refine CallX.mk _ _ (by first | exact storeTime_pc (L := L) (p := p2) ⟨hL, by omega, by omega⟩) ?_; conv => whnf)
    | (refine CallG.mk _ _ (by first | exact storeTime_pc (L := L) (p := p2) ⟨hL, by omega, by omega⟩) ?_; conv => whnf)
    | (refine Ask.mk (by first | omega | (unfold roomOK; simp [cutRows]; done) | (unfold roomOK; simp [cutRows]; omega) | (simp [cutRows]; done) | (simp [cutRows]; omega)) ?_; conv => whnf)
    | (refine SliceG.fr ?_; conv => whnf)
    | (refine idx_at _ (by with_reducible rfl) (by first | assumption | omega) ?_; conv => whnf)
    | ((with_reducible refine row_map (by first | assumption | omega) ?_); conv => whnf)
    | ((with_reducible refine row_set (by first | assumption | omega | (simp only [List.length_set]; omega) | (simp; omega)) ?_); conv => whnf)
    | fail)
  generalize pickV L p2 [0, 2, 5, 10, 20, 50, -1, 345686400000] = t
  have c1 := dMerge_pc l b (by omega)
  have c2 := dRefused_pc l (by omega)
  have c3 := errs_pc [actsFault l, actsFault b] (by simp)
  have c4 := errs_pc [actsFault l, if momB t = true then 0 else 1] (by simp)
  rw [atE_eq] at c4
  have hv := refV_len l (by omega)
  have hml : (mgV l b).length ≤ 1000000 := by
    have := cpt_len (insSort timeC (l ++ b))
    rw [insSort_len, List.length_append] at this
    unfold mgV; omega
  by_cases hf : actsFault l = 0
  · have hL : LongR (rAt l t) := longR_at (names := names6) (by decide) h4 hf (cntAt l t) (cntAt_le l t)
    have hsl : (stockV l t).length ≤ 1000000 := by
      have h9 := stL_len (rAt l t) (rAt l t).l.es
      have h10 := hL.2
      unfold stockV; rw [insSort_len]; omega
    by_cases hb : firstErr [actsFault l, actsFault b] = 0
    · have hfb : actsFault b = 0 := by
        simp only [firstErr, hf, if_true] at hb
        split at hb
        · assumption
        · exact hb
      have hx : ∀ x ∈ l ++ b, actErr x = 0 := by
        intro x hx
        rcases List.mem_append.1 hx with hx | hx
        · exact (actsFault_all hf).2 x hx
        · exact (actsFault_all hfb).2 x hx
      rw [if_pos hb, hb] at c1
      rw [hb] at c3
      by_cases ht : atE l t = 0
      · rw [ht] at c4
        repeat' (first
          | (refine Split.mk (fun h => ?_) (fun h => ?_) <;> (try simp only [decide_eq_true_eq, decide_eq_false_iff_not, Bool.not_eq_true', Bool.not_eq_false', beq_iff_eq, beq_eq_false_iff_ne, bne_iff_ne, bne_eq_false_iff_eq] at h) <;> (first | (exfalso; first | omega | exact h trivial | contradiction | (simp_all [eqRes]; done)) | (conv => whnf)))
          | (refine CondG.mk (fun h => ?_) (fun h => ?_) <;> (try simp only [decide_eq_true_eq, decide_eq_false_iff_not, Bool.not_eq_true', Bool.not_eq_false', beq_iff_eq, beq_eq_false_iff_ne, bne_iff_ne, bne_eq_false_iff_eq] at h) <;> (first | (exfalso; first | omega | exact h trivial | contradiction | (simp_all [eqRes]; done)) | (conv => whnf)))
          | (refine CallX.mk _ _ (by first | exact c1 | exact c2 | exact dStock_one l t ht | exact dTotals_one l t ht hL | exact rActs_pc l | exact rActs_pc b | exact c3 | exact rMomentFault_pc t | exact c4 | exact rMerged_pc l b (by omega) (by omega) hx | exact eqAcS_pc (mgV l b) (by omega) | exact rRefused_pc l hf | exact eqInS_pc (refV l) hv.1 | exact eqErS_pc (whyV l) hv.2 | exact rStock_one l t ht hL | exact rTotals_one l t ht hL | exact eqPcS_pc (stockV l t) (by omega) | exact eqPrS_pc (totV l t) (totV_len l t ht hL) | exact checkActs_pc l | exact stored_pc) ?_; conv => whnf)
          | (refine CallG.mk _ _ (by first | exact c1 | exact c2 | exact dStock_one l t ht | exact dTotals_one l t ht hL | exact rActs_pc l | exact rActs_pc b | exact c3 | exact rMomentFault_pc t | exact c4 | exact rMerged_pc l b (by omega) (by omega) hx | exact eqAcS_pc (mgV l b) (by omega) | exact rRefused_pc l hf | exact eqInS_pc (refV l) hv.1 | exact eqErS_pc (whyV l) hv.2 | exact rStock_one l t ht hL | exact rTotals_one l t ht hL | exact eqPcS_pc (stockV l t) (by omega) | exact eqPrS_pc (totV l t) (totV_len l t ht hL) | exact checkActs_pc l | exact stored_pc) ?_; conv => whnf)
          | (refine Ask.mk (by first | omega | (unfold roomOK; simp [cutRows]; done) | (unfold roomOK; simp [cutRows]; omega) | (simp [cutRows]; done) | (simp [cutRows]; omega)) ?_; conv => whnf)
          | (refine SliceG.fr ?_; conv => whnf)
          | (refine idx_at _ (by with_reducible rfl) (by first | assumption | omega) ?_; conv => whnf)
          | ((with_reducible refine row_map (by first | assumption | omega) ?_); conv => whnf)
          | ((with_reducible refine row_set (by first | assumption | omega | (simp only [List.length_set]; omega) | (simp; omega)) ?_); conv => whnf)
          | fail)
        all_goals exact finb rfl
      · repeat' (first
          | (refine Split.mk (fun h => ?_) (fun h => ?_) <;> (try simp only [decide_eq_true_eq, decide_eq_false_iff_not, Bool.not_eq_true', Bool.not_eq_false', beq_iff_eq, beq_eq_false_iff_ne, bne_iff_ne, bne_eq_false_iff_eq] at h) <;> (first | (exfalso; first | omega | exact h trivial | contradiction | (simp_all [eqRes]; done)) | (conv => whnf)))
          | (refine CondG.mk (fun h => ?_) (fun h => ?_) <;> (try simp only [decide_eq_true_eq, decide_eq_false_iff_not, Bool.not_eq_true', Bool.not_eq_false', beq_iff_eq, beq_eq_false_iff_ne, bne_iff_ne, bne_eq_false_iff_eq] at h) <;> (first | (exfalso; first | omega | exact h trivial | contradiction | (simp_all [eqRes]; done)) | (conv => whnf)))
          | (refine CallX.mk _ _ (by first | exact c1 | exact c2 | exact dStock_bad l t ht | exact dTotals_bad l t ht | exact rActs_pc l | exact rActs_pc b | exact c3 | exact rMomentFault_pc t | exact c4 | exact rMerged_pc l b (by omega) (by omega) hx | exact eqAcS_pc (mgV l b) (by omega) | exact rRefused_pc l hf | exact eqInS_pc (refV l) hv.1 | exact eqErS_pc (whyV l) hv.2 | exact eqPcN | exact eqPrN | exact checkActs_pc l | exact stored_pc) ?_; conv => whnf)
          | (refine CallG.mk _ _ (by first | exact c1 | exact c2 | exact dStock_bad l t ht | exact dTotals_bad l t ht | exact rActs_pc l | exact rActs_pc b | exact c3 | exact rMomentFault_pc t | exact c4 | exact rMerged_pc l b (by omega) (by omega) hx | exact eqAcS_pc (mgV l b) (by omega) | exact rRefused_pc l hf | exact eqInS_pc (refV l) hv.1 | exact eqErS_pc (whyV l) hv.2 | exact eqPcN | exact eqPrN | exact checkActs_pc l | exact stored_pc) ?_; conv => whnf)
          | (refine Ask.mk (by first | omega | (unfold roomOK; simp [cutRows]; done) | (unfold roomOK; simp [cutRows]; omega) | (simp [cutRows]; done) | (simp [cutRows]; omega)) ?_; conv => whnf)
          | (refine SliceG.fr ?_; conv => whnf)
          | (refine idx_at _ (by with_reducible rfl) (by first | assumption | omega) ?_; conv => whnf)
          | ((with_reducible refine row_map (by first | assumption | omega) ?_); conv => whnf)
          | ((with_reducible refine row_set (by first | assumption | omega | (simp only [List.length_set]; omega) | (simp; omega)) ?_); conv => whnf)
          | fail)
        all_goals exact finb rfl
    · rw [if_neg hb] at c1
      by_cases ht : atE l t = 0
      · rw [ht] at c4
        repeat' (first
          | (refine Split.mk (fun h => ?_) (fun h => ?_) <;> (try simp only [decide_eq_true_eq, decide_eq_false_iff_not, Bool.not_eq_true', Bool.not_eq_false', beq_iff_eq, beq_eq_false_iff_ne, bne_iff_ne, bne_eq_false_iff_eq] at h) <;> (first | (exfalso; first | omega | exact h trivial | contradiction | (simp_all [eqRes]; done)) | (conv => whnf)))
          | (refine CondG.mk (fun h => ?_) (fun h => ?_) <;> (try simp only [decide_eq_true_eq, decide_eq_false_iff_not, Bool.not_eq_true', Bool.not_eq_false', beq_iff_eq, beq_eq_false_iff_ne, bne_iff_ne, bne_eq_false_iff_eq] at h) <;> (first | (exfalso; first | omega | exact h trivial | contradiction | (simp_all [eqRes]; done)) | (conv => whnf)))
          | (refine CallX.mk _ _ (by first | exact c1 | exact c2 | exact dStock_one l t ht | exact dTotals_one l t ht hL | exact rActs_pc l | exact rActs_pc b | exact c3 | exact rMomentFault_pc t | exact c4 | exact eqAcN | exact rRefused_pc l hf | exact eqInS_pc (refV l) hv.1 | exact eqErS_pc (whyV l) hv.2 | exact rStock_one l t ht hL | exact rTotals_one l t ht hL | exact eqPcS_pc (stockV l t) (by omega) | exact eqPrS_pc (totV l t) (totV_len l t ht hL) | exact checkActs_pc l | exact stored_pc) ?_; conv => whnf)
          | (refine CallG.mk _ _ (by first | exact c1 | exact c2 | exact dStock_one l t ht | exact dTotals_one l t ht hL | exact rActs_pc l | exact rActs_pc b | exact c3 | exact rMomentFault_pc t | exact c4 | exact eqAcN | exact rRefused_pc l hf | exact eqInS_pc (refV l) hv.1 | exact eqErS_pc (whyV l) hv.2 | exact rStock_one l t ht hL | exact rTotals_one l t ht hL | exact eqPcS_pc (stockV l t) (by omega) | exact eqPrS_pc (totV l t) (totV_len l t ht hL) | exact checkActs_pc l | exact stored_pc) ?_; conv => whnf)
          | (refine Ask.mk (by first | omega | (unfold roomOK; simp [cutRows]; done) | (unfold roomOK; simp [cutRows]; omega) | (simp [cutRows]; done) | (simp [cutRows]; omega)) ?_; conv => whnf)
          | (refine SliceG.fr ?_; conv => whnf)
          | (refine idx_at _ (by with_reducible rfl) (by first | assumption | omega) ?_; conv => whnf)
          | ((with_reducible refine row_map (by first | assumption | omega) ?_); conv => whnf)
          | ((with_reducible refine row_set (by first | assumption | omega | (simp only [List.length_set]; omega) | (simp; omega)) ?_); conv => whnf)
          | fail)
        all_goals exact finb rfl
      · repeat' (first
          | (refine Split.mk (fun h => ?_) (fun h => ?_) <;> (try simp only [decide_eq_true_eq, decide_eq_false_iff_not, Bool.not_eq_true', Bool.not_eq_false', beq_iff_eq, beq_eq_false_iff_ne, bne_iff_ne, bne_eq_false_iff_eq] at h) <;> (first | (exfalso; first | omega | exact h trivial | contradiction | (simp_all [eqRes]; done)) | (conv => whnf)))
          | (refine CondG.mk (fun h => ?_) (fun h => ?_) <;> (try simp only [decide_eq_true_eq, decide_eq_false_iff_not, Bool.not_eq_true', Bool.not_eq_false', beq_iff_eq, beq_eq_false_iff_ne, bne_iff_ne, bne_eq_false_iff_eq] at h) <;> (first | (exfalso; first | omega | exact h trivial | contradiction | (simp_all [eqRes]; done)) | (conv => whnf)))
          | (refine CallX.mk _ _ (by first | exact c1 | exact c2 | exact dStock_bad l t ht | exact dTotals_bad l t ht | exact rActs_pc l | exact rActs_pc b | exact c3 | exact rMomentFault_pc t | exact c4 | exact eqAcN | exact rRefused_pc l hf | exact eqInS_pc (refV l) hv.1 | exact eqErS_pc (whyV l) hv.2 | exact eqPcN | exact eqPrN | exact checkActs_pc l | exact stored_pc) ?_; conv => whnf)
          | (refine CallG.mk _ _ (by first | exact c1 | exact c2 | exact dStock_bad l t ht | exact dTotals_bad l t ht | exact rActs_pc l | exact rActs_pc b | exact c3 | exact rMomentFault_pc t | exact c4 | exact eqAcN | exact rRefused_pc l hf | exact eqInS_pc (refV l) hv.1 | exact eqErS_pc (whyV l) hv.2 | exact eqPcN | exact eqPrN | exact checkActs_pc l | exact stored_pc) ?_; conv => whnf)
          | (refine Ask.mk (by first | omega | (unfold roomOK; simp [cutRows]; done) | (unfold roomOK; simp [cutRows]; omega) | (simp [cutRows]; done) | (simp [cutRows]; omega)) ?_; conv => whnf)
          | (refine SliceG.fr ?_; conv => whnf)
          | (refine idx_at _ (by with_reducible rfl) (by first | assumption | omega) ?_; conv => whnf)
          | ((with_reducible refine row_map (by first | assumption | omega) ?_); conv => whnf)
          | ((with_reducible refine row_set (by first | assumption | omega | (simp only [List.length_set]; omega) | (simp; omega)) ?_); conv => whnf)
          | fail)
        all_goals exact finb rfl
  · have hb : firstErr [actsFault l, actsFault b] ≠ 0 := by rw [firstErr, if_neg hf]; exact hf
    have ht : atE l t ≠ 0 := by rw [atE, if_pos hf]; exact hf
    have hr0 : refV l = [] := by rw [refV, if_neg hf]
    have hw0 : whyV l = [] := by rw [whyV, if_neg hf]
    rw [if_neg hb] at c1
    rw [hr0, hw0] at c2
    repeat' (first
      | (refine Split.mk (fun h => ?_) (fun h => ?_) <;> (try simp only [decide_eq_true_eq, decide_eq_false_iff_not, Bool.not_eq_true', Bool.not_eq_false', beq_iff_eq, beq_eq_false_iff_ne, bne_iff_ne, bne_eq_false_iff_eq] at h) <;> (first | (exfalso; first | omega | exact h trivial | contradiction | (simp_all [eqRes]; done)) | (conv => whnf)))
      | (refine CondG.mk (fun h => ?_) (fun h => ?_) <;> (try simp only [decide_eq_true_eq, decide_eq_false_iff_not, Bool.not_eq_true', Bool.not_eq_false', beq_iff_eq, beq_eq_false_iff_ne, bne_iff_ne, bne_eq_false_iff_eq] at h) <;> (first | (exfalso; first | omega | exact h trivial | contradiction | (simp_all [eqRes]; done)) | (conv => whnf)))
      | (refine CallX.mk _ _ (by first | exact c1 | exact c2 | exact dStock_bad l t ht | exact dTotals_bad l t ht | exact rActs_pc l | exact rActs_pc b | exact c3 | exact rMomentFault_pc t | exact c4 | exact eqAcN | exact eqInN | exact eqErN | exact eqPcN | exact eqPrN | exact checkActs_pc l | exact stored_pc) ?_; conv => whnf)
      | (refine CallG.mk _ _ (by first | exact c1 | exact c2 | exact dStock_bad l t ht | exact dTotals_bad l t ht | exact rActs_pc l | exact rActs_pc b | exact c3 | exact rMomentFault_pc t | exact c4 | exact eqAcN | exact eqInN | exact eqErN | exact eqPcN | exact eqPrN | exact checkActs_pc l | exact stored_pc) ?_; conv => whnf)
      | (refine Ask.mk (by first | omega | (unfold roomOK; simp [cutRows]; done) | (unfold roomOK; simp [cutRows]; omega) | (simp [cutRows]; done) | (simp [cutRows]; omega)) ?_; conv => whnf)
      | (refine SliceG.fr ?_; conv => whnf)
      | (refine idx_at _ (by with_reducible rfl) (by first | assumption | omega) ?_; conv => whnf)
      | ((with_reducible refine row_map (by first | assumption | omega) ?_); conv => whnf)
      | ((with_reducible refine row_set (by first | assumption | omega | (simp only [List.length_set]; omega) | (simp; omega)) ?_); conv => whnf)
      | fail)
    all_goals exact finb rfl
end Go.Proofs.YtmdcgimpgoacdaaGreatDoor
