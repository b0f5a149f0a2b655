/- Parts of the proof, in order. -/
import Derived.Test.YtlifcpcfhkpejaaGreatMTracesStay9

/- Services are checked; what is down and up is checked. -/
namespace Go.Proofs.YtlifcpcfhkpejaaGreat
set_option linter.unusedVariables false
set_option linter.unusedSimpArgs false
open Abs

set_option maxRecDepth 100000 in
set_option maxHeartbeats 4000000 in
theorem bsSv_pc (g : Nat) (c : Sv → Int) (t : S) (l : List Sv) (hl : l.length ≤ 1000000) (hmono : ∀ i j (hj : j < l.length) (hij : i ≤ j), c l[j] < 0 → c (l[i]'(by omega)) < 0) (ht : isStr t) (hg : ∀ x ∈ l, PCp g [.agg (encSv x), t] [] (.c (.int .i64 (c x))) []) :
    PCp 106 [.c (.lst 3 (l.map encSv)), t, .c (.fn g [])] [] (.tup [.c (.int .i64 ((cntL c l : Nat) : Int)), .c (.bool (hitL c l))]) [] := by
  have hlm : (l.map encSv).length = l.length := List.length_map ..
  obtain ⟨key, rfl⟩ := ht
  refine fn_sound (mt := mts) tab_fits tab_mixed Tryz.func106 (by rfl) (by kernel_rfl) (by kernel_rfl) Tryz.results106 (Nat.le_of_ble_eq_true (by kernel_rfl)) ?_
  conv => whnf
  refine loop_meas2 (fun (i : Nat) (j : Nat) => j - i) [] [0, 1, 2, 8, 9, 10] (fun (i : Nat) (j : Nat) => ⟨[(0, .c (.lst 3 (l.map encSv))), (1, .c (.str key)), (2, .c (.fn g [])), (8, .c (.int .i64 (l.map encSv).length)), (9, .c (.int .i64 ((i : Nat) : Int))), (10, .c (.int .i64 ((j : Nat) : Int)))], [], 0⟩) (fun (i : Nat) (j : Nat) => i ≤ j ∧ j ≤ l.length ∧ (∀ k (h : k < l.length), k < i → c l[k] < 0) ∧ (∀ k (h : k < l.length), j ≤ k → ¬ c l[k] < 0)) (0) (l.length) ?_ ?_
  · conv => whnf
    exact ⟨by rw [hlm]; rfl, Nat.zero_le _, Nat.le_refl _, by intro k h h2; omega, by intro k h h2; omega⟩
  · intro i j ⟨h1, h2, h3, h4⟩
    have hmid := mid_eq (i := i) (j := j) (by omega)
    conv => whnf
    repeat' (first | ((first | refine Split.mk (fun h => ?_) (fun h => ?_) | refine CondG.mk (fun h => ?_) (fun h => ?_)) <;> (try simp only [decide_eq_true_eq, decide_eq_false_iff_not, Bool.not_eq_true', Bool.not_eq_false', beq_iff_eq, beq_eq_false_iff_ne, bne_iff_ne, bne_eq_false_iff_eq] at h) <;> (first | (exfalso; first | omega | exact h trivial) | (conv => whnf))) | (refine Ask.mk (by first | omega | (unfold roomOK; simp [cutRows]; done) | (unfold roomOK; simp [cutRows]; omega) | (simp [cutRows]; done) | (simp [cutRows]; omega)) ?_; conv => whnf) | (refine AppG.mk (by first | omega | (unfold roomOK; simp [cutRows]; done) | (unfold roomOK; simp [cutRows]; omega) | (simp [cutRows]; done) | (simp [cutRows]; omega)) ?_; conv => whnf) | (refine SliceG.fr ?_; conv => whnf) | (refine idx_at _ (by with_reducible rfl) (by first | assumption | omega) ?_; conv => whnf) | ((with_reducible refine row_map (by first | assumption | omega) ?_); conv => whnf) | ((with_reducible refine row_set (by first | assumption | omega | (simp only [List.length_set]; omega) | (simp; omega)) ?_); conv => whnf) | fail)
    · rw [hmid]
      refine idx_map ((i + j) / 2) (by omega) rfl ?_
      conv => whnf
      repeat' (first | ((first | refine Split.mk (fun h => ?_) (fun h => ?_) | refine CondG.mk (fun h => ?_) (fun h => ?_)) <;> (try simp only [decide_eq_true_eq, decide_eq_false_iff_not, Bool.not_eq_true', Bool.not_eq_false', beq_iff_eq, beq_eq_false_iff_ne] at h) <;> (first | (exfalso; first | omega | exact h trivial) | (conv => whnf))) | (refine CallX.mk _ _ (by first | exact hg (l[(i + j) / 2]'(by omega)) (List.getElem_mem _)) ?_; conv => whnf) | (refine CallG.mk _ _ (by first | exact hg (l[(i + j) / 2]'(by omega)) (List.getElem_mem _)) ?_; conv => whnf) | (refine Ask.mk (by first | omega | (unfold roomOK; simp [cutRows]; done) | (unfold roomOK; simp [cutRows]; omega)) ?_; conv => whnf) | (refine AppG.mk (by first | omega | (unfold roomOK; simp [cutRows]; done) | (unfold roomOK; simp [cutRows]; omega)) ?_; conv => whnf) | (refine SliceG.fr ?_; conv => whnf) | fail)
      · exact meas_next ((i + j) / 2 + 1, j) (by simp only; omega) (by rw [wrap_succ (n := l.length) (by omega) (by omega)]; rfl) ⟨by simp only; omega, h2, fun k hk hki => hmono k ((i + j) / 2) (by omega) (by simp only at hki; omega) h, h4⟩
      · exact meas_next (i, (i + j) / 2) (by simp only; omega) rfl ⟨by simp only; omega, by simp only; omega, h3, fun k hk hki => fun hc => h (hmono ((i + j) / 2) k hk hki hc)⟩
    all_goals
      have hij : i = j := by omega
      subst hij
      have hci : cntL c l = i := cntL_at h2 h3 h4
    · repeat' (first
        | (refine Split.mk (fun h => ?_) (fun h => ?_) <;> (try simp only [decide_eq_true_eq, decide_eq_false_iff_not, Bool.not_eq_true', Bool.not_eq_false', beq_iff_eq, beq_eq_false_iff_ne, bne_iff_ne, bne_eq_false_iff_eq] at h) <;> (first | (exfalso; first | omega | exact h trivial) | (conv => whnf)))
        | (refine CondG.mk (fun h => ?_) (fun h => ?_) <;> (try simp only [decide_eq_true_eq, decide_eq_false_iff_not, Bool.not_eq_true', Bool.not_eq_false', beq_iff_eq, beq_eq_false_iff_ne, bne_iff_ne, bne_eq_false_iff_eq] at h) <;> (first | (exfalso; first | omega | exact h trivial) | (conv => whnf)))
        | (refine CallX.mk _ _ (by first | exact hg (l[i]'(by omega)) (List.getElem_mem _)) ?_; conv => whnf)
        | (refine CallG.mk _ _ (by first | exact hg (l[i]'(by omega)) (List.getElem_mem _)) ?_; conv => whnf)
        | (refine Ask.mk (by first | omega | (unfold roomOK; simp [cutRows]; done) | (unfold roomOK; simp [cutRows]; omega) | (simp [cutRows]; done) | (simp [cutRows]; omega)) ?_; conv => whnf)
        | (refine AppG.mk (by first | omega | (unfold roomOK; simp [cutRows]; done) | (unfold roomOK; simp [cutRows]; omega) | (simp [cutRows]; done) | (simp [cutRows]; omega)) ?_; conv => whnf)
        | (refine SliceG.fr ?_; conv => whnf)
        | (refine idx_at _ (by with_reducible rfl) (by first | assumption | omega) ?_; conv => whnf)
        | ((with_reducible refine row_map (by first | assumption | omega) ?_); conv => whnf)
        | ((with_reducible refine row_set (by first | assumption | omega | (simp only [List.length_set]; omega) | (simp; omega)) ?_); conv => whnf)
        | fail)
      exact .mk ⟨by rw [hitL, hci, List.getElem?_eq_getElem (show i < l.length by omega)]; rfl, rfl⟩
    · exact .mk ⟨by rw [hitL, hci, List.getElem?_eq_none (show l.length ≤ i by omega)]; rfl, rfl⟩
set_option maxRecDepth 100000 in
set_option maxHeartbeats 4000000 in
theorem keysFault_pc (l : List ByteArray) (hl : l.length ≤ 1000000) : PCp 103 [.c (.lst 1 (l.map encS))] [] (.c (.int .i64 (elsErr l))) [] := by
  have hlm : (l.map encS).length = l.length := List.length_map ..
  refine fn_sound (mt := mts) tab_fits tab_mixed Tryz.func103 (by rfl) (by kernel_rfl) (by kernel_rfl) Tryz.results103 (Nat.le_of_ble_eq_true (by kernel_rfl)) ?_
  conv => whnf
  refine loop_for (l.length) [] [0, 5, 6, 7] (fun k (_ : Unit) => [(7, .c (.int .i64 (k : Int)))]) (fun k (_ : Unit) => []) (fun k (_ : Unit) => seqErr elErr id (decide (k = 0)) (befK id l k) (l.drop k) = elsErr l) (()) ?_
  conv => whnf
  refine ⟨(by first | rfl | (simp; done) | (simp; rfl)), ?_, ?_, ?_⟩
  · rfl
  · intro k _ hk hi
    conv => whnf
    repeat' (first | ((first | refine Split.mk (fun h => ?_) (fun h => ?_) | refine CondG.mk (fun h => ?_) (fun h => ?_)) <;> (try simp only [decide_eq_true_eq, decide_eq_false_iff_not, Bool.not_eq_true', Bool.not_eq_false', beq_iff_eq, beq_eq_false_iff_ne, bne_iff_ne, bne_eq_false_iff_eq] at h) <;> (first | (exfalso; first | omega | exact h trivial) | (conv => whnf))) | (refine CallX.mk _ _ (by first | exact bKey_pc _) ?_; conv => whnf) | (refine CallG.mk _ _ (by first | exact bKey_pc _) ?_; conv => whnf) | (refine Ask.mk (by first | omega | (unfold roomOK; simp [cutRows]; done) | (unfold roomOK; simp [cutRows]; omega) | (simp [cutRows]; done) | (simp [cutRows]; omega)) ?_; conv => whnf) | (refine AppG.mk (by first | omega | (unfold roomOK; simp [cutRows]; done) | (unfold roomOK; simp [cutRows]; omega) | (simp [cutRows]; done) | (simp [cutRows]; omega)) ?_; conv => whnf) | (refine SliceG.fr ?_; conv => whnf) | (refine idx_at _ (by with_reducible rfl) (by first | assumption | omega) ?_; conv => whnf) | ((with_reducible refine row_map (by first | assumption | omega) ?_); conv => whnf) | ((with_reducible refine row_set (by first | assumption | omega | (simp only [List.length_set]; omega) | (simp; omega)) ?_); conv => whnf) | ((refine idx_map (k - 1) (by omega) (by rw [wrap_in (by omega) (by omega)]; omega) ?_); conv => whnf) | fail)
    all_goals try simp only [toList_eq'] at *
    all_goals have hb := befK_pos (key := id) (l := l) (Nat.le_of_lt hk)
    all_goals first
      | (refine fini (seq_hit hk hi ?_ (by decide)); clear hi; unfold elErr; (try rw [hb (by omega)]); (repeat' split) <;> first | rfl | (exfalso; first | omega | (simp_all [leB, toList_eq']; done) | (simp_all [leB, toList_eq']; omega)))
      | (refine count_next () hk (by rw [wrap_succ hk (by omega)]; rfl) (seq_next' hk hi ?_); clear hi; unfold elErr; (try rw [hb (by omega)]); (repeat' split) <;> first | rfl | (exfalso; first | omega | (simp_all [leB, toList_eq']; done) | (simp_all [leB, toList_eq']; omega)))
  · intro _ hi
    conv => whnf
    repeat' (first | ((first | refine Split.mk (fun h => ?_) (fun h => ?_) | refine CondG.mk (fun h => ?_) (fun h => ?_)) <;> (try simp only [decide_eq_true_eq, decide_eq_false_iff_not, Bool.not_eq_true', Bool.not_eq_false', beq_iff_eq, beq_eq_false_iff_ne, bne_iff_ne, bne_eq_false_iff_eq] at h) <;> (first | (exfalso; first | omega | exact h trivial) | (conv => whnf))) | (refine Ask.mk (by first | omega | (unfold roomOK; simp [cutRows]; done) | (unfold roomOK; simp [cutRows]; omega) | (simp [cutRows]; done) | (simp [cutRows]; omega)) ?_; conv => whnf) | (refine AppG.mk (by first | omega | (unfold roomOK; simp [cutRows]; done) | (unfold roomOK; simp [cutRows]; omega) | (simp [cutRows]; done) | (simp [cutRows]; omega)) ?_; conv => whnf) | (refine SliceG.fr ?_; conv => whnf) | (refine idx_at _ (by with_reducible rfl) (by first | assumption | omega) ?_; conv => whnf) | ((with_reducible refine row_map (by first | assumption | omega) ?_); conv => whnf) | ((with_reducible refine row_set (by first | assumption | omega | (simp only [List.length_set]; omega) | (simp; omega)) ?_); conv => whnf) | fail)
    exact fini (seq_end hi).symm
set_option maxRecDepth 100000 in
set_option maxHeartbeats 4000000 in
theorem checkServices_pc (s : List Sv) (hx : ∀ x ∈ s, x.els.length ≤ 1000000) : PCp 74 [.c (.lst 3 (s.map encSv))] [] (.c (.int .i64 (svFault s))) [] := by
  have hlm : (s.map encSv).length = s.length := List.length_map ..
  refine fn_sound (mt := mts) tab_fits tab_mixed Tryz.func74 (by rfl) (by kernel_rfl) (by kernel_rfl) Tryz.results74 (Nat.le_of_ble_eq_true (by kernel_rfl)) ?_
  conv => whnf
  repeat' (first | ((first | refine Split.mk (fun h => ?_) (fun h => ?_) | refine CondG.mk (fun h => ?_) (fun h => ?_)) <;> (try simp only [decide_eq_true_eq, decide_eq_false_iff_not, Bool.not_eq_true', Bool.not_eq_false', beq_iff_eq, beq_eq_false_iff_ne, bne_iff_ne, bne_eq_false_iff_eq] at h) <;> (first | (exfalso; first | omega | exact h trivial) | (conv => whnf))) | (refine Ask.mk (by first | omega | (unfold roomOK; simp [cutRows]; done) | (unfold roomOK; simp [cutRows]; omega) | (simp [cutRows]; done) | (simp [cutRows]; omega)) ?_; conv => whnf) | (refine AppG.mk (by first | omega | (unfold roomOK; simp [cutRows]; done) | (unfold roomOK; simp [cutRows]; omega) | (simp [cutRows]; done) | (simp [cutRows]; omega)) ?_; conv => whnf) | (refine SliceG.fr ?_; conv => whnf) | (refine idx_at _ (by with_reducible rfl) (by first | assumption | omega) ?_; conv => whnf) | ((with_reducible refine row_map (by first | assumption | omega) ?_); conv => whnf) | ((with_reducible refine row_set (by first | assumption | omega | (simp only [List.length_set]; omega) | (simp; omega)) ?_); conv => whnf) | fail)
  · exact fini (by rw [svFault, if_pos (by omega)])
  have hF : svFault s = seqErr svErr Sv.key true ⟨#[]⟩ s := by rw [svFault, if_neg (by omega)]
  refine loop_for (s.length) [] [0, 9, 10, 11] (fun k (_ : Unit) => [(11, .c (.int .i64 (k : Int)))]) (fun k (_ : Unit) => []) (fun k (_ : Unit) => seqErr svErr Sv.key (decide (k = 0)) (befK Sv.key s k) (s.drop k) = svFault s) (()) ?_
  conv => whnf
  refine ⟨(by first | rfl | (simp; done) | (simp; rfl)), ?_, ?_, ?_⟩
  · exact hF.symm
  · intro k _ hk hi
    have hxk := hx _ (List.getElem_mem hk)
    have hxm : (s[k].els.map encS).length = s[k].els.length := List.length_map ..
    conv => whnf
    repeat' (first | ((first | refine Split.mk (fun h => ?_) (fun h => ?_) | refine CondG.mk (fun h => ?_) (fun h => ?_)) <;> (try simp only [decide_eq_true_eq, decide_eq_false_iff_not, Bool.not_eq_true', Bool.not_eq_false', beq_iff_eq, beq_eq_false_iff_ne, bne_iff_ne, bne_eq_false_iff_eq] at h) <;> (first | (exfalso; first | omega | exact h trivial) | (conv => whnf))) | (refine CallX.mk _ _ (by first | exact bKey_pc _ | exact bOut_pc _ _ _ | exact keysFault_pc _ hxk) ?_; conv => whnf) | (refine CallG.mk _ _ (by first | exact bKey_pc _ | exact bOut_pc _ _ _ | exact keysFault_pc _ hxk) ?_; conv => whnf) | (refine Ask.mk (by first | omega | (unfold roomOK; simp [cutRows]; done) | (unfold roomOK; simp [cutRows]; omega) | (simp [cutRows]; done) | (simp [cutRows]; omega)) ?_; conv => whnf) | (refine AppG.mk (by first | omega | (unfold roomOK; simp [cutRows]; done) | (unfold roomOK; simp [cutRows]; omega) | (simp [cutRows]; done) | (simp [cutRows]; omega)) ?_; conv => whnf) | (refine SliceG.fr ?_; conv => whnf) | (refine idx_at _ (by with_reducible rfl) (by first | assumption | omega) ?_; conv => whnf) | ((with_reducible refine row_map (by first | assumption | omega) ?_); conv => whnf) | ((with_reducible refine row_set (by first | assumption | omega | (simp only [List.length_set]; omega) | (simp; omega)) ?_); conv => whnf) | ((refine idx_map (k - 1) (by omega) (by rw [wrap_in (by omega) (by omega)]; omega) ?_); conv => whnf) | fail)
    all_goals try simp only [toList_eq'] at *
    all_goals have hb := befK_pos (key := Sv.key) (l := s) (Nat.le_of_lt hk)
    all_goals first
      | (refine fini (seq_hit hk hi ?_ (by first | decide | (simp_all; done))); clear hi hF; unfold svErr elsFault; (try rw [hb (by omega)]); (repeat' split) <;> first | rfl | (exfalso; first | omega | (simp_all [leB, toList_eq']; done) | (simp_all [leB, toList_eq']; omega)))
      | (refine count_next () hk (by rw [wrap_succ hk (by omega)]; rfl) (seq_next' hk hi ?_); clear hi hF; unfold svErr elsFault; (try rw [hb (by omega)]); (repeat' split) <;> first | rfl | (exfalso; first | omega | (simp_all [leB, toList_eq']; done) | (simp_all [leB, toList_eq']; omega)))
  · intro _ hi
    conv => whnf
    repeat' (first | ((first | refine Split.mk (fun h => ?_) (fun h => ?_) | refine CondG.mk (fun h => ?_) (fun h => ?_)) <;> (try simp only [decide_eq_true_eq, decide_eq_false_iff_not, Bool.not_eq_true', Bool.not_eq_false', beq_iff_eq, beq_eq_false_iff_ne, bne_iff_ne, bne_eq_false_iff_eq] at h) <;> (first | (exfalso; first | omega | exact h trivial) | (conv => whnf))) | (refine Ask.mk (by first | omega | (unfold roomOK; simp [cutRows]; done) | (unfold roomOK; simp [cutRows]; omega) | (simp [cutRows]; done) | (simp [cutRows]; omega)) ?_; conv => whnf) | (refine AppG.mk (by first | omega | (unfold roomOK; simp [cutRows]; done) | (unfold roomOK; simp [cutRows]; omega) | (simp [cutRows]; done) | (simp [cutRows]; omega)) ?_; conv => whnf) | (refine SliceG.fr ?_; conv => whnf) | (refine idx_at _ (by with_reducible rfl) (by first | assumption | omega) ?_; conv => whnf) | ((with_reducible refine row_map (by first | assumption | omega) ?_); conv => whnf) | ((with_reducible refine row_set (by first | assumption | omega | (simp only [List.length_set]; omega) | (simp; omega)) ?_); conv => whnf) | fail)
    exact fini (seq_end hi).symm
/-! the number of a service -/
def svIx (s : List Sv) (k : ByteArray) : Int := if hitL (fun x : Sv => cmpS x.key k) s then (cntL (fun x : Sv => cmpS x.key k) s : Int) else -1
theorem svIx_or {s : List Sv} (hr : Rise Sv.key s) (k : ByteArray) : (hasSv s k = false ∧ svIx s k = -1) ∨ (hasSv s k = true ∧ ∃ i, ∃ hi : i < s.length, svIx s k = ((i : Nat) : Int) ∧ s[i] = svG s k) := by
  have hc : ∀ x : Sv, (cmpS x.key k < 0 ↔ ltB x.key k = true) ∧ (cmpS x.key k = 0 ↔ x.key = k) := fun x => ⟨cmp_lt, cmp_zero⟩
  have hf := find_rise (c := fun x : Sv => cmpS x.key k) hc hr
  unfold svIx hasSv svG
  cases h : hitL (fun x : Sv => cmpS x.key k) s with
  | false =>
    left
    have hn : svAt s k = none := by unfold svAt; rw [hf, h]; rfl
    rw [hn]; exact ⟨rfl, by simp⟩
  | true =>
    right
    have hlt : cntL (fun x : Sv => cmpS x.key k) s < s.length := by
      rcases Nat.lt_or_ge (cntL (fun x : Sv => cmpS x.key k) s) s.length with h1 | h1
      · exact h1
      · unfold hitL at h; rw [List.getElem?_eq_none h1] at h; cases h
    have hn : svAt s k = some (s[cntL (fun x : Sv => cmpS x.key k) s]) := by unfold svAt; rw [hf, if_pos h, List.getElem?_eq_getElem hlt]
    rw [hn]
    exact ⟨rfl, _, hlt, by simp, rfl⟩
set_option maxRecDepth 100000 in
set_option maxHeartbeats 4000000 in
theorem fFind1_pc (x : Sv) (k : ByteArray) : PCp 107 [.agg (encSv x), .c (.str k)] [] (.c (.int .i64 (cmpS x.key k))) [] := by
  refine fn_sound (mt := mts) tab_fits tab_mixed Tryz.func107 (by rfl) (by kernel_rfl) (by kernel_rfl) Tryz.results107 (Nat.le_of_ble_eq_true (by kernel_rfl)) ?_
  conv => whnf
  repeat' (first | ((first | refine Split.mk (fun h => ?_) (fun h => ?_) | refine CondG.mk (fun h => ?_) (fun h => ?_)) <;> (try simp only [decide_eq_true_eq, decide_eq_false_iff_not, Bool.not_eq_true', Bool.not_eq_false', beq_iff_eq, beq_eq_false_iff_ne, bne_iff_ne, bne_eq_false_iff_eq] at h) <;> (first | (exfalso; first | omega | exact h trivial) | (conv => whnf))) | (refine CallX.mk _ _ (by first | exact sCompare_pc _ _) ?_; conv => whnf) | (refine CallG.mk _ _ (by first | exact sCompare_pc _ _) ?_; conv => whnf) | (refine Ask.mk (by first | omega | (unfold roomOK; simp [cutRows]; done) | (unfold roomOK; simp [cutRows]; omega) | (simp [cutRows]; done) | (simp [cutRows]; omega)) ?_; conv => whnf) | (refine AppG.mk (by first | omega | (unfold roomOK; simp [cutRows]; done) | (unfold roomOK; simp [cutRows]; omega) | (simp [cutRows]; done) | (simp [cutRows]; omega)) ?_; conv => whnf) | (refine SliceG.fr ?_; conv => whnf) | (refine idx_at _ (by with_reducible rfl) (by first | assumption | omega) ?_; conv => whnf) | ((with_reducible refine row_map (by first | assumption | omega) ?_); conv => whnf) | ((with_reducible refine row_set (by first | assumption | omega | (simp only [List.length_set]; omega) | (simp; omega)) ?_); conv => whnf) | fail)
  exact fini rfl
set_option maxRecDepth 100000 in
set_option maxHeartbeats 4000000 in
theorem fFind_pc (s : List Sv) (hr : Rise Sv.key s) (hl : s.length ≤ 1000000) (k : ByteArray) : PCp 79 [.c (.lst 3 (s.map encSv)), .c (.str k)] [] (.c (.int .i64 (svIx s k))) [] := by
  have hlm : (s.map encSv).length = s.length := List.length_map ..
  refine fn_sound (mt := mts) tab_fits tab_mixed Tryz.func79 (by rfl) (by kernel_rfl) (by kernel_rfl) Tryz.results79 (Nat.le_of_ble_eq_true (by kernel_rfl)) ?_
  conv => whnf
  repeat' (first | ((first | refine Split.mk (fun h => ?_) (fun h => ?_) | refine CondG.mk (fun h => ?_) (fun h => ?_)) <;> (try simp only [decide_eq_true_eq, decide_eq_false_iff_not, Bool.not_eq_true', Bool.not_eq_false', beq_iff_eq, beq_eq_false_iff_ne, bne_iff_ne, bne_eq_false_iff_eq] at h) <;> (first | (exfalso; first | omega | exact h trivial) | (conv => whnf))) | (refine CallX.mk _ _ (by first | exact bsSv_pc 107 (fun x => cmpS x.key k) (.c (.str k)) s hl (rise_mono (fun x => cmp_lt) hr) ⟨_, rfl⟩ (fun x _ => fFind1_pc x k)) ?_; conv => whnf) | (refine CallG.mk _ _ (by first | exact bsSv_pc 107 (fun x => cmpS x.key k) (.c (.str k)) s hl (rise_mono (fun x => cmp_lt) hr) ⟨_, rfl⟩ (fun x _ => fFind1_pc x k)) ?_; conv => whnf) | (refine Ask.mk (by first | omega | (unfold roomOK; simp [cutRows]; done) | (unfold roomOK; simp [cutRows]; omega) | (simp [cutRows]; done) | (simp [cutRows]; omega)) ?_; conv => whnf) | (refine AppG.mk (by first | omega | (unfold roomOK; simp [cutRows]; done) | (unfold roomOK; simp [cutRows]; omega) | (simp [cutRows]; done) | (simp [cutRows]; omega)) ?_; conv => whnf) | (refine SliceG.fr ?_; conv => whnf) | (refine idx_at _ (by with_reducible rfl) (by first | assumption | omega) ?_; conv => whnf) | ((with_reducible refine row_map (by first | assumption | omega) ?_); conv => whnf) | ((with_reducible refine row_set (by first | assumption | omega | (simp only [List.length_set]; omega) | (simp; omega)) ?_); conv => whnf) | fail)
  · exact fini (by rw [svIx, if_neg (by rw [h]; decide)])
  · exact fini (by rw [svIx, if_pos h])
set_option maxRecDepth 100000 in
set_option maxHeartbeats 4000000 in
theorem listFault_pc (s : List Sv) (hs : SvOk s) (l : List ByteArray) : PCp 75 [.c (.lst 3 (s.map encSv)), .c (.lst 1 (l.map encS))] [] (.c (.int .i64 (stErr s l))) [] := by
  have hlm : (l.map encS).length = l.length := List.length_map ..
  have hsl := hs.len
  refine fn_sound (mt := mts) tab_fits tab_mixed Tryz.func75 (by rfl) (by kernel_rfl) (by kernel_rfl) Tryz.results75 (Nat.le_of_ble_eq_true (by kernel_rfl)) ?_
  conv => whnf
  repeat' (first | ((first | refine Split.mk (fun h => ?_) (fun h => ?_) | refine CondG.mk (fun h => ?_) (fun h => ?_)) <;> (try simp only [decide_eq_true_eq, decide_eq_false_iff_not, Bool.not_eq_true', Bool.not_eq_false', beq_iff_eq, beq_eq_false_iff_ne, bne_iff_ne, bne_eq_false_iff_eq] at h) <;> (first | (exfalso; first | omega | exact h trivial) | (conv => whnf))) | (refine Ask.mk (by first | omega | (unfold roomOK; simp [cutRows]; done) | (unfold roomOK; simp [cutRows]; omega) | (simp [cutRows]; done) | (simp [cutRows]; omega)) ?_; conv => whnf) | (refine AppG.mk (by first | omega | (unfold roomOK; simp [cutRows]; done) | (unfold roomOK; simp [cutRows]; omega) | (simp [cutRows]; done) | (simp [cutRows]; omega)) ?_; conv => whnf) | (refine SliceG.fr ?_; conv => whnf) | (refine idx_at _ (by with_reducible rfl) (by first | assumption | omega) ?_; conv => whnf) | ((with_reducible refine row_map (by first | assumption | omega) ?_); conv => whnf) | ((with_reducible refine row_set (by first | assumption | omega | (simp only [List.length_set]; omega) | (simp; omega)) ?_); conv => whnf) | fail)
  · exact fini (by rw [stErr, if_pos (by omega)])
  have hF : stErr s l = seqErr (keyErr (hasSv s)) id true ⟨#[]⟩ l := by rw [stErr, if_neg (by omega)]
  refine loop_for (l.length) [] [0, 1, 10, 11, 12] (fun k (_ : Unit) => [(12, .c (.int .i64 (k : Int)))]) (fun k (_ : Unit) => []) (fun k (_ : Unit) => seqErr (keyErr (hasSv s)) id (decide (k = 0)) (befK id l k) (l.drop k) = stErr s l) (()) ?_
  conv => whnf
  refine ⟨(by first | rfl | (simp; done) | (simp; rfl)), ?_, ?_, ?_⟩
  · exact hF.symm
  · intro k _ hk hi
    have hIx : svIx s l[k] < 0 ↔ hasSv s l[k] = false := by
      rcases svIx_or hs.rise l[k] with ⟨h1, h2⟩ | ⟨h1, i, hi, h2, _⟩
      · rw [h1, h2]; simp
      · rw [h1, h2]; simp
    conv => whnf
    repeat' (first | ((first | refine Split.mk (fun h => ?_) (fun h => ?_) | refine CondG.mk (fun h => ?_) (fun h => ?_)) <;> (try simp only [decide_eq_true_eq, decide_eq_false_iff_not, Bool.not_eq_true', Bool.not_eq_false', beq_iff_eq, beq_eq_false_iff_ne, bne_iff_ne, bne_eq_false_iff_eq] at h) <;> (first | (exfalso; first | omega | exact h trivial) | (conv => whnf))) | (refine CallX.mk _ _ (by first | exact fFind_pc s hs.rise (by omega) _) ?_; conv => whnf) | (refine CallG.mk _ _ (by first | exact fFind_pc s hs.rise (by omega) _) ?_; conv => whnf) | (refine Ask.mk (by first | omega | (unfold roomOK; simp [cutRows]; done) | (unfold roomOK; simp [cutRows]; omega) | (simp [cutRows]; done) | (simp [cutRows]; omega)) ?_; conv => whnf) | (refine AppG.mk (by first | omega | (unfold roomOK; simp [cutRows]; done) | (unfold roomOK; simp [cutRows]; omega) | (simp [cutRows]; done) | (simp [cutRows]; omega)) ?_; conv => whnf) | (refine SliceG.fr ?_; conv => whnf) | (refine idx_at _ (by with_reducible rfl) (by first | assumption | omega) ?_; conv => whnf) | ((with_reducible refine row_map (by first | assumption | omega) ?_); conv => whnf) | ((with_reducible refine row_set (by first | assumption | omega | (simp only [List.length_set]; omega) | (simp; omega)) ?_); conv => whnf) | ((refine idx_map (k - 1) (by omega) (by rw [wrap_in (by omega) (by omega)]; omega) ?_); conv => whnf) | fail)
    all_goals try simp only [toList_eq', hIx] at *
    all_goals have hb := befK_pos (key := id) (l := l) (Nat.le_of_lt hk)
    all_goals first
      | (refine fini (seq_hit hk hi ?_ (by decide)); clear hi hF; unfold keyErr; (try rw [hb (by omega)]); (repeat' split) <;> first | rfl | (exfalso; first | omega | (simp_all [leB, toList_eq']; done) | (simp_all [leB, toList_eq']; omega)))
      | (refine count_next () hk (by rw [wrap_succ hk (by omega)]; rfl) (seq_next' hk hi ?_); clear hi hF; unfold keyErr; (try rw [hb (by omega)]); (repeat' split) <;> first | rfl | (exfalso; first | omega | (simp_all [leB, toList_eq']; done) | (simp_all [leB, toList_eq']; omega)))
  · intro _ hi
    conv => whnf
    repeat' (first | ((first | refine Split.mk (fun h => ?_) (fun h => ?_) | refine CondG.mk (fun h => ?_) (fun h => ?_)) <;> (try simp only [decide_eq_true_eq, decide_eq_false_iff_not, Bool.not_eq_true', Bool.not_eq_false', beq_iff_eq, beq_eq_false_iff_ne, bne_iff_ne, bne_eq_false_iff_eq] at h) <;> (first | (exfalso; first | omega | exact h trivial) | (conv => whnf))) | (refine Ask.mk (by first | omega | (unfold roomOK; simp [cutRows]; done) | (unfold roomOK; simp [cutRows]; omega) | (simp [cutRows]; done) | (simp [cutRows]; omega)) ?_; conv => whnf) | (refine AppG.mk (by first | omega | (unfold roomOK; simp [cutRows]; done) | (unfold roomOK; simp [cutRows]; omega) | (simp [cutRows]; done) | (simp [cutRows]; omega)) ?_; conv => whnf) | (refine SliceG.fr ?_; conv => whnf) | (refine idx_at _ (by with_reducible rfl) (by first | assumption | omega) ?_; conv => whnf) | ((with_reducible refine row_map (by first | assumption | omega) ?_); conv => whnf) | ((with_reducible refine row_set (by first | assumption | omega | (simp only [List.length_set]; omega) | (simp; omega)) ?_); conv => whnf) | fail)
    exact fini (seq_end hi).symm
end Go.Proofs.YtlifcpcfhkpejaaGreat

/- Cables in ducts are made. -/
namespace Go.Proofs.YtlifcpcfhkpejaaGreat
set_option linter.unusedVariables false
set_option linter.unusedSimpArgs false
open Abs

end Go.Proofs.YtlifcpcfhkpejaaGreat

/- Services and elements are made. -/
namespace Go.Proofs.YtlifcpcfhkpejaaGreat
set_option linter.unusedVariables false
set_option linter.unusedSimpArgs false
open Abs

end Go.Proofs.YtlifcpcfhkpejaaGreat

/- Maps told by lists: what is in them. -/
namespace Go.Proofs.YtlifcpcfhkpejaaGreat
set_option linter.unusedVariables false
set_option linter.unusedSimpArgs false
namespace Abs
section
variable {κ β : Type} [DecidableEq κ]
theorem eput_lenG (c : Nat) : ∀ (es : List (Nat × κ × β)) (x : κ) (y : β), (eput c es x y).length ≤ es.length + 1
  | [], _, _ => by simp [eput]
  | e :: r, x, y => by
    unfold eput
    split
    · simp
    · have := eput_lenG c r x y; simp; omega
/-- the same value under many keys -/
def putAll (m : SM κ β) (l : List κ) (b : β) : SM κ β := l.foldl (fun m x => m.put x b) m
theorem putAll_ok {b : β} : ∀ (l : List κ) {m : SM κ β}, m.ok → (putAll m l b).ok
  | [], m, h => h
  | a :: r, m, h => putAll_ok r (h.put a b)
theorem putAll_len {b : β} : ∀ (l : List κ) (m : SM κ β), (putAll m l b).es.length ≤ m.es.length + l.length
  | [], m => by simp [putAll]
  | a :: r, m => by
    have h1 := putAll_len (b := b) r (m.put a b)
    have h2 := eput_lenG m.clock m.es a b
    unfold putAll at h1 ⊢
    rw [List.foldl_cons]
    have h3 : (m.put a b).es.length = (eput m.clock m.es a b).length := rfl
    simp only [List.length_cons]; omega
theorem putAll_app {b : β} (m : SM κ β) (l l' : List κ) : putAll m (l ++ l') b = putAll (putAll m l b) l' b := List.foldl_append
theorem putAll_succ {b : β} (m : SM κ β) (l : List κ) {k : Nat} (h : k < l.length) : putAll m (l.take (k + 1)) b = (putAll m (l.take k) b).put l[k] b := by
  rw [List.take_succ_eq_append_getElem h, putAll_app]; rfl
end
abbrev ekB : ByteArray → S := fun b => .c (.str b)
abbrev evT : Bool → S := fun b => .c (.bool b)
abbrev MB := SM ByteArray Bool
/-- the keys that are true -/
def ktL (es : List (Nat × ByteArray × Bool)) : List ByteArray := (es.filter fun e => e.2.2).map (·.2.1)
theorem ktL_len (es : List (Nat × ByteArray × Bool)) : (ktL es).length ≤ es.length := by unfold ktL; rw [List.length_map]; exact List.length_filter_le _ _
end Abs
end Go.Proofs.YtlifcpcfhkpejaaGreat

/- Suspects. -/
namespace Go.Proofs.YtlifcpcfhkpejaaGreat
set_option linter.unusedVariables false
set_option linter.unusedSimpArgs false
open Abs

/-- sorted, each once -/
theorem srt_one {a b : List ByteArray} (hp : a.Perm b) : insSort cmpS a = insSort cmpS b := by
  refine sorted_one (c := cmpS) (swo_key id) ?_ ((insSort_perm cmpS a).trans (hp.trans (insSort_perm cmpS b).symm)) (insSort_srt (swo_key id) a) (insSort_srt (swo_key id) b)
  intro x y h1 h2
  rw [cmp_lt] at h1 h2
  rcases ltB_tri x y with h | h | h
  · exact (h1 h).elim
  · exact h
  · exact (h2 h).elim
def risV (m : MB) : List ByteArray := insSort cmpS (ktL m.es)
set_option maxRecDepth 100000 in
set_option maxHeartbeats 4000000 in
theorem fRising_pc (m : MB) (hok : m.ok) (hl : m.es.length ≤ 1000000) : PCp 80 [.c (.mp 0)] [smO ekB evT m] (.c (.lst 1 ((risV m).map encS))) [smO ekB evT m] := by
  refine fn_sound (mt := mts) tab_fits tab_mixed Tryz.func80 (by rfl) (by kernel_rfl) (by kernel_rfl) Tryz.results80 (Nat.le_of_ble_eq_true (by kernel_rfl)) ?_
  conv => whnf
  refine loop_meas (fun (vis : List (Nat × ByteArray × Bool)) => m.es.length - vis.length) [.sl 3 9 1] [3, 7] (fun (vis : List (Nat × ByteArray × Bool)) => ⟨[(3, .c (.row 1)), (7, .c (.ptr 2 0))], [(0, smO ekB evT m), (1, .row 9 1 ((ktL vis.reverse).map encS)), (2, .iter 0 m.clock (vis.map (·.1)))], 3⟩) (fun (vis : List (Nat × ByteArray × Bool)) => Vis m vis) ([]) ?_ ?_
  · conv => whnf
    exact ⟨rfl, Vis.nil _⟩
  · intro vis hv
    have hvl := hv.len
    have hsl := ktL_len vis.reverse
    rw [List.length_reverse] at hsl
    have hslm : ((ktL vis.reverse).map encS).length = (ktL vis.reverse).length := List.length_map ..
    conv => whnf
    refine .mk rfl ?_
    conv => whnf
    refine sm_next hok hv (fun hp => ?_) (fun e he hn hv' hlt => ?_)
    · conv => whnf
      have hpr : (ktL vis.reverse).Perm (ktL m.es) := (((List.reverse_perm vis).trans hp).filter _).map _
      repeat' (first | ((first | refine Split.mk (fun h => ?_) (fun h => ?_) | refine CondG.mk (fun h => ?_) (fun h => ?_)) <;> (try simp only [decide_eq_true_eq, decide_eq_false_iff_not, Bool.not_eq_true', Bool.not_eq_false', beq_iff_eq, beq_eq_false_iff_ne, bne_iff_ne, bne_eq_false_iff_eq] at h) <;> (first | (exfalso; first | omega | exact h trivial) | (conv => whnf))) | (refine CallX.mk _ _ (by first | exact sortG_pc (ktL vis.reverse) (by omega)) ?_; conv => whnf) | (refine CallG.mk _ _ (by first | exact sortG_pc (ktL vis.reverse) (by omega)) ?_; conv => whnf) | (refine Ask.mk (by first | omega | (unfold roomOK; simp [cutRows]; done) | (unfold roomOK; simp [cutRows]; omega) | (simp [cutRows]; done) | (simp [cutRows]; omega)) ?_; conv => whnf) | (refine AppG.mk (by first | omega | (unfold roomOK; simp [cutRows]; done) | (unfold roomOK; simp [cutRows]; omega) | (simp [cutRows]; done) | (simp [cutRows]; omega)) ?_; conv => whnf) | (refine SliceG.fr ?_; conv => whnf) | (refine idx_at _ (by with_reducible rfl) (by first | assumption | omega) ?_; conv => whnf) | ((with_reducible refine row_map (by first | assumption | omega) ?_); conv => whnf) | ((with_reducible refine row_set (by first | assumption | omega | (simp only [List.length_set]; omega) | (simp; omega)) ?_); conv => whnf) | fail)
      have h1 : insSort cmpS (ktL vis.reverse) = risV m := srt_one hpr
      rw [h1]
      first
        | exact .frz 1 _ _ _ rfl (.weak [_, _] (.fro 1 _ _ rfl) rfl (Nat.le_refl _))
        | exact .frz 1 _ _ _ rfl (.weak [_] (.fro 1 _ _ rfl) rfl (Nat.le_refl _))
    · obtain ⟨en, ek, eb⟩ := e
      have h1 : ktL ((en, ek, eb) :: vis).reverse = ktL vis.reverse ++ (if eb then [ek] else []) := by
        cases eb <;> simp [ktL]
      conv => whnf
      refine .mk rfl ?_
      conv => whnf
      refine sm_at hok he ?_
      conv => whnf
      repeat' (first | ((first | refine Split.mk (fun h => ?_) (fun h => ?_) | refine CondG.mk (fun h => ?_) (fun h => ?_)) <;> (try simp only [decide_eq_true_eq, decide_eq_false_iff_not, Bool.not_eq_true', Bool.not_eq_false', beq_iff_eq, beq_eq_false_iff_ne, bne_iff_ne, bne_eq_false_iff_eq] at h) <;> (first | (exfalso; first | omega | exact h trivial) | (conv => whnf))) | (refine Ask.mk (by first | omega | (unfold roomOK; simp [cutRows]; done) | (unfold roomOK; simp [cutRows]; omega) | (simp [cutRows]; done) | (simp [cutRows]; omega)) ?_; conv => whnf) | (refine AppG.mk (by first | omega | (unfold roomOK; simp [cutRows]; done) | (unfold roomOK; simp [cutRows]; omega) | (simp [cutRows]; done) | (simp [cutRows]; omega)) ?_; conv => whnf) | (refine SliceG.fr ?_; conv => whnf) | (refine idx_at _ (by with_reducible rfl) (by first | assumption | omega) ?_; conv => whnf) | ((with_reducible refine row_map (by first | assumption | omega) ?_); conv => whnf) | ((with_reducible refine row_set (by first | assumption | omega | (simp only [List.length_set]; omega) | (simp; omega)) ?_); conv => whnf) | fail)
      · exact meas_next ((en, ek, eb) :: vis) (by simp only [List.length_cons]; omega) (by rw [h1, if_pos h, List.map_append]; rfl) hv'
      · exact meas_next ((en, ek, eb) :: vis) (by simp only [List.length_cons]; omega) (by rw [h1, if_neg (by rw [h]; decide), List.append_nil]; rfl) hv'
/-! what can be broken -/
def elsOf (s : List Sv) (l : List ByteArray) : List ByteArray := l.flatMap fun k => (svG s k).els
def susM (s : List Sv) (down up : List ByteArray) : MB := putAll (putAll SM.nil (elsOf s down) true) (elsOf s up) false
def susV (s : List Sv) (down up : List ByteArray) : List ByteArray := risV (susM s down up)
theorem susM_ok (s : List Sv) (down up : List ByteArray) : (susM s down up).ok := putAll_ok _ (putAll_ok _ SM.ok_nil)
theorem elsOf_succ (s : List Sv) (l : List ByteArray) {k : Nat} (h : k < l.length) : elsOf s (l.take (k + 1)) = elsOf s (l.take k) ++ (svG s l[k]).els := by
  rw [List.take_succ_eq_append_getElem h]; unfold elsOf; rw [List.flatMap_append]; simp
theorem elsOf_len {s : List Sv} (hs : SvOk s) : ∀ {l : List ByteArray}, (∀ k ∈ l, hasSv s k = true) → (elsOf s l).length ≤ 100 * l.length
  | [], _ => by simp [elsOf]
  | a :: r, h => by
    have ih := elsOf_len hs (l := r) (fun k hk => h k (by simp [hk]))
    obtain ⟨x, hx, hk⟩ := hasSv_iff.1 (h a (by simp))
    have h1 : svG s a = x := by rw [← hk]; exact svG_mem hs.rise hx
    have h2 := (hs.each x hx).len
    unfold elsOf at ih ⊢
    rw [List.flatMap_cons, List.length_append, h1]
    simp only [List.length_cons]; omega
set_option maxRecDepth 100000 in
set_option maxHeartbeats 4000000 in
theorem fSuspects_pc (s : List Sv) (hs : SvOk s) (down up : List ByteArray) (hd : StOkL s down) (hu : StOkL s up) :
    PCp 50 [.c (.lst 3 (s.map encSv)), .c (.lst 1 (down.map encS)), .c (.lst 1 (up.map encS))] [] (.c (.lst 1 ((susV s down up).map encS))) [] := by
  have hsl := hs.len
  have hdl := hd.len
  have hul := hu.len
  have hdm : (down.map encS).length = down.length := List.length_map ..
  have hum : (up.map encS).length = up.length := List.length_map ..
  have hsm : (s.map encSv).length = s.length := List.length_map ..
  have hat : ∀ k, hasSv s k = true → ∃ i, ∃ hi : i < s.length, svIx s k = ((i : Nat) : Int) ∧ s[i] = svG s k ∧ s[i].els.length ≤ 100 := by
    intro k hk
    rcases svIx_or hs.rise k with ⟨h1, _⟩ | ⟨_, i, hi, h2, h3⟩
    · rw [h1] at hk; cases hk
    · exact ⟨i, hi, h2, h3, (hs.each _ (List.getElem_mem hi)).len⟩
  refine fn_sound (mt := mts) tab_fits tab_mixed Tryz.func50 (by rfl) (by kernel_rfl) (by kernel_rfl) Tryz.results50 (Nat.le_of_ble_eq_true (by kernel_rfl)) ?_
  conv => whnf
  refine loop_for (down.length) [] [0, 2, 7, 17, 18, 19] (fun k (_ : Unit) => [(19, .c (.int .i64 (k : Int)))]) (fun k (_ : Unit) => [(0, smO ekB evT (putAll SM.nil (elsOf s (down.take k)) true))]) (fun k (_ : Unit) => True) (()) ?_
  conv => whnf
  refine ⟨(by first | rfl | (simp; done) | (simp; rfl)), (by trivial), ?_, ?_⟩
  · intro k _ hk _
    obtain ⟨i, hi, h2, h3, h4⟩ := hat _ (hd.has _ (List.getElem_mem hk))
    have hem : (s[i].els.map encS).length = s[i].els.length := List.length_map ..
    conv => whnf
    repeat' (first | ((first | refine Split.mk (fun h => ?_) (fun h => ?_) | refine CondG.mk (fun h => ?_) (fun h => ?_)) <;> (try simp only [decide_eq_true_eq, decide_eq_false_iff_not, Bool.not_eq_true', Bool.not_eq_false', beq_iff_eq, beq_eq_false_iff_ne, bne_iff_ne, bne_eq_false_iff_eq] at h) <;> (first | (exfalso; first | omega | exact h trivial) | (conv => whnf))) | (refine CallX.mk _ _ (by first | exact fFind_pc s hs.rise (by omega) _) ?_; conv => whnf) | (refine CallG.mk _ _ (by first | exact fFind_pc s hs.rise (by omega) _) ?_; conv => whnf) | (refine Ask.mk (by first | omega | (unfold roomOK; simp [cutRows]; done) | (unfold roomOK; simp [cutRows]; omega) | (simp [cutRows]; done) | (simp [cutRows]; omega)) ?_; conv => whnf) | (refine AppG.mk (by first | omega | (unfold roomOK; simp [cutRows]; done) | (unfold roomOK; simp [cutRows]; omega) | (simp [cutRows]; done) | (simp [cutRows]; omega)) ?_; conv => whnf) | (refine SliceG.fr ?_; conv => whnf) | (refine idx_at _ (by with_reducible rfl) (by first | assumption | omega) ?_; conv => whnf) | ((with_reducible refine row_map (by first | assumption | omega) ?_); conv => whnf) | ((with_reducible refine row_set (by first | assumption | omega | (simp only [List.length_set]; omega) | (simp; omega)) ?_); conv => whnf) | ((rw [h2]; refine idx_map i hi rfl ?_); conv => whnf) | fail)
    refine loop_for (s[i].els.length) [] [0, 2, 7, 17, 18, 19, 29, 30, 31] (fun j (_ : Unit) => [(31, .c (.int .i64 (j : Int)))]) (fun j (_ : Unit) => [(0, smO ekB evT (putAll (putAll SM.nil (elsOf s (down.take k)) true) (s[i].els.take j) true))]) (fun j (_ : Unit) => True) (()) ?_
    conv => whnf
    refine ⟨(by first | rfl | (simp; done) | (simp; rfl)), (by trivial), ?_, ?_⟩
    · intro j _ hj _
      conv => whnf
      repeat' (first | ((first | refine Split.mk (fun h => ?_) (fun h => ?_) | refine CondG.mk (fun h => ?_) (fun h => ?_)) <;> (try simp only [decide_eq_true_eq, decide_eq_false_iff_not, Bool.not_eq_true', Bool.not_eq_false', beq_iff_eq, beq_eq_false_iff_ne, bne_iff_ne, bne_eq_false_iff_eq] at h) <;> (first | (exfalso; first | omega | exact h trivial) | (conv => whnf))) | (refine Ask.mk (by first | omega | (unfold roomOK; simp [cutRows]; done) | (unfold roomOK; simp [cutRows]; omega) | (simp [cutRows]; done) | (simp [cutRows]; omega)) ?_; conv => whnf) | (refine AppG.mk (by first | omega | (unfold roomOK; simp [cutRows]; done) | (unfold roomOK; simp [cutRows]; omega) | (simp [cutRows]; done) | (simp [cutRows]; omega)) ?_; conv => whnf) | (refine SliceG.fr ?_; conv => whnf) | (refine idx_at _ (by with_reducible rfl) (by first | assumption | omega) ?_; conv => whnf) | ((with_reducible refine row_map (by first | assumption | omega) ?_); conv => whnf) | ((with_reducible refine row_set (by first | assumption | omega | (simp only [List.length_set]; omega) | (simp; omega)) ?_); conv => whnf) | ((with_reducible refine sm_look (ek := ekB) (ev := evT) keyStr _ _ (false) ?_ ?_); exact rfl; conv => whnf) | ((with_reducible refine sm_upd (ek := ekB) (ev := evT) keyStr _ _ true ?_); conv => whnf) | ((with_reducible refine sm_del (ek := ekB) (ev := evT) keyStr _ _ ?_); conv => whnf) | ((with_reducible refine sm_entry (ek := ekB) (ev := evT) keyStr _ _ (false) ?_ ?_); exact rfl; conv => whnf) | fail)
      exact count_next () hj (by rw [wrap_succ hj (by omega), putAll_succ _ _ hj]; rfl) trivial
    · intro _ _
      rw [List.take_length]
      conv => whnf
      repeat' (first | ((first | refine Split.mk (fun h => ?_) (fun h => ?_) | refine CondG.mk (fun h => ?_) (fun h => ?_)) <;> (try simp only [decide_eq_true_eq, decide_eq_false_iff_not, Bool.not_eq_true', Bool.not_eq_false', beq_iff_eq, beq_eq_false_iff_ne, bne_iff_ne, bne_eq_false_iff_eq] at h) <;> (first | (exfalso; first | omega | exact h trivial) | (conv => whnf))) | (refine Ask.mk (by first | omega | (unfold roomOK; simp [cutRows]; done) | (unfold roomOK; simp [cutRows]; omega) | (simp [cutRows]; done) | (simp [cutRows]; omega)) ?_; conv => whnf) | (refine AppG.mk (by first | omega | (unfold roomOK; simp [cutRows]; done) | (unfold roomOK; simp [cutRows]; omega) | (simp [cutRows]; done) | (simp [cutRows]; omega)) ?_; conv => whnf) | (refine SliceG.fr ?_; conv => whnf) | (refine idx_at _ (by with_reducible rfl) (by first | assumption | omega) ?_; conv => whnf) | ((with_reducible refine row_map (by first | assumption | omega) ?_); conv => whnf) | ((with_reducible refine row_set (by first | assumption | omega | (simp only [List.length_set]; omega) | (simp; omega)) ?_); conv => whnf) | fail)
      exact count_next () hk (by rw [wrap_succ hk (by omega), elsOf_succ s down hk, putAll_app, ← h3]; rfl) trivial
  · intro _ _
    rw [List.take_length]
    conv => whnf
    repeat' (first | ((first | refine Split.mk (fun h => ?_) (fun h => ?_) | refine CondG.mk (fun h => ?_) (fun h => ?_)) <;> (try simp only [decide_eq_true_eq, decide_eq_false_iff_not, Bool.not_eq_true', Bool.not_eq_false', beq_iff_eq, beq_eq_false_iff_ne, bne_iff_ne, bne_eq_false_iff_eq] at h) <;> (first | (exfalso; first | omega | exact h trivial) | (conv => whnf))) | (refine Ask.mk (by first | omega | (unfold roomOK; simp [cutRows]; done) | (unfold roomOK; simp [cutRows]; omega) | (simp [cutRows]; done) | (simp [cutRows]; omega)) ?_; conv => whnf) | (refine AppG.mk (by first | omega | (unfold roomOK; simp [cutRows]; done) | (unfold roomOK; simp [cutRows]; omega) | (simp [cutRows]; done) | (simp [cutRows]; omega)) ?_; conv => whnf) | (refine SliceG.fr ?_; conv => whnf) | (refine idx_at _ (by with_reducible rfl) (by first | assumption | omega) ?_; conv => whnf) | ((with_reducible refine row_map (by first | assumption | omega) ?_); conv => whnf) | ((with_reducible refine row_set (by first | assumption | omega | (simp only [List.length_set]; omega) | (simp; omega)) ?_); conv => whnf) | fail)
    refine loop_for (up.length) [] [0, 7, 39, 40, 41] (fun k (_ : Unit) => [(41, .c (.int .i64 (k : Int)))]) (fun k (_ : Unit) => [(0, smO ekB evT (putAll (putAll SM.nil (elsOf s down) true) (elsOf s (up.take k)) false))]) (fun k (_ : Unit) => True) (()) ?_
    conv => whnf
    refine ⟨(by first | rfl | (simp; done) | (simp; rfl)), (by trivial), ?_, ?_⟩
    · intro k _ hk _
      obtain ⟨i, hi, h2, h3, h4⟩ := hat _ (hu.has _ (List.getElem_mem hk))
      have hem : (s[i].els.map encS).length = s[i].els.length := List.length_map ..
      conv => whnf
      repeat' (first | ((first | refine Split.mk (fun h => ?_) (fun h => ?_) | refine CondG.mk (fun h => ?_) (fun h => ?_)) <;> (try simp only [decide_eq_true_eq, decide_eq_false_iff_not, Bool.not_eq_true', Bool.not_eq_false', beq_iff_eq, beq_eq_false_iff_ne, bne_iff_ne, bne_eq_false_iff_eq] at h) <;> (first | (exfalso; first | omega | exact h trivial) | (conv => whnf))) | (refine CallX.mk _ _ (by first | exact fFind_pc s hs.rise (by omega) _) ?_; conv => whnf) | (refine CallG.mk _ _ (by first | exact fFind_pc s hs.rise (by omega) _) ?_; conv => whnf) | (refine Ask.mk (by first | omega | (unfold roomOK; simp [cutRows]; done) | (unfold roomOK; simp [cutRows]; omega) | (simp [cutRows]; done) | (simp [cutRows]; omega)) ?_; conv => whnf) | (refine AppG.mk (by first | omega | (unfold roomOK; simp [cutRows]; done) | (unfold roomOK; simp [cutRows]; omega) | (simp [cutRows]; done) | (simp [cutRows]; omega)) ?_; conv => whnf) | (refine SliceG.fr ?_; conv => whnf) | (refine idx_at _ (by with_reducible rfl) (by first | assumption | omega) ?_; conv => whnf) | ((with_reducible refine row_map (by first | assumption | omega) ?_); conv => whnf) | ((with_reducible refine row_set (by first | assumption | omega | (simp only [List.length_set]; omega) | (simp; omega)) ?_); conv => whnf) | ((rw [h2]; refine idx_map i hi rfl ?_); conv => whnf) | fail)
      refine loop_for (s[i].els.length) [] [0, 7, 39, 40, 41, 51, 52, 53] (fun j (_ : Unit) => [(53, .c (.int .i64 (j : Int)))]) (fun j (_ : Unit) => [(0, smO ekB evT (putAll (putAll (putAll SM.nil (elsOf s down) true) (elsOf s (up.take k)) false) (s[i].els.take j) false))]) (fun j (_ : Unit) => True) (()) ?_
      conv => whnf
      refine ⟨(by first | rfl | (simp; done) | (simp; rfl)), (by trivial), ?_, ?_⟩
      · intro j _ hj _
        conv => whnf
        repeat' (first | ((first | refine Split.mk (fun h => ?_) (fun h => ?_) | refine CondG.mk (fun h => ?_) (fun h => ?_)) <;> (try simp only [decide_eq_true_eq, decide_eq_false_iff_not, Bool.not_eq_true', Bool.not_eq_false', beq_iff_eq, beq_eq_false_iff_ne, bne_iff_ne, bne_eq_false_iff_eq] at h) <;> (first | (exfalso; first | omega | exact h trivial) | (conv => whnf))) | (refine Ask.mk (by first | omega | (unfold roomOK; simp [cutRows]; done) | (unfold roomOK; simp [cutRows]; omega) | (simp [cutRows]; done) | (simp [cutRows]; omega)) ?_; conv => whnf) | (refine AppG.mk (by first | omega | (unfold roomOK; simp [cutRows]; done) | (unfold roomOK; simp [cutRows]; omega) | (simp [cutRows]; done) | (simp [cutRows]; omega)) ?_; conv => whnf) | (refine SliceG.fr ?_; conv => whnf) | (refine idx_at _ (by with_reducible rfl) (by first | assumption | omega) ?_; conv => whnf) | ((with_reducible refine row_map (by first | assumption | omega) ?_); conv => whnf) | ((with_reducible refine row_set (by first | assumption | omega | (simp only [List.length_set]; omega) | (simp; omega)) ?_); conv => whnf) | ((with_reducible refine sm_look (ek := ekB) (ev := evT) keyStr _ _ (false) ?_ ?_); exact rfl; conv => whnf) | ((with_reducible refine sm_upd (ek := ekB) (ev := evT) keyStr _ _ false ?_); conv => whnf) | ((with_reducible refine sm_del (ek := ekB) (ev := evT) keyStr _ _ ?_); conv => whnf) | ((with_reducible refine sm_entry (ek := ekB) (ev := evT) keyStr _ _ (false) ?_ ?_); exact rfl; conv => whnf) | fail)
        exact count_next () hj (by rw [wrap_succ hj (by omega), putAll_succ _ _ hj]; rfl) trivial
      · intro _ _
        rw [List.take_length]
        conv => whnf
        repeat' (first | ((first | refine Split.mk (fun h => ?_) (fun h => ?_) | refine CondG.mk (fun h => ?_) (fun h => ?_)) <;> (try simp only [decide_eq_true_eq, decide_eq_false_iff_not, Bool.not_eq_true', Bool.not_eq_false', beq_iff_eq, beq_eq_false_iff_ne, bne_iff_ne, bne_eq_false_iff_eq] at h) <;> (first | (exfalso; first | omega | exact h trivial) | (conv => whnf))) | (refine Ask.mk (by first | omega | (unfold roomOK; simp [cutRows]; done) | (unfold roomOK; simp [cutRows]; omega) | (simp [cutRows]; done) | (simp [cutRows]; omega)) ?_; conv => whnf) | (refine AppG.mk (by first | omega | (unfold roomOK; simp [cutRows]; done) | (unfold roomOK; simp [cutRows]; omega) | (simp [cutRows]; done) | (simp [cutRows]; omega)) ?_; conv => whnf) | (refine SliceG.fr ?_; conv => whnf) | (refine idx_at _ (by with_reducible rfl) (by first | assumption | omega) ?_; conv => whnf) | ((with_reducible refine row_map (by first | assumption | omega) ?_); conv => whnf) | ((with_reducible refine row_set (by first | assumption | omega | (simp only [List.length_set]; omega) | (simp; omega)) ?_); conv => whnf) | fail)
        exact count_next () hk (by rw [wrap_succ hk (by omega), elsOf_succ s up hk, putAll_app, ← h3]; rfl) trivial
    · intro _ _
      rw [List.take_length]
      have hml : (susM s down up).es.length ≤ 1000000 := by
        have h1 := putAll_len (b := false) (elsOf s up) (putAll SM.nil (elsOf s down) true)
        have h2 := putAll_len (b := true) (elsOf s down) (SM.nil : MB)
        have h3 := elsOf_len hs hd.has
        have h4 := elsOf_len hs hu.has
        have h5 : (SM.nil : MB).es.length = 0 := rfl
        unfold susM; omega
      conv => whnf
      repeat' (first | ((first | refine Split.mk (fun h => ?_) (fun h => ?_) | refine CondG.mk (fun h => ?_) (fun h => ?_)) <;> (try simp only [decide_eq_true_eq, decide_eq_false_iff_not, Bool.not_eq_true', Bool.not_eq_false', beq_iff_eq, beq_eq_false_iff_ne, bne_iff_ne, bne_eq_false_iff_eq] at h) <;> (first | (exfalso; first | omega | exact h trivial) | (conv => whnf))) | (refine CallX.mk _ _ (by first | exact fRising_pc (susM s down up) (susM_ok ..) hml) ?_; conv => whnf) | (refine CallG.mk _ _ (by first | exact fRising_pc (susM s down up) (susM_ok ..) hml) ?_; conv => whnf) | (refine Ask.mk (by first | omega | (unfold roomOK; simp [cutRows]; done) | (unfold roomOK; simp [cutRows]; omega) | (simp [cutRows]; done) | (simp [cutRows]; omega)) ?_; conv => whnf) | (refine AppG.mk (by first | omega | (unfold roomOK; simp [cutRows]; done) | (unfold roomOK; simp [cutRows]; omega) | (simp [cutRows]; done) | (simp [cutRows]; omega)) ?_; conv => whnf) | (refine SliceG.fr ?_; conv => whnf) | (refine idx_at _ (by with_reducible rfl) (by first | assumption | omega) ?_; conv => whnf) | ((with_reducible refine row_map (by first | assumption | omega) ?_); conv => whnf) | ((with_reducible refine row_set (by first | assumption | omega | (simp only [List.length_set]; omega) | (simp; omega)) ?_); conv => whnf) | fail)
      first
        | exact .mk ⟨rfl, rfl⟩
        | exact .weak [] (.refl _) rfl (Nat.le_refl _)
        | exact .weak [_] (.refl _) rfl (Nat.le_refl _)
set_option maxRecDepth 100000 in
set_option maxHeartbeats 4000000 in
theorem fHas_pc {l : List ByteArray} (h : Rise id l) (hl : l.length ≤ 1000000) (t : ByteArray) : PCp 78 [.c (.lst 1 (l.map encS)), .c (.str t)] [] (.c (.bool (decide (t ∈ l)))) [] := by
  refine fn_sound (mt := mts) tab_fits tab_mixed Tryz.func78 (by rfl) (by kernel_rfl) (by kernel_rfl) Tryz.results78 (Nat.le_of_ble_eq_true (by kernel_rfl)) ?_
  conv => whnf
  repeat' (first | ((first | refine Split.mk (fun h => ?_) (fun h => ?_) | refine CondG.mk (fun h => ?_) (fun h => ?_)) <;> (try simp only [decide_eq_true_eq, decide_eq_false_iff_not, Bool.not_eq_true', Bool.not_eq_false', beq_iff_eq, beq_eq_false_iff_ne, bne_iff_ne, bne_eq_false_iff_eq] at h) <;> (first | (exfalso; first | omega | exact h trivial) | (conv => whnf))) | (refine CallX.mk _ _ (by first | exact binG_pc h hl t) ?_; conv => whnf) | (refine CallG.mk _ _ (by first | exact binG_pc h hl t) ?_; conv => whnf) | (refine Ask.mk (by first | omega | (unfold roomOK; simp [cutRows]; done) | (unfold roomOK; simp [cutRows]; omega) | (simp [cutRows]; done) | (simp [cutRows]; omega)) ?_; conv => whnf) | (refine AppG.mk (by first | omega | (unfold roomOK; simp [cutRows]; done) | (unfold roomOK; simp [cutRows]; omega) | (simp [cutRows]; done) | (simp [cutRows]; omega)) ?_; conv => whnf) | (refine SliceG.fr ?_; conv => whnf) | (refine idx_at _ (by with_reducible rfl) (by first | assumption | omega) ?_; conv => whnf) | ((with_reducible refine row_map (by first | assumption | omega) ?_); conv => whnf) | ((with_reducible refine row_set (by first | assumption | omega | (simp only [List.length_set]; omega) | (simp; omega)) ?_); conv => whnf) | fail)
  exact finb rfl
set_option maxRecDepth 100000 in
set_option maxHeartbeats 4000000 in
theorem ixU_pc (cs : List (List V)) (g : Nat) (p : ByteArray → Bool) (l : List ByteArray) (hl : l.length ≤ 1000000) (hg : ∀ x ∈ l, PCp g [.c (.str x), .c (.ptr 0 0)] [.box [.lst 1 cs]] (.c (.bool (p x))) [.box [.lst 1 cs]]) : PCp 104 [.c (.lst 1 (l.map encS)), .c (.fn g [.ptr 0 0])] [.box [.lst 1 cs]] (.c (.int .i64 (idxP p l))) [.box [.lst 1 cs]] := by
  have hlm : (l.map encS).length = l.length := List.length_map ..
  refine fn_sound (mt := mts) tab_fits tab_mixed Tryz.func104 (by rfl) (by kernel_rfl) (by kernel_rfl) Tryz.results104 (Nat.le_of_ble_eq_true (by kernel_rfl)) ?_
  conv => whnf
  refine loop_count (l.length) [] [0, 1, 7, 8] (fun k (_ : Unit) => ⟨[(0, .c (.lst 1 (l.map encS))), (1, .c (.fn g [.ptr 0 0])), (7, .c (.int .i64 (l.map encS).length)), (8, .c (.int .i64 k))], [(0, .box [.lst 1 cs])], 1⟩) (fun k (_ : Unit) => ∀ i (hi : i < l.length), i < k → p l[i] = false) (()) ?_ ?_ ?_
  · conv => whnf
    exact ⟨rfl, by intro i hi h; omega⟩
  · intro k _ hk hi
    conv => whnf
    repeat' (first | ((first | refine Split.mk (fun h => ?_) (fun h => ?_) | refine CondG.mk (fun h => ?_) (fun h => ?_)) <;> (try simp only [decide_eq_true_eq, decide_eq_false_iff_not, Bool.not_eq_true', Bool.not_eq_false', beq_iff_eq, beq_eq_false_iff_ne, bne_iff_ne, bne_eq_false_iff_eq] at h) <;> (first | (exfalso; first | omega | exact h trivial) | (conv => whnf))) | (refine CallX.mk _ _ (by first | exact hg l[k] (List.getElem_mem hk)) ?_; conv => whnf) | (refine CallG.mk _ _ (by first | exact hg l[k] (List.getElem_mem hk)) ?_; conv => whnf) | (refine Ask.mk (by first | omega | (unfold roomOK; simp [cutRows]; done) | (unfold roomOK; simp [cutRows]; omega) | (simp [cutRows]; done) | (simp [cutRows]; omega)) ?_; conv => whnf) | (refine AppG.mk (by first | omega | (unfold roomOK; simp [cutRows]; done) | (unfold roomOK; simp [cutRows]; omega) | (simp [cutRows]; done) | (simp [cutRows]; omega)) ?_; conv => whnf) | (refine SliceG.fr ?_; conv => whnf) | (refine idx_at _ (by with_reducible rfl) (by first | assumption | omega) ?_; conv => whnf) | ((with_reducible refine row_map (by first | assumption | omega) ?_); conv => whnf) | ((with_reducible refine row_set (by first | assumption | omega | (simp only [List.length_set]; omega) | (simp; omega)) ?_); conv => whnf) | fail)
    · exact .mk ⟨by rw [idxP_hit hk (fun i hi' => hi i (by omega) hi') h]; rfl, rfl⟩
    · refine count_next () hk (by rw [wrap_succ hk (by omega)]; rfl) ?_
      exact all_succ' hi h
  · intro _ hi
    conv => whnf
    repeat' (first | ((first | refine Split.mk (fun h => ?_) (fun h => ?_) | refine CondG.mk (fun h => ?_) (fun h => ?_)) <;> (try simp only [decide_eq_true_eq, decide_eq_false_iff_not, Bool.not_eq_true', Bool.not_eq_false', beq_iff_eq, beq_eq_false_iff_ne] at h) <;> (first | (exfalso; first | omega | exact h trivial) | (conv => whnf))) | (refine Ask.mk (by first | omega | (unfold roomOK; simp [cutRows]; done) | (unfold roomOK; simp [cutRows]; omega)) ?_; conv => whnf) | (refine AppG.mk (by first | omega | (unfold roomOK; simp [cutRows]; done) | (unfold roomOK; simp [cutRows]; omega)) ?_; conv => whnf) | (refine SliceG.fr ?_; conv => whnf) | fail)
    exact .mk ⟨by rw [idxP_miss (fun i h => hi i h h)]; rfl, rfl⟩
set_option maxRecDepth 100000 in
set_option maxHeartbeats 4000000 in
theorem ixUC_pc (cs : List (List V)) (g : Nat) (p : ByteArray → Bool) (l : List ByteArray) (hl : l.length ≤ 1000000) (hg : ∀ x ∈ l, PCp g [.c (.str x), .c (.ptr 0 0)] [.box [.lst 1 cs]] (.c (.bool (p x))) [.box [.lst 1 cs]]) : PCp 76 [.c (.lst 1 (l.map encS)), .c (.fn g [.ptr 0 0])] [.box [.lst 1 cs]] (.c (.bool (l.any p))) [.box [.lst 1 cs]] := by
  refine fn_sound (mt := mts) tab_fits tab_mixed Tryz.func76 (by rfl) (by kernel_rfl) (by kernel_rfl) Tryz.results76 (Nat.le_of_ble_eq_true (by kernel_rfl)) ?_
  conv => whnf
  repeat' (first | ((first | refine Split.mk (fun h => ?_) (fun h => ?_) | refine CondG.mk (fun h => ?_) (fun h => ?_)) <;> (try simp only [decide_eq_true_eq, decide_eq_false_iff_not, Bool.not_eq_true', Bool.not_eq_false', beq_iff_eq, beq_eq_false_iff_ne] at h) <;> (first | (exfalso; first | omega | exact h trivial) | (conv => whnf))) | (refine CallX.mk _ _ (by first | exact ixU_pc cs g p l hl hg) ?_; conv => whnf) | (refine CallG.mk _ _ (by first | exact ixU_pc cs g p l hl hg) ?_; conv => whnf) | (refine Ask.mk (by first | omega | (unfold roomOK; simp [cutRows]; done) | (unfold roomOK; simp [cutRows]; omega)) ?_; conv => whnf) | (refine AppG.mk (by first | omega | (unfold roomOK; simp [cutRows]; done) | (unfold roomOK; simp [cutRows]; omega)) ?_; conv => whnf) | (refine SliceG.fr ?_; conv => whnf) | fail)
  exact .mk ⟨by rw [← idxP_any]; rfl, rfl⟩
set_option maxRecDepth 100000 in
set_option maxHeartbeats 4000000 in
theorem fState1_pc {up : List ByteArray} (h : Rise id up) (hl : up.length ≤ 1000000) (x : ByteArray) : PCp 77 [.c (.str x), .c (.ptr 0 0)] [.box [.lst 1 (up.map encS)]] (.c (.bool (decide (x ∈ up)))) [.box [.lst 1 (up.map encS)]] := by
  refine fn_sound (mt := mts) tab_fits tab_mixed Tryz.func77 (by rfl) (by kernel_rfl) (by kernel_rfl) Tryz.results77 (Nat.le_of_ble_eq_true (by kernel_rfl)) ?_
  conv => whnf
  repeat' (first | ((first | refine Split.mk (fun h => ?_) (fun h => ?_) | refine CondG.mk (fun h => ?_) (fun h => ?_)) <;> (try simp only [decide_eq_true_eq, decide_eq_false_iff_not, Bool.not_eq_true', Bool.not_eq_false', beq_iff_eq, beq_eq_false_iff_ne, bne_iff_ne, bne_eq_false_iff_eq] at h) <;> (first | (exfalso; first | omega | exact h trivial) | (conv => whnf))) | (refine CallX.mk _ _ (by first | exact fHas_pc h hl x) ?_; conv => whnf) | (refine CallG.mk _ _ (by first | exact fHas_pc h hl x) ?_; conv => whnf) | (refine Ask.mk (by first | omega | (unfold roomOK; simp [cutRows]; done) | (unfold roomOK; simp [cutRows]; omega) | (simp [cutRows]; done) | (simp [cutRows]; omega)) ?_; conv => whnf) | (refine AppG.mk (by first | omega | (unfold roomOK; simp [cutRows]; done) | (unfold roomOK; simp [cutRows]; omega) | (simp [cutRows]; done) | (simp [cutRows]; omega)) ?_; conv => whnf) | (refine SliceG.fr ?_; conv => whnf) | (refine idx_at _ (by with_reducible rfl) (by first | assumption | omega) ?_; conv => whnf) | ((with_reducible refine row_map (by first | assumption | omega) ?_); conv => whnf) | ((with_reducible refine row_set (by first | assumption | omega | (simp only [List.length_set]; omega) | (simp; omega)) ?_); conv => whnf) | fail)
  exact .mk ⟨rfl, rfl⟩
set_option maxRecDepth 100000 in
set_option maxHeartbeats 4000000 in
theorem fState_pc (s : List Sv) (hx : ∀ x ∈ s, x.els.length ≤ 1000000) (down up : List ByteArray) : PCp 49 [.c (.lst 3 (s.map encSv)), .c (.lst 1 (down.map encS)), .c (.lst 1 (up.map encS))] [] (.c (.int .i64 (seenErr s down up))) [] := by
  have hdm : (down.map encS).length = down.length := List.length_map ..
  refine fn_sound (mt := mts) tab_fits tab_mixed Tryz.func49 (by rfl) (by kernel_rfl) (by kernel_rfl) Tryz.results49 (Nat.le_of_ble_eq_true (by kernel_rfl)) ?_
  conv => whnf
  repeat' (first | ((first | refine Split.mk (fun h => ?_) (fun h => ?_) | refine CondG.mk (fun h => ?_) (fun h => ?_)) <;> (try simp only [decide_eq_true_eq, decide_eq_false_iff_not, Bool.not_eq_true', Bool.not_eq_false', beq_iff_eq, beq_eq_false_iff_ne, bne_iff_ne, bne_eq_false_iff_eq] at h) <;> (first | (exfalso; first | omega | exact h trivial) | (conv => whnf))) | (refine CallX.mk _ _ (by first | exact checkServices_pc s hx) ?_; conv => whnf) | (refine CallG.mk _ _ (by first | exact checkServices_pc s hx) ?_; conv => whnf) | (refine Ask.mk (by first | omega | (unfold roomOK; simp [cutRows]; done) | (unfold roomOK; simp [cutRows]; omega) | (simp [cutRows]; done) | (simp [cutRows]; omega)) ?_; conv => whnf) | (refine AppG.mk (by first | omega | (unfold roomOK; simp [cutRows]; done) | (unfold roomOK; simp [cutRows]; omega) | (simp [cutRows]; done) | (simp [cutRows]; omega)) ?_; conv => whnf) | (refine SliceG.fr ?_; conv => whnf) | (refine idx_at _ (by with_reducible rfl) (by first | assumption | omega) ?_; conv => whnf) | ((with_reducible refine row_map (by first | assumption | omega) ?_); conv => whnf) | ((with_reducible refine row_set (by first | assumption | omega | (simp only [List.length_set]; omega) | (simp; omega)) ?_); conv => whnf) | fail)
  · exact fini (by rw [seenErr, if_pos (by assumption)])
  have hs0 : svFault s = 0 := by simp_all
  have hs := svFault_ok hs0
  repeat' (first | ((first | refine Split.mk (fun h => ?_) (fun h => ?_) | refine CondG.mk (fun h => ?_) (fun h => ?_)) <;> (try simp only [decide_eq_true_eq, decide_eq_false_iff_not, Bool.not_eq_true', Bool.not_eq_false', beq_iff_eq, beq_eq_false_iff_ne, bne_iff_ne, bne_eq_false_iff_eq] at h) <;> (first | (exfalso; first | omega | exact h trivial) | (conv => whnf))) | (refine CallX.mk _ _ (by first | exact listFault_pc s hs _ | exact first_pc [_, _] (by simp)) ?_; conv => whnf) | (refine CallG.mk _ _ (by first | exact listFault_pc s hs _ | exact first_pc [_, _] (by simp)) ?_; conv => whnf) | (refine Ask.mk (by first | omega | (unfold roomOK; simp [cutRows]; done) | (unfold roomOK; simp [cutRows]; omega) | (simp [cutRows]; done) | (simp [cutRows]; omega)) ?_; conv => whnf) | (refine AppG.mk (by first | omega | (unfold roomOK; simp [cutRows]; done) | (unfold roomOK; simp [cutRows]; omega) | (simp [cutRows]; done) | (simp [cutRows]; omega)) ?_; conv => whnf) | (refine SliceG.fr ?_; conv => whnf) | (refine idx_at _ (by with_reducible rfl) (by first | assumption | omega) ?_; conv => whnf) | ((with_reducible refine row_map (by first | assumption | omega) ?_); conv => whnf) | ((with_reducible refine row_set (by first | assumption | omega | (simp only [List.length_set]; omega) | (simp; omega)) ?_); conv => whnf) | fail)
  · refine fini ?_
    rw [seenErr, if_neg (by simp [hs0])]
    simp only [firstErr] at *
    (repeat' split) <;> first | rfl | omega | (simp_all; done)
  have hf : stErr s down = 0 ∧ stErr s up = 0 := by
    rename_i h
    simp only [firstErr] at h
    by_cases h1 : stErr s down = 0 <;> by_cases h2 : stErr s up = 0 <;> simp_all
  obtain ⟨hd, hu⟩ := hf
  have hdo := stErr_ok hd
  have huo := stErr_ok hu
  have hdl := hdo.len
  have hul := huo.len
  repeat' (first | ((first | refine Split.mk (fun h => ?_) (fun h => ?_) | refine CondG.mk (fun h => ?_) (fun h => ?_)) <;> (try simp only [decide_eq_true_eq, decide_eq_false_iff_not, Bool.not_eq_true', Bool.not_eq_false', beq_iff_eq, beq_eq_false_iff_ne, bne_iff_ne, bne_eq_false_iff_eq] at h) <;> (first | (exfalso; first | omega | exact h trivial) | (conv => whnf))) | (refine CallX.mk _ _ (by first | exact ixUC_pc (up.map encS) 77 (fun x => decide (x ∈ up)) down (by omega) (fun x _ => fState1_pc huo.rise (by omega) x)) ?_; conv => whnf) | (refine CallG.mk _ _ (by first | exact ixUC_pc (up.map encS) 77 (fun x => decide (x ∈ up)) down (by omega) (fun x _ => fState1_pc huo.rise (by omega) x)) ?_; conv => whnf) | (refine Ask.mk (by first | omega | (unfold roomOK; simp [cutRows]; done) | (unfold roomOK; simp [cutRows]; omega) | (simp [cutRows]; done) | (simp [cutRows]; omega)) ?_; conv => whnf) | (refine AppG.mk (by first | omega | (unfold roomOK; simp [cutRows]; done) | (unfold roomOK; simp [cutRows]; omega) | (simp [cutRows]; done) | (simp [cutRows]; omega)) ?_; conv => whnf) | (refine SliceG.fr ?_; conv => whnf) | (refine idx_at _ (by with_reducible rfl) (by first | assumption | omega) ?_; conv => whnf) | ((with_reducible refine row_map (by first | assumption | omega) ?_); conv => whnf) | ((with_reducible refine row_set (by first | assumption | omega | (simp only [List.length_set]; omega) | (simp; omega)) ?_); conv => whnf) | fail)
  all_goals
    refine fini ?_
    rw [seenErr, if_neg (by simp [hs0]), if_neg (by simp [hd]), if_neg (by simp [hu])]
    simp_all
set_option maxRecDepth 100000 in
set_option maxHeartbeats 4000000 in
theorem suspectsP_pc (s : List Sv) (hx : ∀ x ∈ s, x.els.length ≤ 1000000) (down up : List ByteArray) : PCp 32 [.c (.lst 3 (s.map encSv)), .c (.lst 1 (down.map encS)), .c (.lst 1 (up.map encS))] [] (.tup [.c (.lst 1 ((if seenErr s down up = 0 then susV s down up else []).map encS)), .c (.int .i64 (seenErr s down up))]) [] := by
  refine fn_sound (mt := mts) tab_fits tab_mixed Tryz.func32 (by rfl) (by kernel_rfl) (by kernel_rfl) Tryz.results32 (Nat.le_of_ble_eq_true (by kernel_rfl)) ?_
  conv => whnf
  repeat' (first | ((first | refine Split.mk (fun h => ?_) (fun h => ?_) | refine CondG.mk (fun h => ?_) (fun h => ?_)) <;> (try simp only [decide_eq_true_eq, decide_eq_false_iff_not, Bool.not_eq_true', Bool.not_eq_false', beq_iff_eq, beq_eq_false_iff_ne, bne_iff_ne, bne_eq_false_iff_eq] at h) <;> (first | (exfalso; first | omega | exact h trivial) | (conv => whnf))) | (refine CallX.mk _ _ (by first | exact fState_pc s hx down up) ?_; conv => whnf) | (refine CallG.mk _ _ (by first | exact fState_pc s hx down up) ?_; conv => whnf) | (refine Ask.mk (by first | omega | (unfold roomOK; simp [cutRows]; done) | (unfold roomOK; simp [cutRows]; omega) | (simp [cutRows]; done) | (simp [cutRows]; omega)) ?_; conv => whnf) | (refine AppG.mk (by first | omega | (unfold roomOK; simp [cutRows]; done) | (unfold roomOK; simp [cutRows]; omega) | (simp [cutRows]; done) | (simp [cutRows]; omega)) ?_; conv => whnf) | (refine SliceG.fr ?_; conv => whnf) | (refine idx_at _ (by with_reducible rfl) (by first | assumption | omega) ?_; conv => whnf) | ((with_reducible refine row_map (by first | assumption | omega) ?_); conv => whnf) | ((with_reducible refine row_set (by first | assumption | omega | (simp only [List.length_set]; omega) | (simp; omega)) ?_); conv => whnf) | fail)
  · rw [if_neg (by assumption)]
    refine .weak [] (.tup _ _ rfl ?_) rfl (Nat.le_refl _)
    intro i a b ha hb
    match i with
    | 0 => cases ha; cases hb; exact .nil 1
    | 1 => cases ha; cases hb; exact .refl _
  · have h0 : seenErr s down up = 0 := by simp_all
    have hs0 : svFault s = 0 := by
      unfold seenErr at h0
      split at h0
      · omega
      · omega
    have hd0 : stErr s down = 0 := by
      unfold seenErr at h0
      rw [if_neg (by omega)] at h0
      split at h0
      · omega
      · omega
    have hu0 : stErr s up = 0 := by
      unfold seenErr at h0
      rw [if_neg (by omega), if_neg (by omega)] at h0
      split at h0
      · omega
      · omega
    rw [if_pos h0]
    repeat' (first | ((first | refine Split.mk (fun h => ?_) (fun h => ?_) | refine CondG.mk (fun h => ?_) (fun h => ?_)) <;> (try simp only [decide_eq_true_eq, decide_eq_false_iff_not, Bool.not_eq_true', Bool.not_eq_false', beq_iff_eq, beq_eq_false_iff_ne, bne_iff_ne, bne_eq_false_iff_eq] at h) <;> (first | (exfalso; first | omega | exact h trivial) | (conv => whnf))) | (refine CallX.mk _ _ (by first | exact fSuspects_pc s (svFault_ok hs0) down up (stErr_ok hd0) (stErr_ok hu0)) ?_; conv => whnf) | (refine CallG.mk _ _ (by first | exact fSuspects_pc s (svFault_ok hs0) down up (stErr_ok hd0) (stErr_ok hu0)) ?_; conv => whnf) | (refine Ask.mk (by first | omega | (unfold roomOK; simp [cutRows]; done) | (unfold roomOK; simp [cutRows]; omega) | (simp [cutRows]; done) | (simp [cutRows]; omega)) ?_; conv => whnf) | (refine AppG.mk (by first | omega | (unfold roomOK; simp [cutRows]; done) | (unfold roomOK; simp [cutRows]; omega) | (simp [cutRows]; done) | (simp [cutRows]; omega)) ?_; conv => whnf) | (refine SliceG.fr ?_; conv => whnf) | (refine idx_at _ (by with_reducible rfl) (by first | assumption | omega) ?_; conv => whnf) | ((with_reducible refine row_map (by first | assumption | omega) ?_); conv => whnf) | ((with_reducible refine row_set (by first | assumption | omega | (simp only [List.length_set]; omega) | (simp; omega)) ?_); conv => whnf) | fail)
    exact .mk ⟨by rw [h0]; rfl, rfl⟩
end Go.Proofs.YtlifcpcfhkpejaaGreat

/- A plant of one cable, by constants. -/
namespace Go.Proofs.YtlifcpcfhkpejaaGreat
set_option linter.unusedVariables false
set_option linter.unusedSimpArgs false
open Abs

abbrev cA : V := .str ⟨#[97]⟩
abbrev cB : V := .str ⟨#[98]⟩
abbrev cC : V := .str ⟨#[99]⟩
abbrev n1 : V := .int .i64 1
abbrev tSites : V := .lst 2 [[cA, .int .i64 1], [cB, .int .i64 4]]
abbrev tCables : V := .lst 5 [[cC, cA, cB, .int .i64 5, .int .i64 1]]
abbrev tinyL : List V := [tSites, tCables, .nils]
abbrev kindsO : Ob := .map 2 [(0, .c cA, .c (.int .i64 1)), (1, .c cB, .c (.int .i64 4))]
abbrev cabsO : Ob := .map 1 [(0, .c cC, .agg [cC, cA, cB, .int .i64 5, .int .i64 1])]
abbrev webO : List Ob := [.box [tSites, tCables, .nils, .mp 1, .mp 2, .mp 3, .nilm], kindsO, cabsO, .map 0 []]
set_option maxRecDepth 100000 in
set_option maxHeartbeats 4000000 in
theorem tiny_c : PCp 31 [] [] (.agg tinyL) [] := by
  refine fn_sound (mt := mts) tab_fits tab_mixed Tryz.func31 (by rfl) (by kernel_rfl) (by kernel_rfl) Tryz.results31 (Nat.le_of_ble_eq_true (by kernel_rfl)) ?_
  conv => whnf
  repeat' (first | (refine CondG.mk (fun h => ?_) (fun h => absurd h (by decide +kernel)); clear h; conv => whnf) | (refine CondG.mk (fun h => absurd h (by decide +kernel)) (fun h => ?_); clear h; conv => whnf) | (refine Split.mk (fun h => ?_) (fun h => absurd h (by decide +kernel)); clear h; conv => whnf) | (refine Split.mk (fun h => absurd h (by decide +kernel)) (fun h => ?_); clear h; conv => whnf) | (refine Ask.mk (by first | decide | (unfold roomOK; decide)) ?_; conv => whnf) | (refine AppG.mk (by first | decide | (unfold roomOK; decide)) ?_; conv => whnf) | (refine SliceG.fr ?_; conv => whnf) | (refine IdxG.mk _ ⟨by decide, by rfl⟩ ?_; conv => whnf) | (refine RowG.mk _ (by rfl) ?_; conv => whnf) | (refine look_no (by decide +kernel) ?_; conv => whnf) | (refine look_ix 0 (by rfl) (by decide +kernel) ?_; conv => whnf) | (refine look_ix 1 (by rfl) (by decide +kernel) ?_; conv => whnf) | (refine look_ix 2 (by rfl) (by decide +kernel) ?_; conv => whnf) | (refine upd_no (by decide +kernel) ?_; conv => whnf) | (refine LoopG.un 12 ?_; conv => whnf) | fail)
  all_goals first | exact .mk ⟨rfl, rfl⟩ | trace_state
set_option maxRecDepth 100000 in
set_option maxHeartbeats 4000000 in
theorem siteF_c1 : PCp 143 [.agg [cA, .int .i64 1]] [] (.c (.int .i64 0)) [] := by
  refine fn_sound (mt := mts) tab_fits tab_mixed Tryz.func143 (by rfl) (by kernel_rfl) (by kernel_rfl) Tryz.results143 (Nat.le_of_ble_eq_true (by kernel_rfl)) ?_
  conv => whnf
  repeat' (first | (refine CondG.mk (fun h => ?_) (fun h => absurd h (by decide +kernel)); clear h; conv => whnf) | (refine CondG.mk (fun h => absurd h (by decide +kernel)) (fun h => ?_); clear h; conv => whnf) | (refine Split.mk (fun h => ?_) (fun h => absurd h (by decide +kernel)); clear h; conv => whnf) | (refine Split.mk (fun h => absurd h (by decide +kernel)) (fun h => ?_); clear h; conv => whnf) | (refine CallX.mk _ _ (by first | exact bKey_pc _ | exact bOut_pc _ _ _) ?_; conv => whnf) | (refine CallG.mk _ _ (by first | exact bKey_pc _ | exact bOut_pc _ _ _) ?_; conv => whnf) | (refine Ask.mk (by first | decide | (unfold roomOK; decide)) ?_; conv => whnf) | (refine AppG.mk (by first | decide | (unfold roomOK; decide)) ?_; conv => whnf) | (refine SliceG.fr ?_; conv => whnf) | (refine IdxG.mk _ ⟨by decide, by rfl⟩ ?_; conv => whnf) | (refine RowG.mk _ (by rfl) ?_; conv => whnf) | (refine look_no (by decide +kernel) ?_; conv => whnf) | (refine look_ix 0 (by rfl) (by decide +kernel) ?_; conv => whnf) | (refine look_ix 1 (by rfl) (by decide +kernel) ?_; conv => whnf) | (refine look_ix 2 (by rfl) (by decide +kernel) ?_; conv => whnf) | (refine upd_no (by decide +kernel) ?_; conv => whnf) | (refine LoopG.un 12 ?_; conv => whnf) | fail)
  all_goals first | exact .mk ⟨rfl, rfl⟩ | trace_state
set_option maxRecDepth 100000 in
set_option maxHeartbeats 4000000 in
theorem siteF_c2 : PCp 143 [.agg [cB, .int .i64 4]] [] (.c (.int .i64 0)) [] := by
  refine fn_sound (mt := mts) tab_fits tab_mixed Tryz.func143 (by rfl) (by kernel_rfl) (by kernel_rfl) Tryz.results143 (Nat.le_of_ble_eq_true (by kernel_rfl)) ?_
  conv => whnf
  repeat' (first | (refine CondG.mk (fun h => ?_) (fun h => absurd h (by decide +kernel)); clear h; conv => whnf) | (refine CondG.mk (fun h => absurd h (by decide +kernel)) (fun h => ?_); clear h; conv => whnf) | (refine Split.mk (fun h => ?_) (fun h => absurd h (by decide +kernel)); clear h; conv => whnf) | (refine Split.mk (fun h => absurd h (by decide +kernel)) (fun h => ?_); clear h; conv => whnf) | (refine CallX.mk _ _ (by first | exact bKey_pc _ | exact bOut_pc _ _ _) ?_; conv => whnf) | (refine CallG.mk _ _ (by first | exact bKey_pc _ | exact bOut_pc _ _ _) ?_; conv => whnf) | (refine Ask.mk (by first | decide | (unfold roomOK; decide)) ?_; conv => whnf) | (refine AppG.mk (by first | decide | (unfold roomOK; decide)) ?_; conv => whnf) | (refine SliceG.fr ?_; conv => whnf) | (refine IdxG.mk _ ⟨by decide, by rfl⟩ ?_; conv => whnf) | (refine RowG.mk _ (by rfl) ?_; conv => whnf) | (refine look_no (by decide +kernel) ?_; conv => whnf) | (refine look_ix 0 (by rfl) (by decide +kernel) ?_; conv => whnf) | (refine look_ix 1 (by rfl) (by decide +kernel) ?_; conv => whnf) | (refine look_ix 2 (by rfl) (by decide +kernel) ?_; conv => whnf) | (refine upd_no (by decide +kernel) ?_; conv => whnf) | (refine LoopG.un 12 ?_; conv => whnf) | fail)
  all_goals first | exact .mk ⟨rfl, rfl⟩ | trace_state
set_option maxRecDepth 100000 in
set_option maxHeartbeats 4000000 in
theorem sitesF_c : PCp 130 [.c tSites] [] (.c (.int .i64 0)) [] := by
  refine fn_sound (mt := mts) tab_fits tab_mixed Tryz.func130 (by rfl) (by kernel_rfl) (by kernel_rfl) Tryz.results130 (Nat.le_of_ble_eq_true (by kernel_rfl)) ?_
  conv => whnf
  repeat' (first | (refine CondG.mk (fun h => ?_) (fun h => absurd h (by decide +kernel)); clear h; conv => whnf) | (refine CondG.mk (fun h => absurd h (by decide +kernel)) (fun h => ?_); clear h; conv => whnf) | (refine Split.mk (fun h => ?_) (fun h => absurd h (by decide +kernel)); clear h; conv => whnf) | (refine Split.mk (fun h => absurd h (by decide +kernel)) (fun h => ?_); clear h; conv => whnf) | (refine CallX.mk _ _ (by first | exact siteF_c1 | exact siteF_c2) ?_; conv => whnf) | (refine CallG.mk _ _ (by first | exact siteF_c1 | exact siteF_c2) ?_; conv => whnf) | (refine Ask.mk (by first | decide | (unfold roomOK; decide)) ?_; conv => whnf) | (refine AppG.mk (by first | decide | (unfold roomOK; decide)) ?_; conv => whnf) | (refine SliceG.fr ?_; conv => whnf) | (refine IdxG.mk _ ⟨by decide, by rfl⟩ ?_; conv => whnf) | (refine RowG.mk _ (by rfl) ?_; conv => whnf) | (refine look_no (by decide +kernel) ?_; conv => whnf) | (refine look_ix 0 (by rfl) (by decide +kernel) ?_; conv => whnf) | (refine look_ix 1 (by rfl) (by decide +kernel) ?_; conv => whnf) | (refine look_ix 2 (by rfl) (by decide +kernel) ?_; conv => whnf) | (refine upd_no (by decide +kernel) ?_; conv => whnf) | (refine LoopG.un 12 ?_; conv => whnf) | fail)
  all_goals first | exact .mk ⟨rfl, rfl⟩ | trace_state
set_option maxRecDepth 100000 in
set_option maxHeartbeats 4000000 in
theorem cabF_c : PCp 144 [.agg [cC, cA, cB, .int .i64 5, .int .i64 1], .c (.mp 0)] [kindsO] (.c (.int .i64 0)) [kindsO] := by
  refine fn_sound (mt := mts) tab_fits tab_mixed Tryz.func144 (by rfl) (by kernel_rfl) (by kernel_rfl) Tryz.results144 (Nat.le_of_ble_eq_true (by kernel_rfl)) ?_
  conv => whnf
  repeat' (first | (refine CondG.mk (fun h => ?_) (fun h => absurd h (by decide +kernel)); clear h; conv => whnf) | (refine CondG.mk (fun h => absurd h (by decide +kernel)) (fun h => ?_); clear h; conv => whnf) | (refine Split.mk (fun h => ?_) (fun h => absurd h (by decide +kernel)); clear h; conv => whnf) | (refine Split.mk (fun h => absurd h (by decide +kernel)) (fun h => ?_); clear h; conv => whnf) | (refine CallX.mk _ _ (by first | exact bKey_pc _ | exact bOut_pc _ _ _) ?_; conv => whnf) | (refine CallG.mk _ _ (by first | exact bKey_pc _ | exact bOut_pc _ _ _) ?_; conv => whnf) | (refine Ask.mk (by first | decide | (unfold roomOK; decide)) ?_; conv => whnf) | (refine AppG.mk (by first | decide | (unfold roomOK; decide)) ?_; conv => whnf) | (refine SliceG.fr ?_; conv => whnf) | (refine IdxG.mk _ ⟨by decide, by rfl⟩ ?_; conv => whnf) | (refine RowG.mk _ (by rfl) ?_; conv => whnf) | (refine look_no (by decide +kernel) ?_; conv => whnf) | (refine look_ix 0 (by rfl) (by decide +kernel) ?_; conv => whnf) | (refine look_ix 1 (by rfl) (by decide +kernel) ?_; conv => whnf) | (refine look_ix 2 (by rfl) (by decide +kernel) ?_; conv => whnf) | (refine upd_no (by decide +kernel) ?_; conv => whnf) | (refine LoopG.un 12 ?_; conv => whnf) | fail)
  all_goals first | exact .mk ⟨rfl, rfl⟩ | trace_state
set_option maxRecDepth 100000 in
set_option maxHeartbeats 4000000 in
theorem cabsF_c : PCp 131 [.c tCables, .c (.mp 0)] [kindsO] (.c (.int .i64 0)) [kindsO] := by
  refine fn_sound (mt := mts) tab_fits tab_mixed Tryz.func131 (by rfl) (by kernel_rfl) (by kernel_rfl) Tryz.results131 (Nat.le_of_ble_eq_true (by kernel_rfl)) ?_
  conv => whnf
  repeat' (first | (refine CondG.mk (fun h => ?_) (fun h => absurd h (by decide +kernel)); clear h; conv => whnf) | (refine CondG.mk (fun h => absurd h (by decide +kernel)) (fun h => ?_); clear h; conv => whnf) | (refine Split.mk (fun h => ?_) (fun h => absurd h (by decide +kernel)); clear h; conv => whnf) | (refine Split.mk (fun h => absurd h (by decide +kernel)) (fun h => ?_); clear h; conv => whnf) | (refine CallX.mk _ _ (by first | exact cabF_c) ?_; conv => whnf) | (refine CallG.mk _ _ (by first | exact cabF_c) ?_; conv => whnf) | (refine Ask.mk (by first | decide | (unfold roomOK; decide)) ?_; conv => whnf) | (refine AppG.mk (by first | decide | (unfold roomOK; decide)) ?_; conv => whnf) | (refine SliceG.fr ?_; conv => whnf) | (refine IdxG.mk _ ⟨by decide, by rfl⟩ ?_; conv => whnf) | (refine RowG.mk _ (by rfl) ?_; conv => whnf) | (refine look_no (by decide +kernel) ?_; conv => whnf) | (refine look_ix 0 (by rfl) (by decide +kernel) ?_; conv => whnf) | (refine look_ix 1 (by rfl) (by decide +kernel) ?_; conv => whnf) | (refine look_ix 2 (by rfl) (by decide +kernel) ?_; conv => whnf) | (refine upd_no (by decide +kernel) ?_; conv => whnf) | (refine LoopG.un 12 ?_; conv => whnf) | fail)
  all_goals first | exact .mk ⟨rfl, rfl⟩ | trace_state
set_option maxRecDepth 100000 in
set_option maxHeartbeats 4000000 in
theorem splsF_c : PCp 132 [.agg tinyL, .c (.mp 0)] [kindsO] (.c (.int .i64 0)) [kindsO] := by
  refine fn_sound (mt := mts) tab_fits tab_mixed Tryz.func132 (by rfl) (by kernel_rfl) (by kernel_rfl) Tryz.results132 (Nat.le_of_ble_eq_true (by kernel_rfl)) ?_
  conv => whnf
  repeat' (first | (refine CondG.mk (fun h => ?_) (fun h => absurd h (by decide +kernel)); clear h; conv => whnf) | (refine CondG.mk (fun h => absurd h (by decide +kernel)) (fun h => ?_); clear h; conv => whnf) | (refine Split.mk (fun h => ?_) (fun h => absurd h (by decide +kernel)); clear h; conv => whnf) | (refine Split.mk (fun h => absurd h (by decide +kernel)) (fun h => ?_); clear h; conv => whnf) | (refine Ask.mk (by first | decide | (unfold roomOK; decide)) ?_; conv => whnf) | (refine AppG.mk (by first | decide | (unfold roomOK; decide)) ?_; conv => whnf) | (refine SliceG.fr ?_; conv => whnf) | (refine IdxG.mk _ ⟨by decide, by rfl⟩ ?_; conv => whnf) | (refine RowG.mk _ (by rfl) ?_; conv => whnf) | (refine look_no (by decide +kernel) ?_; conv => whnf) | (refine look_ix 0 (by rfl) (by decide +kernel) ?_; conv => whnf) | (refine look_ix 1 (by rfl) (by decide +kernel) ?_; conv => whnf) | (refine look_ix 2 (by rfl) (by decide +kernel) ?_; conv => whnf) | (refine upd_no (by decide +kernel) ?_; conv => whnf) | (refine LoopG.un 12 ?_; conv => whnf) | fail)
  all_goals first | exact .mk ⟨rfl, rfl⟩ | trace_state
set_option maxRecDepth 100000 in
set_option maxHeartbeats 4000000 in
theorem checkPlant_c : PCp 99 [.agg tinyL] [] (.c (.int .i64 0)) [] := by
  refine fn_sound (mt := mts) tab_fits tab_mixed Tryz.func99 (by rfl) (by kernel_rfl) (by kernel_rfl) Tryz.results99 (Nat.le_of_ble_eq_true (by kernel_rfl)) ?_
  conv => whnf
  repeat' (first | (refine CondG.mk (fun h => ?_) (fun h => absurd h (by decide +kernel)); clear h; conv => whnf) | (refine CondG.mk (fun h => absurd h (by decide +kernel)) (fun h => ?_); clear h; conv => whnf) | (refine Split.mk (fun h => ?_) (fun h => absurd h (by decide +kernel)); clear h; conv => whnf) | (refine Split.mk (fun h => absurd h (by decide +kernel)) (fun h => ?_); clear h; conv => whnf) | (refine CallX.mk _ _ (by first | exact sitesF_c | exact cabsF_c | exact splsF_c) ?_; conv => whnf) | (refine CallG.mk _ _ (by first | exact sitesF_c | exact cabsF_c | exact splsF_c) ?_; conv => whnf) | (refine Ask.mk (by first | decide | (unfold roomOK; decide)) ?_; conv => whnf) | (refine AppG.mk (by first | decide | (unfold roomOK; decide)) ?_; conv => whnf) | (refine SliceG.fr ?_; conv => whnf) | (refine IdxG.mk _ ⟨by decide, by rfl⟩ ?_; conv => whnf) | (refine RowG.mk _ (by rfl) ?_; conv => whnf) | (refine look_no (by decide +kernel) ?_; conv => whnf) | (refine look_ix 0 (by rfl) (by decide +kernel) ?_; conv => whnf) | (refine look_ix 1 (by rfl) (by decide +kernel) ?_; conv => whnf) | (refine look_ix 2 (by rfl) (by decide +kernel) ?_; conv => whnf) | (refine upd_no (by decide +kernel) ?_; conv => whnf) | (refine LoopG.un 12 ?_; conv => whnf) | fail)
  all_goals first | exact .mk ⟨rfl, rfl⟩ | trace_state
theorem sbool {a b : Bool} (h : a = b) : oneOf [S.c (.bool a)] = S.c (.bool b) := by rw [h]; rfl
set_option maxRecDepth 100000 in
set_option maxHeartbeats 4000000 in
theorem siteC1_c : PCp 101 [.agg [cA, .int .i64 1], .c (.ptr 0 0)] [.box [cB]] (.c (.bool false)) [.box [cB]] := by
  refine fn_sound (mt := mts) tab_fits tab_mixed Tryz.func101 (by rfl) (by kernel_rfl) (by kernel_rfl) Tryz.results101 (Nat.le_of_ble_eq_true (by kernel_rfl)) ?_
  conv => whnf
  repeat' (first | (refine CondG.mk (fun h => ?_) (fun h => absurd h (by decide +kernel)); clear h; conv => whnf) | (refine CondG.mk (fun h => absurd h (by decide +kernel)) (fun h => ?_); clear h; conv => whnf) | (refine Split.mk (fun h => ?_) (fun h => absurd h (by decide +kernel)); clear h; conv => whnf) | (refine Split.mk (fun h => absurd h (by decide +kernel)) (fun h => ?_); clear h; conv => whnf) | (refine Ask.mk (by first | decide | (unfold roomOK; decide)) ?_; conv => whnf) | (refine AppG.mk (by first | decide | (unfold roomOK; decide)) ?_; conv => whnf) | (refine SliceG.fr ?_; conv => whnf) | (refine IdxG.mk _ ⟨by decide, by rfl⟩ ?_; conv => whnf) | (refine RowG.mk _ (by rfl) ?_; conv => whnf) | (refine look_no (by decide +kernel) ?_; conv => whnf) | (refine look_ix 0 (by rfl) (by decide +kernel) ?_; conv => whnf) | (refine look_ix 1 (by rfl) (by decide +kernel) ?_; conv => whnf) | (refine look_ix 2 (by rfl) (by decide +kernel) ?_; conv => whnf) | (refine upd_no (by decide +kernel) ?_; conv => whnf) | (refine LoopG.un 12 ?_; conv => whnf) | fail)
  exact .mk ⟨sbool (by decide +kernel), rfl⟩
set_option maxRecDepth 100000 in
set_option maxHeartbeats 4000000 in
theorem siteC2_c : PCp 101 [.agg [cB, .int .i64 4], .c (.ptr 0 0)] [.box [cB]] (.c (.bool true)) [.box [cB]] := by
  refine fn_sound (mt := mts) tab_fits tab_mixed Tryz.func101 (by rfl) (by kernel_rfl) (by kernel_rfl) Tryz.results101 (Nat.le_of_ble_eq_true (by kernel_rfl)) ?_
  conv => whnf
  repeat' (first | (refine CondG.mk (fun h => ?_) (fun h => absurd h (by decide +kernel)); clear h; conv => whnf) | (refine CondG.mk (fun h => absurd h (by decide +kernel)) (fun h => ?_); clear h; conv => whnf) | (refine Split.mk (fun h => ?_) (fun h => absurd h (by decide +kernel)); clear h; conv => whnf) | (refine Split.mk (fun h => absurd h (by decide +kernel)) (fun h => ?_); clear h; conv => whnf) | (refine Ask.mk (by first | decide | (unfold roomOK; decide)) ?_; conv => whnf) | (refine AppG.mk (by first | decide | (unfold roomOK; decide)) ?_; conv => whnf) | (refine SliceG.fr ?_; conv => whnf) | (refine IdxG.mk _ ⟨by decide, by rfl⟩ ?_; conv => whnf) | (refine RowG.mk _ (by rfl) ?_; conv => whnf) | (refine look_no (by decide +kernel) ?_; conv => whnf) | (refine look_ix 0 (by rfl) (by decide +kernel) ?_; conv => whnf) | (refine look_ix 1 (by rfl) (by decide +kernel) ?_; conv => whnf) | (refine look_ix 2 (by rfl) (by decide +kernel) ?_; conv => whnf) | (refine upd_no (by decide +kernel) ?_; conv => whnf) | (refine LoopG.un 12 ?_; conv => whnf) | fail)
  exact .mk ⟨sbool (by decide +kernel), rfl⟩
set_option maxRecDepth 100000 in
set_option maxHeartbeats 4000000 in
theorem siteIx_c : PCp 133 [.c tSites, .c (.fn 101 [.ptr 0 0])] [.box [cB]] (.c (.int .i64 1)) [.box [cB]] := by
  refine fn_sound (mt := mts) tab_fits tab_mixed Tryz.func133 (by rfl) (by kernel_rfl) (by kernel_rfl) Tryz.results133 (Nat.le_of_ble_eq_true (by kernel_rfl)) ?_
  conv => whnf
  repeat' (first | (refine CondG.mk (fun h => ?_) (fun h => absurd h (by decide +kernel)); clear h; conv => whnf) | (refine CondG.mk (fun h => absurd h (by decide +kernel)) (fun h => ?_); clear h; conv => whnf) | (refine Split.mk (fun h => ?_) (fun h => absurd h (by decide +kernel)); clear h; conv => whnf) | (refine Split.mk (fun h => absurd h (by decide +kernel)) (fun h => ?_); clear h; conv => whnf) | (refine CallX.mk _ _ (by first | exact siteC1_c | exact siteC2_c) ?_; conv => whnf) | (refine CallG.mk _ _ (by first | exact siteC1_c | exact siteC2_c) ?_; conv => whnf) | (refine Ask.mk (by first | decide | (unfold roomOK; decide)) ?_; conv => whnf) | (refine AppG.mk (by first | decide | (unfold roomOK; decide)) ?_; conv => whnf) | (refine SliceG.fr ?_; conv => whnf) | (refine IdxG.mk _ ⟨by decide, by rfl⟩ ?_; conv => whnf) | (refine RowG.mk _ (by rfl) ?_; conv => whnf) | (refine look_no (by decide +kernel) ?_; conv => whnf) | (refine look_ix 0 (by rfl) (by decide +kernel) ?_; conv => whnf) | (refine look_ix 1 (by rfl) (by decide +kernel) ?_; conv => whnf) | (refine look_ix 2 (by rfl) (by decide +kernel) ?_; conv => whnf) | (refine upd_no (by decide +kernel) ?_; conv => whnf) | (refine LoopG.un 12 ?_; conv => whnf) | fail)
  all_goals first | exact .mk ⟨rfl, rfl⟩ | trace_state
set_option maxRecDepth 100000 in
set_option maxHeartbeats 4000000 in
theorem siteCt_c : PCp 100 [.c tSites, .c (.fn 101 [.ptr 0 0])] [.box [cB]] (.c (.bool true)) [.box [cB]] := by
  refine fn_sound (mt := mts) tab_fits tab_mixed Tryz.func100 (by rfl) (by kernel_rfl) (by kernel_rfl) Tryz.results100 (Nat.le_of_ble_eq_true (by kernel_rfl)) ?_
  conv => whnf
  repeat' (first | (refine CondG.mk (fun h => ?_) (fun h => absurd h (by decide +kernel)); clear h; conv => whnf) | (refine CondG.mk (fun h => absurd h (by decide +kernel)) (fun h => ?_); clear h; conv => whnf) | (refine Split.mk (fun h => ?_) (fun h => absurd h (by decide +kernel)); clear h; conv => whnf) | (refine Split.mk (fun h => absurd h (by decide +kernel)) (fun h => ?_); clear h; conv => whnf) | (refine CallX.mk _ _ (by first | exact siteIx_c) ?_; conv => whnf) | (refine CallG.mk _ _ (by first | exact siteIx_c) ?_; conv => whnf) | (refine Ask.mk (by first | decide | (unfold roomOK; decide)) ?_; conv => whnf) | (refine AppG.mk (by first | decide | (unfold roomOK; decide)) ?_; conv => whnf) | (refine SliceG.fr ?_; conv => whnf) | (refine IdxG.mk _ ⟨by decide, by rfl⟩ ?_; conv => whnf) | (refine RowG.mk _ (by rfl) ?_; conv => whnf) | (refine look_no (by decide +kernel) ?_; conv => whnf) | (refine look_ix 0 (by rfl) (by decide +kernel) ?_; conv => whnf) | (refine look_ix 1 (by rfl) (by decide +kernel) ?_; conv => whnf) | (refine look_ix 2 (by rfl) (by decide +kernel) ?_; conv => whnf) | (refine upd_no (by decide +kernel) ?_; conv => whnf) | (refine LoopG.un 12 ?_; conv => whnf) | fail)
  all_goals first | exact .mk ⟨rfl, rfl⟩ | trace_state
set_option maxRecDepth 100000 in
set_option maxHeartbeats 4000000 in
theorem siteFault_c : PCp 68 [.agg tinyL, .c cB] [] (.c (.int .i64 0)) [] := by
  refine fn_sound (mt := mts) tab_fits tab_mixed Tryz.func68 (by rfl) (by kernel_rfl) (by kernel_rfl) Tryz.results68 (Nat.le_of_ble_eq_true (by kernel_rfl)) ?_
  conv => whnf
  repeat' (first | (refine CondG.mk (fun h => ?_) (fun h => absurd h (by decide +kernel)); clear h; conv => whnf) | (refine CondG.mk (fun h => absurd h (by decide +kernel)) (fun h => ?_); clear h; conv => whnf) | (refine Split.mk (fun h => ?_) (fun h => absurd h (by decide +kernel)); clear h; conv => whnf) | (refine Split.mk (fun h => absurd h (by decide +kernel)) (fun h => ?_); clear h; conv => whnf) | (refine CallX.mk _ _ (by first | exact checkPlant_c | exact siteCt_c) ?_; conv => whnf) | (refine CallG.mk _ _ (by first | exact checkPlant_c | exact siteCt_c) ?_; conv => whnf) | (refine Ask.mk (by first | decide | (unfold roomOK; decide)) ?_; conv => whnf) | (refine AppG.mk (by first | decide | (unfold roomOK; decide)) ?_; conv => whnf) | (refine SliceG.fr ?_; conv => whnf) | (refine IdxG.mk _ ⟨by decide, by rfl⟩ ?_; conv => whnf) | (refine RowG.mk _ (by rfl) ?_; conv => whnf) | (refine look_no (by decide +kernel) ?_; conv => whnf) | (refine look_ix 0 (by rfl) (by decide +kernel) ?_; conv => whnf) | (refine look_ix 1 (by rfl) (by decide +kernel) ?_; conv => whnf) | (refine look_ix 2 (by rfl) (by decide +kernel) ?_; conv => whnf) | (refine upd_no (by decide +kernel) ?_; conv => whnf) | (refine LoopG.un 12 ?_; conv => whnf) | fail)
  all_goals first | exact .mk ⟨rfl, rfl⟩ | trace_state
set_option maxRecDepth 100000 in
set_option maxHeartbeats 4000000 in
theorem webNew_c : PCp 69 [.agg tinyL] [] (.c (.ptr 0 0)) webO := by
  refine fn_sound (mt := mts) tab_fits tab_mixed Tryz.func69 (by rfl) (by kernel_rfl) (by kernel_rfl) Tryz.results69 (Nat.le_of_ble_eq_true (by kernel_rfl)) ?_
  conv => whnf
  repeat' (first | (refine CondG.mk (fun h => ?_) (fun h => absurd h (by decide +kernel)); clear h; conv => whnf) | (refine CondG.mk (fun h => absurd h (by decide +kernel)) (fun h => ?_); clear h; conv => whnf) | (refine Split.mk (fun h => ?_) (fun h => absurd h (by decide +kernel)); clear h; conv => whnf) | (refine Split.mk (fun h => absurd h (by decide +kernel)) (fun h => ?_); clear h; conv => whnf) | (refine Ask.mk (by first | decide | (unfold roomOK; decide)) ?_; conv => whnf) | (refine AppG.mk (by first | decide | (unfold roomOK; decide)) ?_; conv => whnf) | (refine SliceG.fr ?_; conv => whnf) | (refine IdxG.mk _ ⟨by decide, by rfl⟩ ?_; conv => whnf) | (refine RowG.mk _ (by rfl) ?_; conv => whnf) | (refine look_no (by decide +kernel) ?_; conv => whnf) | (refine look_ix 0 (by rfl) (by decide +kernel) ?_; conv => whnf) | (refine look_ix 1 (by rfl) (by decide +kernel) ?_; conv => whnf) | (refine look_ix 2 (by rfl) (by decide +kernel) ?_; conv => whnf) | (refine upd_no (by decide +kernel) ?_; conv => whnf) | (refine LoopG.un 12 ?_; conv => whnf) | fail)
  all_goals first | exact .mk ⟨rfl, rfl⟩ | trace_state
set_option maxRecDepth 100000 in
set_option maxHeartbeats 4000000 in
theorem webHas_c : PCp 70 [.c (.ptr 0 0), .agg [cC, n1]] webO (.c (.bool true)) webO := by
  refine fn_sound (mt := mts) tab_fits tab_mixed Tryz.func70 (by rfl) (by kernel_rfl) (by kernel_rfl) Tryz.results70 (Nat.le_of_ble_eq_true (by kernel_rfl)) ?_
  conv => whnf
  repeat' (first | (refine CondG.mk (fun h => ?_) (fun h => absurd h (by decide +kernel)); clear h; conv => whnf) | (refine CondG.mk (fun h => absurd h (by decide +kernel)) (fun h => ?_); clear h; conv => whnf) | (refine Split.mk (fun h => ?_) (fun h => absurd h (by decide +kernel)); clear h; conv => whnf) | (refine Split.mk (fun h => absurd h (by decide +kernel)) (fun h => ?_); clear h; conv => whnf) | (refine CallX.mk _ _ (by first | exact bOut_pc _ _ _) ?_; conv => whnf) | (refine CallG.mk _ _ (by first | exact bOut_pc _ _ _) ?_; conv => whnf) | (refine Ask.mk (by first | decide | (unfold roomOK; decide)) ?_; conv => whnf) | (refine AppG.mk (by first | decide | (unfold roomOK; decide)) ?_; conv => whnf) | (refine SliceG.fr ?_; conv => whnf) | (refine IdxG.mk _ ⟨by decide, by rfl⟩ ?_; conv => whnf) | (refine RowG.mk _ (by rfl) ?_; conv => whnf) | (refine look_no (by decide +kernel) ?_; conv => whnf) | (refine look_ix 0 (by rfl) (by decide +kernel) ?_; conv => whnf) | (refine look_ix 1 (by rfl) (by decide +kernel) ?_; conv => whnf) | (refine look_ix 2 (by rfl) (by decide +kernel) ?_; conv => whnf) | (refine upd_no (by decide +kernel) ?_; conv => whnf) | (refine LoopG.un 12 ?_; conv => whnf) | fail)
  all_goals first | exact .mk ⟨rfl, rfl⟩ | exact .mk ⟨sbool (by decide +kernel), rfl⟩ | trace_state
set_option maxRecDepth 100000 in
set_option maxHeartbeats 4000000 in
theorem webTouches_c : PCp 71 [.c (.ptr 0 0), .agg [cC, n1], .c cB] webO (.c (.bool true)) webO := by
  refine fn_sound (mt := mts) tab_fits tab_mixed Tryz.func71 (by rfl) (by kernel_rfl) (by kernel_rfl) Tryz.results71 (Nat.le_of_ble_eq_true (by kernel_rfl)) ?_
  conv => whnf
  repeat' (first | (refine CondG.mk (fun h => ?_) (fun h => absurd h (by decide +kernel)); clear h; conv => whnf) | (refine CondG.mk (fun h => absurd h (by decide +kernel)) (fun h => ?_); clear h; conv => whnf) | (refine Split.mk (fun h => ?_) (fun h => absurd h (by decide +kernel)); clear h; conv => whnf) | (refine Split.mk (fun h => absurd h (by decide +kernel)) (fun h => ?_); clear h; conv => whnf) | (refine Ask.mk (by first | decide | (unfold roomOK; decide)) ?_; conv => whnf) | (refine AppG.mk (by first | decide | (unfold roomOK; decide)) ?_; conv => whnf) | (refine SliceG.fr ?_; conv => whnf) | (refine IdxG.mk _ ⟨by decide, by rfl⟩ ?_; conv => whnf) | (refine RowG.mk _ (by rfl) ?_; conv => whnf) | (refine look_no (by decide +kernel) ?_; conv => whnf) | (refine look_ix 0 (by rfl) (by decide +kernel) ?_; conv => whnf) | (refine look_ix 1 (by rfl) (by decide +kernel) ?_; conv => whnf) | (refine look_ix 2 (by rfl) (by decide +kernel) ?_; conv => whnf) | (refine upd_no (by decide +kernel) ?_; conv => whnf) | (refine LoopG.un 12 ?_; conv => whnf) | fail)
  all_goals first | exact .mk ⟨rfl, rfl⟩ | exact .mk ⟨sbool (by decide +kernel), rfl⟩ | trace_state
set_option maxRecDepth 100000 in
set_option maxHeartbeats 4000000 in
theorem endOf_c : PCp 46 [.agg tinyL, .agg [cC, n1], .c cB] [] (.tup [.c (.ptr 0 0), .c (.int .i64 0)]) webO := by
  refine fn_sound (mt := mts) tab_fits tab_mixed Tryz.func46 (by rfl) (by kernel_rfl) (by kernel_rfl) Tryz.results46 (Nat.le_of_ble_eq_true (by kernel_rfl)) ?_
  conv => whnf
  repeat' (first | (refine CondG.mk (fun h => ?_) (fun h => absurd h (by decide +kernel)); clear h; conv => whnf) | (refine CondG.mk (fun h => absurd h (by decide +kernel)) (fun h => ?_); clear h; conv => whnf) | (refine Split.mk (fun h => ?_) (fun h => absurd h (by decide +kernel)); clear h; conv => whnf) | (refine Split.mk (fun h => absurd h (by decide +kernel)) (fun h => ?_); clear h; conv => whnf) | (refine CallX.mk _ _ (by first | exact siteFault_c | exact webNew_c | exact webHas_c | exact webTouches_c) ?_; conv => whnf) | (refine CallG.mk _ _ (by first | exact siteFault_c | exact webNew_c | exact webHas_c | exact webTouches_c) ?_; conv => whnf) | (refine Ask.mk (by first | decide | (unfold roomOK; decide)) ?_; conv => whnf) | (refine AppG.mk (by first | decide | (unfold roomOK; decide)) ?_; conv => whnf) | (refine SliceG.fr ?_; conv => whnf) | (refine IdxG.mk _ ⟨by decide, by rfl⟩ ?_; conv => whnf) | (refine RowG.mk _ (by rfl) ?_; conv => whnf) | (refine look_no (by decide +kernel) ?_; conv => whnf) | (refine look_ix 0 (by rfl) (by decide +kernel) ?_; conv => whnf) | (refine look_ix 1 (by rfl) (by decide +kernel) ?_; conv => whnf) | (refine look_ix 2 (by rfl) (by decide +kernel) ?_; conv => whnf) | (refine upd_no (by decide +kernel) ?_; conv => whnf) | (refine LoopG.un 12 ?_; conv => whnf) | fail)
  all_goals first | exact .mk ⟨rfl, rfl⟩ | trace_state
abbrev spl0 : List V := [.str ⟨#[]⟩, .str ⟨#[]⟩, .int .i64 0, .str ⟨#[]⟩, .int .i64 0, .int .i64 0]
set_option maxRecDepth 100000 in
set_option maxHeartbeats 4000000 in
theorem webAt_c (s : V) (hs : s = cA ∨ s = cB) : PCp 47 [.c (.ptr 0 0), .agg [s, cC, n1]] webO (.tup [.agg spl0, .c (.bool false)]) webO := by
  rcases hs with rfl | rfl
  · refine fn_sound (mt := mts) tab_fits tab_mixed Tryz.func47 (by rfl) (by kernel_rfl) (by kernel_rfl) Tryz.results47 (Nat.le_of_ble_eq_true (by kernel_rfl)) ?_
    conv => whnf
    repeat' (first | (refine CondG.mk (fun h => ?_) (fun h => absurd h (by decide +kernel)); clear h; conv => whnf) | (refine CondG.mk (fun h => absurd h (by decide +kernel)) (fun h => ?_); clear h; conv => whnf) | (refine Split.mk (fun h => ?_) (fun h => absurd h (by decide +kernel)); clear h; conv => whnf) | (refine Split.mk (fun h => absurd h (by decide +kernel)) (fun h => ?_); clear h; conv => whnf) | (refine Ask.mk (by first | decide | (unfold roomOK; decide)) ?_; conv => whnf) | (refine AppG.mk (by first | decide | (unfold roomOK; decide)) ?_; conv => whnf) | (refine SliceG.fr ?_; conv => whnf) | (refine IdxG.mk _ ⟨by decide, by rfl⟩ ?_; conv => whnf) | (refine RowG.mk _ (by rfl) ?_; conv => whnf) | (refine look_no (by decide +kernel) ?_; conv => whnf) | (refine look_ix 0 (by rfl) (by decide +kernel) ?_; conv => whnf) | (refine look_ix 1 (by rfl) (by decide +kernel) ?_; conv => whnf) | (refine look_ix 2 (by rfl) (by decide +kernel) ?_; conv => whnf) | (refine upd_no (by decide +kernel) ?_; conv => whnf) | (refine LoopG.un 12 ?_; conv => whnf) | fail)
    all_goals first | exact .mk ⟨rfl, rfl⟩ | trace_state
  · refine fn_sound (mt := mts) tab_fits tab_mixed Tryz.func47 (by rfl) (by kernel_rfl) (by kernel_rfl) Tryz.results47 (Nat.le_of_ble_eq_true (by kernel_rfl)) ?_
    conv => whnf
    repeat' (first | (refine CondG.mk (fun h => ?_) (fun h => absurd h (by decide +kernel)); clear h; conv => whnf) | (refine CondG.mk (fun h => absurd h (by decide +kernel)) (fun h => ?_); clear h; conv => whnf) | (refine Split.mk (fun h => ?_) (fun h => absurd h (by decide +kernel)); clear h; conv => whnf) | (refine Split.mk (fun h => absurd h (by decide +kernel)) (fun h => ?_); clear h; conv => whnf) | (refine Ask.mk (by first | decide | (unfold roomOK; decide)) ?_; conv => whnf) | (refine AppG.mk (by first | decide | (unfold roomOK; decide)) ?_; conv => whnf) | (refine SliceG.fr ?_; conv => whnf) | (refine IdxG.mk _ ⟨by decide, by rfl⟩ ?_; conv => whnf) | (refine RowG.mk _ (by rfl) ?_; conv => whnf) | (refine look_no (by decide +kernel) ?_; conv => whnf) | (refine look_ix 0 (by rfl) (by decide +kernel) ?_; conv => whnf) | (refine look_ix 1 (by rfl) (by decide +kernel) ?_; conv => whnf) | (refine look_ix 2 (by rfl) (by decide +kernel) ?_; conv => whnf) | (refine upd_no (by decide +kernel) ?_; conv => whnf) | (refine LoopG.un 12 ?_; conv => whnf) | fail)
    all_goals first | exact .mk ⟨rfl, rfl⟩ | trace_state
set_option maxRecDepth 100000 in
set_option maxHeartbeats 4000000 in
theorem webHop_c : PCp 72 [.c (.ptr 0 0), .agg [cB, cC, n1]] webO (.agg [cC, n1, cB, cA]) webO := by
  refine fn_sound (mt := mts) tab_fits tab_mixed Tryz.func72 (by rfl) (by kernel_rfl) (by kernel_rfl) Tryz.results72 (Nat.le_of_ble_eq_true (by kernel_rfl)) ?_
  conv => whnf
  repeat' (first | (refine CondG.mk (fun h => ?_) (fun h => absurd h (by decide +kernel)); clear h; conv => whnf) | (refine CondG.mk (fun h => absurd h (by decide +kernel)) (fun h => ?_); clear h; conv => whnf) | (refine Split.mk (fun h => ?_) (fun h => absurd h (by decide +kernel)); clear h; conv => whnf) | (refine Split.mk (fun h => absurd h (by decide +kernel)) (fun h => ?_); clear h; conv => whnf) | (refine Ask.mk (by first | decide | (unfold roomOK; decide)) ?_; conv => whnf) | (refine AppG.mk (by first | decide | (unfold roomOK; decide)) ?_; conv => whnf) | (refine SliceG.fr ?_; conv => whnf) | (refine IdxG.mk _ ⟨by decide, by rfl⟩ ?_; conv => whnf) | (refine RowG.mk _ (by rfl) ?_; conv => whnf) | (refine look_no (by decide +kernel) ?_; conv => whnf) | (refine look_ix 0 (by rfl) (by decide +kernel) ?_; conv => whnf) | (refine look_ix 1 (by rfl) (by decide +kernel) ?_; conv => whnf) | (refine look_ix 2 (by rfl) (by decide +kernel) ?_; conv => whnf) | (refine upd_no (by decide +kernel) ?_; conv => whnf) | (refine LoopG.un 12 ?_; conv => whnf) | fail)
  all_goals first | exact .mk ⟨rfl, rfl⟩ | trace_state
set_option maxRecDepth 100000 in
set_option maxHeartbeats 4000000 in
theorem webNext_c : PCp 73 [.c (.ptr 0 0), .agg [cC, n1, cB, cA]] webO (.tup [.agg [.str ⟨#[]⟩, .str ⟨#[]⟩, .int .i64 0], .c (.bool false)]) webO := by
  refine fn_sound (mt := mts) tab_fits tab_mixed Tryz.func73 (by rfl) (by kernel_rfl) (by kernel_rfl) Tryz.results73 (Nat.le_of_ble_eq_true (by kernel_rfl)) ?_
  conv => whnf
  repeat' (first | (refine CondG.mk (fun h => ?_) (fun h => absurd h (by decide +kernel)); clear h; conv => whnf) | (refine CondG.mk (fun h => absurd h (by decide +kernel)) (fun h => ?_); clear h; conv => whnf) | (refine Split.mk (fun h => ?_) (fun h => absurd h (by decide +kernel)); clear h; conv => whnf) | (refine Split.mk (fun h => absurd h (by decide +kernel)) (fun h => ?_); clear h; conv => whnf) | (refine CallX.mk _ _ (by first | exact webAt_c cA (.inl rfl)) ?_; conv => whnf) | (refine CallG.mk _ _ (by first | exact webAt_c cA (.inl rfl)) ?_; conv => whnf) | (refine Ask.mk (by first | decide | (unfold roomOK; decide)) ?_; conv => whnf) | (refine AppG.mk (by first | decide | (unfold roomOK; decide)) ?_; conv => whnf) | (refine SliceG.fr ?_; conv => whnf) | (refine IdxG.mk _ ⟨by decide, by rfl⟩ ?_; conv => whnf) | (refine RowG.mk _ (by rfl) ?_; conv => whnf) | (refine look_no (by decide +kernel) ?_; conv => whnf) | (refine look_ix 0 (by rfl) (by decide +kernel) ?_; conv => whnf) | (refine look_ix 1 (by rfl) (by decide +kernel) ?_; conv => whnf) | (refine look_ix 2 (by rfl) (by decide +kernel) ?_; conv => whnf) | (refine upd_no (by decide +kernel) ?_; conv => whnf) | (refine LoopG.un 12 ?_; conv => whnf) | fail)
  all_goals first | exact .mk ⟨rfl, rfl⟩ | trace_state
set_option maxRecDepth 100000 in
set_option maxHeartbeats 4000000 in
theorem webPath_c : PCp 48 [.c (.ptr 0 0), .agg [cB, cC, n1]] webO (.tup [.c (.row 4), .c (.bool false)]) (webO ++ [.row 161 4 [[cC, n1, cB, cA]]]) := by
  refine fn_sound (mt := mts) tab_fits tab_mixed Tryz.func48 (by rfl) (by kernel_rfl) (by kernel_rfl) Tryz.results48 (Nat.le_of_ble_eq_true (by kernel_rfl)) ?_
  conv => whnf
  repeat' (first | (refine CondG.mk (fun h => ?_) (fun h => absurd h (by decide +kernel)); clear h; conv => whnf) | (refine CondG.mk (fun h => absurd h (by decide +kernel)) (fun h => ?_); clear h; conv => whnf) | (refine Split.mk (fun h => ?_) (fun h => absurd h (by decide +kernel)); clear h; conv => whnf) | (refine Split.mk (fun h => absurd h (by decide +kernel)) (fun h => ?_); clear h; conv => whnf) | (refine CallX.mk _ _ (by first | exact webHop_c | exact webNext_c) ?_; conv => whnf) | (refine CallG.mk _ _ (by first | exact webHop_c | exact webNext_c) ?_; conv => whnf) | (refine Ask.mk (by first | decide | (unfold roomOK; decide)) ?_; conv => whnf) | (refine AppG.mk (by first | decide | (unfold roomOK; decide)) ?_; conv => whnf) | (refine SliceG.fr ?_; conv => whnf) | (refine IdxG.mk _ ⟨by decide, by rfl⟩ ?_; conv => whnf) | (refine RowG.mk _ (by rfl) ?_; conv => whnf) | (refine look_no (by decide +kernel) ?_; conv => whnf) | (refine look_ix 0 (by rfl) (by decide +kernel) ?_; conv => whnf) | (refine look_ix 1 (by rfl) (by decide +kernel) ?_; conv => whnf) | (refine look_ix 2 (by rfl) (by decide +kernel) ?_; conv => whnf) | (refine upd_no (by decide +kernel) ?_; conv => whnf) | (refine LoopG.un 12 ?_; conv => whnf) | fail)
  all_goals first | exact .mk ⟨rfl, rfl⟩ | trace_state
set_option maxRecDepth 100000 in
set_option maxHeartbeats 4000000 in
theorem path_c : PCp 30 [.agg tinyL, .agg [cC, n1], .c cB] [] (.tup [.c (.row 0), .c (.int .i64 0)]) [.row 161 4 [[cC, n1, cB, cA]]] := by
  refine fn_sound (mt := mts) tab_fits tab_mixed Tryz.func30 (by rfl) (by kernel_rfl) (by kernel_rfl) Tryz.results30 (Nat.le_of_ble_eq_true (by kernel_rfl)) ?_
  conv => whnf
  repeat' (first | (refine CondG.mk (fun h => ?_) (fun h => absurd h (by decide +kernel)); clear h; conv => whnf) | (refine CondG.mk (fun h => absurd h (by decide +kernel)) (fun h => ?_); clear h; conv => whnf) | (refine Split.mk (fun h => ?_) (fun h => absurd h (by decide +kernel)); clear h; conv => whnf) | (refine Split.mk (fun h => absurd h (by decide +kernel)) (fun h => ?_); clear h; conv => whnf) | (refine CallX.mk _ _ (by first | exact endOf_c | exact webAt_c cB (.inr rfl) | exact webPath_c) ?_; conv => whnf) | (refine CallG.mk _ _ (by first | exact endOf_c | exact webAt_c cB (.inr rfl) | exact webPath_c) ?_; conv => whnf) | (refine Ask.mk (by first | decide | (unfold roomOK; decide)) ?_; conv => whnf) | (refine AppG.mk (by first | decide | (unfold roomOK; decide)) ?_; conv => whnf) | (refine SliceG.fr ?_; conv => whnf) | (refine IdxG.mk _ ⟨by decide, by rfl⟩ ?_; conv => whnf) | (refine RowG.mk _ (by rfl) ?_; conv => whnf) | (refine look_no (by decide +kernel) ?_; conv => whnf) | (refine look_ix 0 (by rfl) (by decide +kernel) ?_; conv => whnf) | (refine look_ix 1 (by rfl) (by decide +kernel) ?_; conv => whnf) | (refine look_ix 2 (by rfl) (by decide +kernel) ?_; conv => whnf) | (refine upd_no (by decide +kernel) ?_; conv => whnf) | (refine LoopG.un 12 ?_; conv => whnf) | fail)
  all_goals first | exact .mk ⟨rfl, rfl⟩ | trace_state
end Go.Proofs.YtlifcpcfhkpejaaGreat

/- A trace of one step, by constants. -/
namespace Go.Proofs.YtlifcpcfhkpejaaGreat
set_option linter.unusedVariables false
set_option linter.unusedSimpArgs false
open Abs

abbrev trP : V := .lst 1 [[.int .i64 10], [.int .i64 10], [.int .i64 4], [.int .i64 4]]
abbrev trR : List V := [.int .i64 5, .int .i64 2, .int .i64 3, .int .i64 0, .int .i64 1]
set_option maxRecDepth 100000 in
set_option maxHeartbeats 4000000 in
theorem isReading_c (n : Int) (h : -10000 ≤ n ∧ n ≤ 10000) : PCp 26 [.c (.int .i64 n)] [] (.c (.bool true)) [] := by
  refine fn_sound (mt := mts) tab_fits tab_mixed Tryz.func26 (by rfl) (by kernel_rfl) (by kernel_rfl) Tryz.results26 (Nat.le_of_ble_eq_true (by kernel_rfl)) ?_
  conv => whnf
  repeat' (first | ((first | refine Split.mk (fun h => ?_) (fun h => ?_) | refine CondG.mk (fun h => ?_) (fun h => ?_)) <;> (try simp only [decide_eq_true_eq, decide_eq_false_iff_not, Bool.not_eq_true', Bool.not_eq_false', beq_iff_eq, beq_eq_false_iff_ne, bne_iff_ne, bne_eq_false_iff_eq] at h) <;> (first | (exfalso; first | omega | exact h trivial) | (conv => whnf))) | (refine CallX.mk _ _ (by first | exact bOut_pc _ _ _) ?_; conv => whnf) | (refine CallG.mk _ _ (by first | exact bOut_pc _ _ _) ?_; conv => whnf) | (refine Ask.mk (by first | omega | (unfold roomOK; simp [cutRows]; done) | (unfold roomOK; simp [cutRows]; omega) | (simp [cutRows]; done) | (simp [cutRows]; omega)) ?_; conv => whnf) | (refine AppG.mk (by first | omega | (unfold roomOK; simp [cutRows]; done) | (unfold roomOK; simp [cutRows]; omega) | (simp [cutRows]; done) | (simp [cutRows]; omega)) ?_; conv => whnf) | (refine SliceG.fr ?_; conv => whnf) | (refine idx_at _ (by with_reducible rfl) (by first | assumption | omega) ?_; conv => whnf) | ((with_reducible refine row_map (by first | assumption | omega) ?_); conv => whnf) | ((with_reducible refine row_set (by first | assumption | omega | (simp only [List.length_set]; omega) | (simp; omega)) ?_); conv => whnf) | fail)
  exact finb (by simp; omega)
set_option maxRecDepth 100000 in
set_option maxHeartbeats 4000000 in
theorem checkTrace_c : PCp 9 [.c trP] [] (.c (.int .i64 0)) [] := by
  refine fn_sound (mt := mts) tab_fits tab_mixed Tryz.func9 (by rfl) (by kernel_rfl) (by kernel_rfl) Tryz.results9 (Nat.le_of_ble_eq_true (by kernel_rfl)) ?_
  conv => whnf
  repeat' (first | (refine CondG.mk (fun h => ?_) (fun h => absurd h (by decide +kernel)); clear h; conv => whnf) | (refine CondG.mk (fun h => absurd h (by decide +kernel)) (fun h => ?_); clear h; conv => whnf) | (refine Split.mk (fun h => ?_) (fun h => absurd h (by decide +kernel)); clear h; conv => whnf) | (refine Split.mk (fun h => absurd h (by decide +kernel)) (fun h => ?_); clear h; conv => whnf) | (refine CallX.mk _ _ (by first | exact isReading_c _ (by decide)) ?_; conv => whnf) | (refine CallG.mk _ _ (by first | exact isReading_c _ (by decide)) ?_; conv => whnf) | (refine Ask.mk (by first | decide | (unfold roomOK; decide)) ?_; conv => whnf) | (refine AppG.mk (by first | decide | (unfold roomOK; decide)) ?_; conv => whnf) | (refine SliceG.fr ?_; conv => whnf) | (refine IdxG.mk _ ⟨by decide, by rfl⟩ ?_; conv => whnf) | (refine RowG.mk _ (by rfl) ?_; conv => whnf) | (refine look_no (by decide +kernel) ?_; conv => whnf) | (refine look_ix 0 (by rfl) (by decide +kernel) ?_; conv => whnf) | (refine look_ix 1 (by rfl) (by decide +kernel) ?_; conv => whnf) | (refine look_ix 2 (by rfl) (by decide +kernel) ?_; conv => whnf) | (refine upd_no (by decide +kernel) ?_; conv => whnf) | (refine LoopG.un 12 ?_; conv => whnf) | fail)
  all_goals first | exact .mk ⟨rfl, rfl⟩ | trace_state
theorem sboolT {a b : Bool} (h : a = b) : oneOf [S.c (.bool a)] = S.c (.bool b) := by rw [h]; rfl
set_option maxRecDepth 100000 in
set_option maxHeartbeats 4000000 in
theorem bLowest_c : PCp 93 [.agg [.int .i64 0, .int .i64 1]] [] (.c (.bool true)) [] := by
  refine fn_sound (mt := mts) tab_fits tab_mixed Tryz.func93 (by rfl) (by kernel_rfl) (by kernel_rfl) Tryz.results93 (Nat.le_of_ble_eq_true (by kernel_rfl)) ?_
  conv => whnf
  repeat' (first | (refine CondG.mk (fun h => ?_) (fun h => absurd h (by decide +kernel)); clear h; conv => whnf) | (refine CondG.mk (fun h => absurd h (by decide +kernel)) (fun h => ?_); clear h; conv => whnf) | (refine Split.mk (fun h => ?_) (fun h => absurd h (by decide +kernel)); clear h; conv => whnf) | (refine Split.mk (fun h => absurd h (by decide +kernel)) (fun h => ?_); clear h; conv => whnf) | (refine Ask.mk (by first | decide | (unfold roomOK; decide)) ?_; conv => whnf) | (refine AppG.mk (by first | decide | (unfold roomOK; decide)) ?_; conv => whnf) | (refine SliceG.fr ?_; conv => whnf) | (refine IdxG.mk _ ⟨by decide, by rfl⟩ ?_; conv => whnf) | (refine RowG.mk _ (by rfl) ?_; conv => whnf) | (refine look_no (by decide +kernel) ?_; conv => whnf) | (refine look_ix 0 (by rfl) (by decide +kernel) ?_; conv => whnf) | (refine look_ix 1 (by rfl) (by decide +kernel) ?_; conv => whnf) | (refine look_ix 2 (by rfl) (by decide +kernel) ?_; conv => whnf) | (refine upd_no (by decide +kernel) ?_; conv => whnf) | (refine LoopG.un 12 ?_; conv => whnf) | fail)
  all_goals first | exact .mk ⟨rfl, rfl⟩ | exact .mk ⟨sboolT (by decide +kernel), rfl⟩ | trace_state
set_option maxRecDepth 100000 in
set_option maxHeartbeats 4000000 in
theorem checkRules_c : PCp 60 [.agg trR] [] (.c (.int .i64 0)) [] := by
  refine fn_sound (mt := mts) tab_fits tab_mixed Tryz.func60 (by rfl) (by kernel_rfl) (by kernel_rfl) Tryz.results60 (Nat.le_of_ble_eq_true (by kernel_rfl)) ?_
  conv => whnf
  repeat' (first | (refine CondG.mk (fun h => ?_) (fun h => absurd h (by decide +kernel)); clear h; conv => whnf) | (refine CondG.mk (fun h => absurd h (by decide +kernel)) (fun h => ?_); clear h; conv => whnf) | (refine Split.mk (fun h => ?_) (fun h => absurd h (by decide +kernel)); clear h; conv => whnf) | (refine Split.mk (fun h => absurd h (by decide +kernel)) (fun h => ?_); clear h; conv => whnf) | (refine CallX.mk _ _ (by first | exact bOut_pc _ _ _ | exact bLowest_c) ?_; conv => whnf) | (refine CallG.mk _ _ (by first | exact bOut_pc _ _ _ | exact bLowest_c) ?_; conv => whnf) | (refine Ask.mk (by first | decide | (unfold roomOK; decide)) ?_; conv => whnf) | (refine AppG.mk (by first | decide | (unfold roomOK; decide)) ?_; conv => whnf) | (refine SliceG.fr ?_; conv => whnf) | (refine IdxG.mk _ ⟨by decide, by rfl⟩ ?_; conv => whnf) | (refine RowG.mk _ (by rfl) ?_; conv => whnf) | (refine look_no (by decide +kernel) ?_; conv => whnf) | (refine look_ix 0 (by rfl) (by decide +kernel) ?_; conv => whnf) | (refine look_ix 1 (by rfl) (by decide +kernel) ?_; conv => whnf) | (refine look_ix 2 (by rfl) (by decide +kernel) ?_; conv => whnf) | (refine upd_no (by decide +kernel) ?_; conv => whnf) | (refine LoopG.un 12 ?_; conv => whnf) | fail)
  all_goals first | exact .mk ⟨rfl, rfl⟩ | trace_state
set_option maxRecDepth 100000 in
set_option maxHeartbeats 4000000 in
theorem traceFault_c : PCp 35 [.c trP, .agg trR] [] (.c (.int .i64 0)) [] := by
  refine fn_sound (mt := mts) tab_fits tab_mixed Tryz.func35 (by rfl) (by kernel_rfl) (by kernel_rfl) Tryz.results35 (Nat.le_of_ble_eq_true (by kernel_rfl)) ?_
  conv => whnf
  repeat' (first | (refine CondG.mk (fun h => ?_) (fun h => absurd h (by decide +kernel)); clear h; conv => whnf) | (refine CondG.mk (fun h => absurd h (by decide +kernel)) (fun h => ?_); clear h; conv => whnf) | (refine Split.mk (fun h => ?_) (fun h => absurd h (by decide +kernel)); clear h; conv => whnf) | (refine Split.mk (fun h => absurd h (by decide +kernel)) (fun h => ?_); clear h; conv => whnf) | (refine CallX.mk _ _ (by first | exact checkTrace_c | exact checkRules_c | exact first_pc [0, 0] (by decide)) ?_; conv => whnf) | (refine CallG.mk _ _ (by first | exact checkTrace_c | exact checkRules_c | exact first_pc [0, 0] (by decide)) ?_; conv => whnf) | (refine Ask.mk (by first | decide | (unfold roomOK; decide)) ?_; conv => whnf) | (refine AppG.mk (by first | decide | (unfold roomOK; decide)) ?_; conv => whnf) | (refine SliceG.fr ?_; conv => whnf) | (refine IdxG.mk _ ⟨by decide, by rfl⟩ ?_; conv => whnf) | (refine RowG.mk _ (by rfl) ?_; conv => whnf) | (refine look_no (by decide +kernel) ?_; conv => whnf) | (refine look_ix 0 (by rfl) (by decide +kernel) ?_; conv => whnf) | (refine look_ix 1 (by rfl) (by decide +kernel) ?_; conv => whnf) | (refine look_ix 2 (by rfl) (by decide +kernel) ?_; conv => whnf) | (refine upd_no (by decide +kernel) ?_; conv => whnf) | (refine LoopG.un 12 ?_; conv => whnf) | fail)
  all_goals first | exact .mk ⟨rfl, rfl⟩ | trace_state
set_option maxRecDepth 100000 in
set_option maxHeartbeats 4000000 in
theorem sum_c1 : PCp 61 [.c (.lst 1 [[.int .i64 10], [.int .i64 10]])] [] (.c (.int .i64 20)) [] := by
  refine fn_sound (mt := mts) tab_fits tab_mixed Tryz.func61 (by rfl) (by kernel_rfl) (by kernel_rfl) Tryz.results61 (Nat.le_of_ble_eq_true (by kernel_rfl)) ?_
  conv => whnf
  repeat' (first | (refine CondG.mk (fun h => ?_) (fun h => absurd h (by decide +kernel)); clear h; conv => whnf) | (refine CondG.mk (fun h => absurd h (by decide +kernel)) (fun h => ?_); clear h; conv => whnf) | (refine Split.mk (fun h => ?_) (fun h => absurd h (by decide +kernel)); clear h; conv => whnf) | (refine Split.mk (fun h => absurd h (by decide +kernel)) (fun h => ?_); clear h; conv => whnf) | (refine Ask.mk (by first | decide | (unfold roomOK; decide)) ?_; conv => whnf) | (refine AppG.mk (by first | decide | (unfold roomOK; decide)) ?_; conv => whnf) | (refine SliceG.fr ?_; conv => whnf) | (refine IdxG.mk _ ⟨by decide, by rfl⟩ ?_; conv => whnf) | (refine RowG.mk _ (by rfl) ?_; conv => whnf) | (refine look_no (by decide +kernel) ?_; conv => whnf) | (refine look_ix 0 (by rfl) (by decide +kernel) ?_; conv => whnf) | (refine look_ix 1 (by rfl) (by decide +kernel) ?_; conv => whnf) | (refine look_ix 2 (by rfl) (by decide +kernel) ?_; conv => whnf) | (refine upd_no (by decide +kernel) ?_; conv => whnf) | (refine LoopG.un 12 ?_; conv => whnf) | fail)
  all_goals first | exact .mk ⟨rfl, rfl⟩ | trace_state
set_option maxRecDepth 100000 in
set_option maxHeartbeats 4000000 in
theorem sum_c2 : PCp 61 [.c (.lst 1 [[.int .i64 4], [.int .i64 4]])] [] (.c (.int .i64 8)) [] := by
  refine fn_sound (mt := mts) tab_fits tab_mixed Tryz.func61 (by rfl) (by kernel_rfl) (by kernel_rfl) Tryz.results61 (Nat.le_of_ble_eq_true (by kernel_rfl)) ?_
  conv => whnf
  repeat' (first | (refine CondG.mk (fun h => ?_) (fun h => absurd h (by decide +kernel)); clear h; conv => whnf) | (refine CondG.mk (fun h => absurd h (by decide +kernel)) (fun h => ?_); clear h; conv => whnf) | (refine Split.mk (fun h => ?_) (fun h => absurd h (by decide +kernel)); clear h; conv => whnf) | (refine Split.mk (fun h => absurd h (by decide +kernel)) (fun h => ?_); clear h; conv => whnf) | (refine Ask.mk (by first | decide | (unfold roomOK; decide)) ?_; conv => whnf) | (refine AppG.mk (by first | decide | (unfold roomOK; decide)) ?_; conv => whnf) | (refine SliceG.fr ?_; conv => whnf) | (refine IdxG.mk _ ⟨by decide, by rfl⟩ ?_; conv => whnf) | (refine RowG.mk _ (by rfl) ?_; conv => whnf) | (refine look_no (by decide +kernel) ?_; conv => whnf) | (refine look_ix 0 (by rfl) (by decide +kernel) ?_; conv => whnf) | (refine look_ix 1 (by rfl) (by decide +kernel) ?_; conv => whnf) | (refine look_ix 2 (by rfl) (by decide +kernel) ?_; conv => whnf) | (refine upd_no (by decide +kernel) ?_; conv => whnf) | (refine LoopG.un 12 ?_; conv => whnf) | fail)
  all_goals first | exact .mk ⟨rfl, rfl⟩ | trace_state
set_option maxRecDepth 100000 in
set_option maxHeartbeats 4000000 in
theorem fraction_c : PCp 62 [.c (.int .i64 12), .c (.int .i64 2)] [] (.agg [.int .i64 6, .int .i64 1]) [] := by
  have g : PCp 94 [.c (.int .i64 12), .c (.int .i64 2)] [] (.c (.int .i64 2)) [] := by
    refine fn_sound (mt := mts) tab_fits tab_mixed Tryz.func94 (by rfl) (by kernel_rfl) (by kernel_rfl) Tryz.results94 (Nat.le_of_ble_eq_true (by kernel_rfl)) ?_
    conv => whnf
    repeat' (first | (refine CondG.mk (fun h => ?_) (fun h => absurd h (by decide +kernel)); clear h; conv => whnf) | (refine CondG.mk (fun h => absurd h (by decide +kernel)) (fun h => ?_); clear h; conv => whnf) | (refine Split.mk (fun h => ?_) (fun h => absurd h (by decide +kernel)); clear h; conv => whnf) | (refine Split.mk (fun h => absurd h (by decide +kernel)) (fun h => ?_); clear h; conv => whnf) | (refine Ask.mk (by first | decide | (unfold roomOK; decide)) ?_; conv => whnf) | (refine AppG.mk (by first | decide | (unfold roomOK; decide)) ?_; conv => whnf) | (refine SliceG.fr ?_; conv => whnf) | (refine IdxG.mk _ ⟨by decide, by rfl⟩ ?_; conv => whnf) | (refine RowG.mk _ (by rfl) ?_; conv => whnf) | (refine look_no (by decide +kernel) ?_; conv => whnf) | (refine look_ix 0 (by rfl) (by decide +kernel) ?_; conv => whnf) | (refine look_ix 1 (by rfl) (by decide +kernel) ?_; conv => whnf) | (refine look_ix 2 (by rfl) (by decide +kernel) ?_; conv => whnf) | (refine upd_no (by decide +kernel) ?_; conv => whnf) | (refine LoopG.un 12 ?_; conv => whnf) | fail)
    all_goals first | exact .mk ⟨rfl, rfl⟩ | trace_state
  refine fn_sound (mt := mts) tab_fits tab_mixed Tryz.func62 (by rfl) (by kernel_rfl) (by kernel_rfl) Tryz.results62 (Nat.le_of_ble_eq_true (by kernel_rfl)) ?_
  conv => whnf
  repeat' (first | (refine CondG.mk (fun h => ?_) (fun h => absurd h (by decide +kernel)); clear h; conv => whnf) | (refine CondG.mk (fun h => absurd h (by decide +kernel)) (fun h => ?_); clear h; conv => whnf) | (refine Split.mk (fun h => ?_) (fun h => absurd h (by decide +kernel)); clear h; conv => whnf) | (refine Split.mk (fun h => absurd h (by decide +kernel)) (fun h => ?_); clear h; conv => whnf) | (refine CallX.mk _ _ (by first | exact g) ?_; conv => whnf) | (refine CallG.mk _ _ (by first | exact g) ?_; conv => whnf) | (refine Ask.mk (by first | decide | (unfold roomOK; decide)) ?_; conv => whnf) | (refine AppG.mk (by first | decide | (unfold roomOK; decide)) ?_; conv => whnf) | (refine SliceG.fr ?_; conv => whnf) | (refine IdxG.mk _ ⟨by decide, by rfl⟩ ?_; conv => whnf) | (refine RowG.mk _ (by rfl) ?_; conv => whnf) | (refine look_no (by decide +kernel) ?_; conv => whnf) | (refine look_ix 0 (by rfl) (by decide +kernel) ?_; conv => whnf) | (refine look_ix 1 (by rfl) (by decide +kernel) ?_; conv => whnf) | (refine look_ix 2 (by rfl) (by decide +kernel) ?_; conv => whnf) | (refine upd_no (by decide +kernel) ?_; conv => whnf) | (refine LoopG.un 12 ?_; conv => whnf) | fail)
  all_goals first | exact .mk ⟨rfl, rfl⟩ | trace_state
set_option maxRecDepth 100000 in
set_option maxHeartbeats 4000000 in
theorem excess_c : PCp 36 [.c trP, .agg trR] [] (.c (.row 0)) [.row 30 2 [[.int .i64 6, .int .i64 1]]] := by
  refine fn_sound (mt := mts) tab_fits tab_mixed Tryz.func36 (by rfl) (by kernel_rfl) (by kernel_rfl) Tryz.results36 (Nat.le_of_ble_eq_true (by kernel_rfl)) ?_
  conv => whnf
  repeat' (first | (refine CondG.mk (fun h => ?_) (fun h => absurd h (by decide +kernel)); clear h; conv => whnf) | (refine CondG.mk (fun h => absurd h (by decide +kernel)) (fun h => ?_); clear h; conv => whnf) | (refine Split.mk (fun h => ?_) (fun h => absurd h (by decide +kernel)); clear h; conv => whnf) | (refine Split.mk (fun h => absurd h (by decide +kernel)) (fun h => ?_); clear h; conv => whnf) | (refine CallX.mk _ _ (by first | exact sum_c1 | exact sum_c2 | exact fraction_c) ?_; conv => whnf) | (refine CallG.mk _ _ (by first | exact sum_c1 | exact sum_c2 | exact fraction_c) ?_; conv => whnf) | (refine Ask.mk (by first | decide | (unfold roomOK; decide)) ?_; conv => whnf) | (refine AppG.mk (by first | decide | (unfold roomOK; decide)) ?_; conv => whnf) | (refine SliceG.fr ?_; conv => whnf) | (refine IdxG.mk _ ⟨by decide, by rfl⟩ ?_; conv => whnf) | (refine RowG.mk _ (by rfl) ?_; conv => whnf) | (refine look_no (by decide +kernel) ?_; conv => whnf) | (refine look_ix 0 (by rfl) (by decide +kernel) ?_; conv => whnf) | (refine look_ix 1 (by rfl) (by decide +kernel) ?_; conv => whnf) | (refine look_ix 2 (by rfl) (by decide +kernel) ?_; conv => whnf) | (refine upd_no (by decide +kernel) ?_; conv => whnf) | (refine LoopG.un 12 ?_; conv => whnf) | fail)
  all_goals first | exact .mk ⟨rfl, rfl⟩ | trace_state
set_option maxRecDepth 100000 in
set_option maxHeartbeats 4000000 in
theorem down_c : PCp 38 [.c (.int .i64 13), .c (.int .i64 2)] [] (.c (.int .i64 6)) [] := by
  refine fn_sound (mt := mts) tab_fits tab_mixed Tryz.func38 (by rfl) (by kernel_rfl) (by kernel_rfl) Tryz.results38 (Nat.le_of_ble_eq_true (by kernel_rfl)) ?_
  conv => whnf
  repeat' (first | (refine CondG.mk (fun h => ?_) (fun h => absurd h (by decide +kernel)); clear h; conv => whnf) | (refine CondG.mk (fun h => absurd h (by decide +kernel)) (fun h => ?_); clear h; conv => whnf) | (refine Split.mk (fun h => ?_) (fun h => absurd h (by decide +kernel)); clear h; conv => whnf) | (refine Split.mk (fun h => absurd h (by decide +kernel)) (fun h => ?_); clear h; conv => whnf) | (refine Ask.mk (by first | decide | (unfold roomOK; decide)) ?_; conv => whnf) | (refine AppG.mk (by first | decide | (unfold roomOK; decide)) ?_; conv => whnf) | (refine SliceG.fr ?_; conv => whnf) | (refine IdxG.mk _ ⟨by decide, by rfl⟩ ?_; conv => whnf) | (refine RowG.mk _ (by rfl) ?_; conv => whnf) | (refine look_no (by decide +kernel) ?_; conv => whnf) | (refine look_ix 0 (by rfl) (by decide +kernel) ?_; conv => whnf) | (refine look_ix 1 (by rfl) (by decide +kernel) ?_; conv => whnf) | (refine look_ix 2 (by rfl) (by decide +kernel) ?_; conv => whnf) | (refine upd_no (by decide +kernel) ?_; conv => whnf) | (refine LoopG.un 12 ?_; conv => whnf) | fail)
  all_goals first | exact .mk ⟨rfl, rfl⟩ | trace_state
/-! the run that goes on is told -/
set_option maxRecDepth 100000 in
set_option maxHeartbeats 4000000 in
theorem flush_c : PCp 37 [.c (.ptr 0 0), .c (.ptr 1 0), .c (.ptr 3 0), .c (.ptr 4 0)] [.box [.int .i64 0], .box [.row 2], .row 30 2 [[.int .i64 6, .int .i64 1]], .box [.nils], .box trR] (.tup []) [.box [.int .i64 (-1)], .box [.row 2], .row 30 2 [[.int .i64 6, .int .i64 1]], .box [.row 5], .box trR, .row 44 2 [[.int .i64 10, .int .i64 6]]] := by
  refine fn_sound (mt := mts) tab_fits tab_mixed Tryz.func37 (by rfl) (by kernel_rfl) (by kernel_rfl) Tryz.results37 (Nat.le_of_ble_eq_true (by kernel_rfl)) ?_
  conv => whnf
  repeat' (first | (refine CondG.mk (fun h => ?_) (fun h => absurd h (by decide +kernel)); clear h; conv => whnf) | (refine CondG.mk (fun h => absurd h (by decide +kernel)) (fun h => ?_); clear h; conv => whnf) | (refine Split.mk (fun h => ?_) (fun h => absurd h (by decide +kernel)); clear h; conv => whnf) | (refine Split.mk (fun h => absurd h (by decide +kernel)) (fun h => ?_); clear h; conv => whnf) | (refine CallX.mk _ _ (by first | exact down_c) ?_; conv => whnf) | (refine CallG.mk _ _ (by first | exact down_c) ?_; conv => whnf) | (refine Ask.mk (by first | decide | (unfold roomOK; decide)) ?_; conv => whnf) | (refine AppG.mk (by first | decide | (unfold roomOK; decide)) ?_; conv => whnf) | (refine SliceG.fr ?_; conv => whnf) | (refine IdxG.mk _ ⟨by decide, by rfl⟩ ?_; conv => whnf) | (refine RowG.mk _ (by rfl) ?_; conv => whnf) | (refine look_no (by decide +kernel) ?_; conv => whnf) | (refine look_ix 0 (by rfl) (by decide +kernel) ?_; conv => whnf) | (refine look_ix 1 (by rfl) (by decide +kernel) ?_; conv => whnf) | (refine look_ix 2 (by rfl) (by decide +kernel) ?_; conv => whnf) | (refine upd_no (by decide +kernel) ?_; conv => whnf) | (refine LoopG.un 12 ?_; conv => whnf) | fail)
  all_goals first | exact .mk ⟨rfl, rfl⟩ | trace_state
set_option maxRecDepth 100000 in
set_option maxHeartbeats 4000000 in
theorem detected_c : PCp 12 [.c trP, .agg trR] [] (.tup [.c (.row 0), .c (.int .i64 0)]) [.row 44 2 [[.int .i64 10, .int .i64 6]]] := by
  refine fn_sound (mt := mts) tab_fits tab_mixed Tryz.func12 (by rfl) (by kernel_rfl) (by kernel_rfl) Tryz.results12 (Nat.le_of_ble_eq_true (by kernel_rfl)) ?_
  conv => whnf
  repeat' (first | (refine CondG.mk (fun h => ?_) (fun h => absurd h (by decide +kernel)); clear h; conv => whnf) | (refine CondG.mk (fun h => absurd h (by decide +kernel)) (fun h => ?_); clear h; conv => whnf) | (refine Split.mk (fun h => ?_) (fun h => absurd h (by decide +kernel)); clear h; conv => whnf) | (refine Split.mk (fun h => absurd h (by decide +kernel)) (fun h => ?_); clear h; conv => whnf) | (refine CallX.mk _ _ (by first | exact traceFault_c | exact excess_c | exact flush_c) ?_; conv => whnf) | (refine CallG.mk _ _ (by first | exact traceFault_c | exact excess_c | exact flush_c) ?_; conv => whnf) | (refine Ask.mk (by first | decide | (unfold roomOK; decide)) ?_; conv => whnf) | (refine AppG.mk (by first | decide | (unfold roomOK; decide)) ?_; conv => whnf) | (refine SliceG.fr ?_; conv => whnf) | (refine IdxG.mk _ ⟨by decide, by rfl⟩ ?_; conv => whnf) | (refine RowG.mk _ (by rfl) ?_; conv => whnf) | (refine look_no (by decide +kernel) ?_; conv => whnf) | (refine look_ix 0 (by rfl) (by decide +kernel) ?_; conv => whnf) | (refine look_ix 1 (by rfl) (by decide +kernel) ?_; conv => whnf) | (refine look_ix 2 (by rfl) (by decide +kernel) ?_; conv => whnf) | (refine upd_no (by decide +kernel) ?_; conv => whnf) | (refine LoopG.un 12 ?_; conv => whnf) | fail)
  all_goals first | exact .mk ⟨rfl, rfl⟩ | trace_state
end Go.Proofs.YtlifcpcfhkpejaaGreat

/- Repairs are ordered. -/
namespace Go.Proofs.YtlifcpcfhkpejaaGreat
set_option linter.unusedVariables false
set_option linter.unusedSimpArgs false
open Abs

abbrev MN := SM ByteArray Int
def fl (left : List ByteArray) (x : Sv) : List ByteArray := left.filter fun k => decide (k ∈ x.els)
def gmS (left : List ByteArray) (m : MN) (x : Sv) : MN := match fl left x with | [e] => m.put e (IntKind.i64.wrap ((m.get e).getD 0 + x.cust)) | _ => m
def gm (s : List Sv) (left : List ByteArray) : MN := s.foldl (gmS left) SM.nil
end Go.Proofs.YtlifcpcfhkpejaaGreat

/- Repairs by the document. -/
namespace Go.Proofs.YtlifcpcfhkpejaaGreat
set_option linter.unusedVariables false
set_option linter.unusedSimpArgs false
open Abs

end Go.Proofs.YtlifcpcfhkpejaaGreat

/- The law PlansWeighed, by the abstract walk. -/
namespace Go.Proofs.YtlifcpcfhkpejaaGreat
set_option linter.unusedVariables false
set_option linter.unusedSimpArgs false
open Abs

end Go.Proofs.YtlifcpcfhkpejaaGreat

/- Lists of acts are sorted. -/
namespace Go.Proofs.YtlifcpcfhkpejaaGreat
set_option linter.unusedVariables false
set_option linter.unusedSimpArgs false
open Abs

/-! the length of a small number -/
deriving instance DecidableEq for Ac
end Go.Proofs.YtlifcpcfhkpejaaGreat

/- Acts are made. -/
namespace Go.Proofs.YtlifcpcfhkpejaaGreat
set_option linter.unusedVariables false
set_option linter.unusedSimpArgs false
open Abs

end Go.Proofs.YtlifcpcfhkpejaaGreat

/- A store, as the program follows it. -/
namespace Go.Proofs.YtlifcpcfhkpejaaGreat
set_option linter.unusedVariables false
set_option linter.unusedSimpArgs false
open Abs

structure Sto where
  d : SM ByteArray (ByteArray × Int)
  k : SM ByteArray ByteArray
structure Sto.ok (s : Sto) : Prop where
  d : s.d.ok
  k : s.k.ok
end Go.Proofs.YtlifcpcfhkpejaaGreat

/- What was used, as the program counts it. -/
namespace Go.Proofs.YtlifcpcfhkpejaaGreat
set_option linter.unusedVariables false
set_option linter.unusedSimpArgs false
open Abs

end Go.Proofs.YtlifcpcfhkpejaaGreat

/- The least stock, as the program finds it. -/
namespace Go.Proofs.YtlifcpcfhkpejaaGreat
set_option linter.unusedVariables false
set_option linter.unusedSimpArgs false
open Abs

end Go.Proofs.YtlifcpcfhkpejaaGreat

/- The least stock, as the program finds it: all acts. -/
namespace Go.Proofs.YtlifcpcfhkpejaaGreat
set_option linter.unusedVariables false
set_option linter.unusedSimpArgs false
open Abs

end Go.Proofs.YtlifcpcfhkpejaaGreat

/- The document's store. -/
namespace Go.Proofs.YtlifcpcfhkpejaaGreat
set_option linter.unusedVariables false
set_option linter.unusedSimpArgs false
open Abs

structure Rto where
  l : SM ByteArray Int
  k : SM ByteArray ByteArray
structure Rto.ok (s : Rto) : Prop where
  l : s.l.ok
  k : s.k.ok
end Go.Proofs.YtlifcpcfhkpejaaGreat

/- What was used, by the document. -/
namespace Go.Proofs.YtlifcpcfhkpejaaGreat
set_option linter.unusedVariables false
set_option linter.unusedSimpArgs false
open Abs

end Go.Proofs.YtlifcpcfhkpejaaGreat

/- Stock at a moment, by the document. -/
namespace Go.Proofs.YtlifcpcfhkpejaaGreat
set_option linter.unusedVariables false
set_option linter.unusedSimpArgs false
open Abs

end Go.Proofs.YtlifcpcfhkpejaaGreat

/- Stock at a moment, by the document: the list. -/
namespace Go.Proofs.YtlifcpcfhkpejaaGreat
set_option linter.unusedVariables false
set_option linter.unusedSimpArgs false
open Abs

end Go.Proofs.YtlifcpcfhkpejaaGreat

/- Errors of acts and windows, by the document. -/
namespace Go.Proofs.YtlifcpcfhkpejaaGreat
set_option linter.unusedVariables false
set_option linter.unusedSimpArgs false
open Abs
end Go.Proofs.YtlifcpcfhkpejaaGreat

/- Comparisons, one behind another; sorting by insertion keeps the order of equal ones. -/
namespace Go.Proofs.YtlifcpcfhkpejaaGreat
set_option linter.unusedVariables false
set_option linter.unusedSimpArgs false
open Abs

/-- a comparison -/
structure Cmp {α : Type} (c : α → α → Int) : Prop where
  anti : ∀ a b, c b a = - c a b
  trans : ∀ a b d, c a b ≤ 0 → c b d ≤ 0 → c a d ≤ 0
theorem Cmp.lt {α : Type} {c : α → α → Int} (h : Cmp c) {a b d : α} (h1 : c a b ≤ 0) (h2 : c b d ≤ 0) (h3 : c a b < 0 ∨ c b d < 0) : c a d < 0 := by
  have h4 := h.trans a b d h1 h2
  rcases Int.lt_or_le (c a d) 0 with h5 | h5
  · exact h5
  · have a1 := h.anti a d
    have a2 := h.anti a b
    have a3 := h.anti b d
    rcases h3 with h3 | h3
    · have := h.trans b d a h2 (by omega); omega
    · have := h.trans d a b (by omega) h1; omega
theorem Cmp.swo {α : Type} {c : α → α → Int} (h : Cmp c) : SWOc c where
  irrefl x := by have := h.anti x x; omega
  trans x y z h1 h2 := h.lt (by omega) (by omega) (.inl h1)
  ntrans x y z h1 h2 := by
    have a1 := h.anti x y
    have a2 := h.anti y z
    have a3 := h.anti x z
    have := h.trans z y x (by omega) (by omega)
    omega
end Go.Proofs.YtlifcpcfhkpejaaGreat

/- Strings sorted (a few), and what numbers look like: Itoa by the kit's contract. -/
namespace Go.Proofs.YtlifcpcfhkpejaaGreat
set_option linter.unusedVariables false
set_option linter.unusedSimpArgs false
open Abs

/-! what a function of the library gives that makes new memory of its own -/
theorem Nx.grown {F : Nat → Prop} {φ : Nat → Option Value} {w : World} {N : Nat → Prop} {h : Nat → Option Ob} (k : Nat) (os : Array Obj) : Nx F φ w h N [] F φ (Sort.grow (w.drewN k) os) where
  hF _ h := h
  hφ _ _ h := h
  nφ _ _ h := .inl h
  os := rfl
  tape := rfl
  output := rfl
  drawn _ := Nat.le_add_right _ _
  size := by simp [Sort.grow, World.drewN]
  keep b hb hne := (hne (by simp only [Sort.grow, World.drewN]; rw [Array.getElem?_append_left hb])).elim
  nF b h := .inl h
  objs l o h := by simp [chGet] at h
  own l o b h := by simp [chGet] at h
  inj l l' o o' b h := by simp [chGet] at h
end Go.Proofs.YtlifcpcfhkpejaaGreat

/- What each element affects by itself: the plain part, and sorts. -/
namespace Go.Proofs.YtlifcpcfhkpejaaGreat
set_option linter.unusedVariables false
set_option linter.unusedSimpArgs false
open Abs

/-! elements and customers, one behind another -/
/-! how they are ordered -/
end Go.Proofs.YtlifcpcfhkpejaaGreat

/- What each element affects by itself: walked. -/
namespace Go.Proofs.YtlifcpcfhkpejaaGreat
set_option linter.unusedVariables false
set_option linter.unusedSimpArgs false
open Abs

/-! the program's -/
end Go.Proofs.YtlifcpcfhkpejaaGreat

/- What each element affects by itself, by the document; the law. -/
namespace Go.Proofs.YtlifcpcfhkpejaaGreat
set_option linter.unusedVariables false
set_option linter.unusedSimpArgs false
open Abs

end Go.Proofs.YtlifcpcfhkpejaaGreat

/- The law of repairs. -/
namespace Go.Proofs.YtlifcpcfhkpejaaGreat
set_option linter.unusedVariables false
set_option linter.unusedSimpArgs false
open Abs

end Go.Proofs.YtlifcpcfhkpejaaGreat

/- The packages do something. -/
namespace Go.Proofs.YtlifcpcfhkpejaaGreat
set_option linter.unusedVariables false
set_option linter.unusedSimpArgs false
open Abs

set_option maxRecDepth 100000 in
set_option maxHeartbeats 4000000 in
theorem kerrs_pc (l : List Int) (hl : l.length ≤ 1000000) : PCp 14 [.c (.lst 1 (l.map encI))] [] (.c (.int .i64 (firstErr l))) [] := by
  have hlm : (l.map encI).length = l.length := List.length_map ..
  refine fn_sound (mt := mts) tab_fits tab_mixed Tryz.func14 (by rfl) (by kernel_rfl) (by kernel_rfl) Tryz.results14 (Nat.le_of_ble_eq_true (by kernel_rfl)) ?_
  conv => whnf
  refine loop_count (l.length) [] [5, 6, 7] (fun k (_ : Unit) => ⟨[(5, .c (.lst 1 (l.map encI))), (6, .c (.int .i64 (l.map encI).length)), (7, .c (.int .i64 k))], [], 0⟩) (fun k (_ : Unit) => firstErr (l.drop k) = firstErr l) (()) ?_ ?_ ?_
  · conv => whnf
    exact ⟨rfl, rfl⟩
  · intro k _ hk hi
    rw [drop_cons hk, firstErr] at hi
    conv => whnf
    repeat' (first | ((first | refine Split.mk (fun h => ?_) (fun h => ?_) | refine CondG.mk (fun h => ?_) (fun h => ?_)) <;> (try simp only [decide_eq_true_eq, decide_eq_false_iff_not, Bool.not_eq_true', Bool.not_eq_false', beq_iff_eq, beq_eq_false_iff_ne] at h) <;> (first | (exfalso; first | omega | exact h trivial) | (conv => whnf))) | (refine Ask.mk (by first | omega | (unfold roomOK; simp [cutRows]; done) | (unfold roomOK; simp [cutRows]; omega)) ?_; conv => whnf) | (refine AppG.mk (by first | omega | (unfold roomOK; simp [cutRows]; done) | (unfold roomOK; simp [cutRows]; omega)) ?_; conv => whnf) | (refine SliceG.fr ?_; conv => whnf) | fail)
    refine idx_map k hk rfl ?_
    conv => whnf
    repeat' (first | ((first | refine Split.mk (fun h => ?_) (fun h => ?_) | refine CondG.mk (fun h => ?_) (fun h => ?_)) <;> (try simp only [decide_eq_true_eq, decide_eq_false_iff_not, Bool.not_eq_true', Bool.not_eq_false', beq_iff_eq, beq_eq_false_iff_ne] at h) <;> (first | (exfalso; first | omega | exact h trivial) | (conv => whnf))) | (refine Ask.mk (by first | omega | (unfold roomOK; simp [cutRows]; done) | (unfold roomOK; simp [cutRows]; omega)) ?_; conv => whnf) | (refine AppG.mk (by first | omega | (unfold roomOK; simp [cutRows]; done) | (unfold roomOK; simp [cutRows]; omega)) ?_; conv => whnf) | (refine SliceG.fr ?_; conv => whnf) | fail)
    · exact fini (by rw [← hi, if_neg (by simpa using h)])
    · refine count_next () hk (by rw [wrap_succ hk (by omega)]; rfl) ?_
      rw [← hi, if_pos (by simpa using h)]
  · intro _ hi
    rw [List.drop_of_length_le (Nat.le_refl _)] at hi
    conv => whnf
    repeat' (first | ((first | refine Split.mk (fun h => ?_) (fun h => ?_) | refine CondG.mk (fun h => ?_) (fun h => ?_)) <;> (try simp only [decide_eq_true_eq, decide_eq_false_iff_not, Bool.not_eq_true', Bool.not_eq_false', beq_iff_eq, beq_eq_false_iff_ne] at h) <;> (first | (exfalso; first | omega | exact h trivial) | (conv => whnf))) | (refine Ask.mk (by first | omega | (unfold roomOK; simp [cutRows]; done) | (unfold roomOK; simp [cutRows]; omega)) ?_; conv => whnf) | (refine AppG.mk (by first | omega | (unfold roomOK; simp [cutRows]; done) | (unfold roomOK; simp [cutRows]; omega)) ?_; conv => whnf) | (refine SliceG.fr ?_; conv => whnf) | fail)
    exact fini (by rw [← hi]; rfl)
set_option maxRecDepth 100000 in
set_option maxHeartbeats 4000000 in
theorem ready_pc : PCp 11 [] [] (.c (.bool true)) [] := by
  have h1 : seenErr [⟨⟨#[115]⟩, [⟨#[97]⟩], 1⟩] [⟨#[115]⟩] [] = 0 := by decide +kernel
  have h2 : susV [⟨⟨#[115]⟩, [⟨#[97]⟩], 1⟩] [⟨#[115]⟩] [] = [⟨#[97]⟩] := by decide +kernel
  have hF := suspectsP_pc [⟨⟨#[115]⟩, [⟨#[97]⟩], 1⟩] (by simp) [⟨#[115]⟩] []
  rw [if_pos h1, h2, h1] at hF
  have hG := hF.wk (gs := [.c (.lst 3 ([⟨⟨#[115]⟩, [⟨#[97]⟩], 1⟩].map encSv)), .c (.lst 1 ([⟨#[115]⟩].map encS)), .c .nils]) (P2.cons (.refl _) (P2.cons (.refl _) (P2.cons (.c (.nils 1)) P2.nil)))
  have hm : mostX [⟨⟨#[100]⟩, ⟨#[97]⟩, ⟨#[98]⟩, 1, 100⟩] [] ⟨#[100]⟩ 36 = 3 := by decide +kernel
  have ht : twoE [⟨⟨#[100]⟩, ⟨#[97]⟩, ⟨#[98]⟩, 1, 100⟩] [] ⟨#[100]⟩ 36 = 0 := by decide +kernel
  have hM := dMostX_pc [⟨⟨#[100]⟩, ⟨#[97]⟩, ⟨#[98]⟩, 1, 100⟩] [] (by simp) ⟨#[100]⟩ 36
  rw [hm, ht] at hM
  have hN := hM.wk (gs := [.c (.lst 5 ([⟨⟨#[100]⟩, ⟨#[97]⟩, ⟨#[98]⟩, 1, 100⟩].map encDu)), .c .nils, .c (.str ⟨#[100]⟩), .c (.int .i64 36)]) (P2.cons (.refl _) (P2.cons (.c (.nils 3)) (P2.cons (.refl _) (P2.cons (.refl _) P2.nil))))
  have hS := stock_pc ⟨1, 1, ⟨#[100]⟩, ⟨#[116]⟩, ⟨#[]⟩, 5⟩ rfl (by decide +kernel) 1 (by decide) (by decide)
  refine fn_sound (mt := mts) tab_fits tab_mixed Tryz.func11 (by rfl) (by kernel_rfl) (by kernel_rfl) Tryz.results11 (Nat.le_of_ble_eq_true (by kernel_rfl)) ?_
  conv => whnf
  repeat' (first | (refine CondG.mk (fun h => ?_) (fun h => absurd h (by decide +kernel)); clear h; conv => whnf) | (refine CondG.mk (fun h => absurd h (by decide +kernel)) (fun h => ?_); clear h; conv => whnf) | (refine Split.mk (fun h => ?_) (fun h => absurd h (by decide +kernel)); clear h; conv => whnf) | (refine Split.mk (fun h => absurd h (by decide +kernel)) (fun h => ?_); clear h; conv => whnf) | (refine CallX.mk _ _ (by first | exact tiny_c | exact path_c | exact detected_c | exact hG | exact hN | exact hS | exact kerrs_pc [0, 0, 0, 0, 0] (by decide)) ?_; conv => whnf) | (refine CallG.mk _ _ (by first | exact tiny_c | exact path_c | exact detected_c | exact hG | exact hN | exact hS | exact kerrs_pc [0, 0, 0, 0, 0] (by decide)) ?_; conv => whnf) | (refine Ask.mk (by first | decide | (unfold roomOK; decide)) ?_; conv => whnf) | (refine AppG.mk (by first | decide | (unfold roomOK; decide)) ?_; conv => whnf) | (refine SliceG.fr ?_; conv => whnf) | (refine IdxG.mk _ ⟨by decide, by rfl⟩ ?_; conv => whnf) | (refine RowG.mk _ (by rfl) ?_; conv => whnf) | (refine look_no (by decide +kernel) ?_; conv => whnf) | (refine look_ix 0 (by rfl) (by decide +kernel) ?_; conv => whnf) | (refine look_ix 1 (by rfl) (by decide +kernel) ?_; conv => whnf) | (refine look_ix 2 (by rfl) (by decide +kernel) ?_; conv => whnf) | (refine upd_no (by decide +kernel) ?_; conv => whnf) | (refine LoopG.un 12 ?_; conv => whnf) | fail)
  all_goals first | exact .mk ⟨rfl, rfl⟩ | exact .mk ⟨sbool (by decide +kernel), rfl⟩ | trace_state
end Go.Proofs.YtlifcpcfhkpejaaGreat

/- The law of events that are steps. -/
namespace Go.Proofs.YtlifcpcfhkpejaaGreat
set_option linter.unusedVariables false
set_option linter.unusedSimpArgs false
open Abs

set_option maxRecDepth 100000 in
set_option maxHeartbeats 4000000 in
theorem eqEvS_pc (l : List (Int × Int)) (hl : l.length ≤ 1000000) : PCp 15 [.c (.lst 2 (l.map encQ)), .c (.lst 2 (l.map encQ))] [] (.c (.bool true)) [] := by
  have hlm : (l.map encQ).length = l.length := List.length_map ..
  refine fn_sound (mt := mts) tab_fits tab_mixed Tryz.func15 (by rfl) (by kernel_rfl) (by kernel_rfl) Tryz.results15 (Nat.le_of_ble_eq_true (by kernel_rfl)) ?_
  conv => whnf
  repeat' (first | ((first | refine Split.mk (fun h => ?_) (fun h => ?_) | refine CondG.mk (fun h => ?_) (fun h => ?_)) <;> (try simp only [decide_eq_true_eq, decide_eq_false_iff_not, Bool.not_eq_true', Bool.not_eq_false', beq_iff_eq, beq_eq_false_iff_ne, bne_iff_ne, bne_eq_false_iff_eq] at h) <;> (first | (exfalso; first | omega | exact h trivial | contradiction | (simp_all [eqRes]; done)) | (conv => whnf))) | (refine Ask.mk (by first | omega | (unfold roomOK; simp [cutRows]; done) | (unfold roomOK; simp [cutRows]; omega) | (simp [cutRows]; done) | (simp [cutRows]; omega)) ?_; conv => whnf) | (refine AppG.mk (by first | omega | (unfold roomOK; simp [cutRows]; done) | (unfold roomOK; simp [cutRows]; omega) | (simp [cutRows]; done) | (simp [cutRows]; omega)) ?_; conv => whnf) | (refine SliceG.fr ?_; conv => whnf) | (refine idx_at _ (by with_reducible rfl) (by first | assumption | omega) ?_; conv => whnf) | ((with_reducible refine row_map (by first | assumption | omega) ?_); conv => whnf) | ((with_reducible refine row_set (by first | assumption | omega | (simp only [List.length_set]; omega) | (simp; omega)) ?_); conv => whnf) | fail)
  refine loop_for (l.length) [] [0, 1, 12, 13] (fun k (_ : Unit) => [(13, .c (.int .i64 (k : Int)))]) (fun k (_ : Unit) => []) (fun k (_ : Unit) => True) (()) ?_
  conv => whnf
  refine ⟨(by first | rfl | (simp; done) | (simp; rfl)), (by trivial), ?_, ?_⟩
  · intro k _ hk _
    conv => whnf
    repeat' (first | ((first | refine Split.mk (fun h => ?_) (fun h => ?_) | refine CondG.mk (fun h => ?_) (fun h => ?_)) <;> (try simp only [decide_eq_true_eq, decide_eq_false_iff_not, Bool.not_eq_true', Bool.not_eq_false', beq_iff_eq, beq_eq_false_iff_ne, bne_iff_ne, bne_eq_false_iff_eq] at h) <;> (first | (exfalso; first | omega | exact h trivial | contradiction | (simp_all [eqRes]; done)) | (conv => whnf))) | (refine Ask.mk (by first | omega | (unfold roomOK; simp [cutRows]; done) | (unfold roomOK; simp [cutRows]; omega) | (simp [cutRows]; done) | (simp [cutRows]; omega)) ?_; conv => whnf) | (refine AppG.mk (by first | omega | (unfold roomOK; simp [cutRows]; done) | (unfold roomOK; simp [cutRows]; omega) | (simp [cutRows]; done) | (simp [cutRows]; omega)) ?_; conv => whnf) | (refine SliceG.fr ?_; conv => whnf) | (refine idx_at _ (by with_reducible rfl) (by first | assumption | omega) ?_; conv => whnf) | ((with_reducible refine row_map (by first | assumption | omega) ?_); conv => whnf) | ((with_reducible refine row_set (by first | assumption | omega | (simp only [List.length_set]; omega) | (simp; omega)) ?_); conv => whnf) | fail)
    all_goals exact count_next () hk (by rw [wrap_succ hk (by omega)]; rfl) trivial
  · intro _ _
    conv => whnf
    repeat' (first | ((first | refine Split.mk (fun h => ?_) (fun h => ?_) | refine CondG.mk (fun h => ?_) (fun h => ?_)) <;> (try simp only [decide_eq_true_eq, decide_eq_false_iff_not, Bool.not_eq_true', Bool.not_eq_false', beq_iff_eq, beq_eq_false_iff_ne, bne_iff_ne, bne_eq_false_iff_eq] at h) <;> (first | (exfalso; first | omega | exact h trivial | contradiction | (simp_all [eqRes]; done)) | (conv => whnf))) | (refine Ask.mk (by first | omega | (unfold roomOK; simp [cutRows]; done) | (unfold roomOK; simp [cutRows]; omega) | (simp [cutRows]; done) | (simp [cutRows]; omega)) ?_; conv => whnf) | (refine AppG.mk (by first | omega | (unfold roomOK; simp [cutRows]; done) | (unfold roomOK; simp [cutRows]; omega) | (simp [cutRows]; done) | (simp [cutRows]; omega)) ?_; conv => whnf) | (refine SliceG.fr ?_; conv => whnf) | (refine idx_at _ (by with_reducible rfl) (by first | assumption | omega) ?_; conv => whnf) | ((with_reducible refine row_map (by first | assumption | omega) ?_); conv => whnf) | ((with_reducible refine row_set (by first | assumption | omega | (simp only [List.length_set]; omega) | (simp; omega)) ?_); conv => whnf) | fail)
    all_goals exact .mk ⟨rfl, rfl⟩
end Go.Proofs.YtlifcpcfhkpejaaGreat

/- Events are made; Match by its hand-walked contract. -/
namespace Go.Proofs.YtlifcpcfhkpejaaGreat
set_option linter.unusedVariables false
set_option linter.unusedSimpArgs false
open Abs

theorem evs_fault_pc (l : List (Int × Int)) (hl : l.length ≤ 1000000) : PCp 41 [.c (.lst 2 (l.map encQ))] [] (.c (.int .i64 (Hd.evFault l))) [] := by
  refine pc_int ⟨_, Tryz.func41, by kernel_rfl, by kernel_rfl⟩ fun F φ w cs hp => ?_
  obtain ⟨x, xs, e1, r1, hp⟩ := hp.cons_inv
  have e3 := hp.nil_inv
  subst e3
  obtain ⟨a, cap, rfl, hat, h1, h2⟩ := lst_prs (lst_inv r1)
  rw [show cs = #[.slice a l.length cap] from Array.ext' e1]
  exact Hd.EventsFault_any a _ cap l w rfl (Nat.le_trans h1 h2) hat
theorem match_pc (A B : List (Int × Int)) (near : Int) : PCp 17 [.c (.lst 2 (A.map encQ)), .c (.lst 2 (B.map encQ)), .c (.int .i64 near)] [] (.tup [.c (.row 0), .c (.int .i64 (Hd.mS A B near)), .c (.int .i64 (Hd.mErr A B near))]) [.row 54 2 ((Hd.mpI (Hd.mL A B near)).map encQ)] := by
  refine pc_rowN (tl := [_, _]) ⟨_, Tryz.func17, by kernel_rfl, by kernel_rfl⟩ fun F φ w cs hp => ?_
  obtain ⟨x, xs, e1, r1, hp⟩ := hp.cons_inv
  obtain ⟨y, ys, e2, r2, hp⟩ := hp.cons_inv
  obtain ⟨z, zs, e3, r3, hp⟩ := hp.cons_inv
  have e4 := hp.nil_inv
  subst e4 e3 e2
  obtain ⟨a, ca, rfl, hA, a1, a2⟩ := lst_prs (lst_inv r1)
  obtain ⟨b, cb, rfl, hB, b1, b2⟩ := lst_prs (lst_inv r2)
  have := r3.int_inv
  subst this
  rw [show cs = #[.slice a A.length ca, .slice b B.length cb, .int .i64 near] from Array.ext' e1]
  refine (Hd.match_any a b ca cb A B near w hA hB (Nat.le_trans a1 a2) (Nat.le_trans b1 b2)).mono ?_
  rintro e w' ⟨a', c', rfl, h1, h2⟩
  rw [Hd.mpI_len]
  exact ⟨a', c', rfl, h1, h2⟩
/-! events, as functions of the stream -/
def evStep (L : List Int) (_ : Nat) (a : Gs (Int × Int)) : Gs (Int × Int) :=
  ⟨a.l ++ [(IntKind.i64.wrap (a.n + pickV L a.q [0, 1, 3, 10, 40]), pickV L (a.q + 1) [5, 7, 20, -3])], IntKind.i64.wrap (a.n + pickV L a.q [0, 1, 3, 10, 40]), a.q + 1 + 1⟩
def evIter (L : List Int) (p : Int) (k : Nat) : Gs (Int × Int) := iterN (evStep L) k ⟨[], 0, p + 1⟩
theorem evIter_bd (L : List Int) (p : Int) : ∀ k, (evIter L p k).l.length = k ∧ p + 1 ≤ (evIter L p k).q ∧ (evIter L p k).q ≤ p + 1 + 2 * k
  | 0 => by simp [evIter, iterN]
  | k + 1 => by
    have ih := evIter_bd L p k
    have e : evIter L p (k + 1) = evStep L k (evIter L p k) := rfl
    rw [e]
    generalize evIter L p k = a at *
    unfold evStep
    simp only [List.length_append, List.length_singleton]; omega
def evEnd (L : List Int) (a : Gs (Int × Int)) : List (Int × Int) × Int :=
  if 0 < a.l.length then (if nextV L a.q 12 == 0 then (a.l.set (nextV L (a.q + 1) (a.l.length : Nat)).toNat (pickV L (a.q + 1 + 1) [0, -1, 1000000, 1000001], pickV L (a.q + 1 + 1 + 1) [1, 10001, -10000]), a.q + 1 + 1 + 1 + 1) else (a.l, a.q + 1)) else (a.l, a.q)
def evListV (L : List Int) (p most : Int) : List (Int × Int) × Int := evEnd L (evIter L p (rangeV L p 0 most).toNat)
theorem evListV_bd (L : List Int) (p most : Int) (h0 : 0 ≤ most) : (evListV L p most).1.length ≤ most.toNat ∧ p ≤ (evListV L p most).2 ∧ (evListV L p most).2 ≤ p + 5 + 2 * most := by
  have hr := rangeV_in L p 0 most h0
  have := evIter_bd L p (rangeV L p 0 most).toNat
  unfold evListV
  generalize evIter L p (rangeV L p 0 most).toNat = a at *
  unfold evEnd
  (repeat' split) <;> simp only [List.length_set] <;> omega
set_option maxRecDepth 100000 in
set_option maxHeartbeats 4000000 in
theorem rEvList_pc {L : List Int} {p : Int} (hst : StOk L p) (hp : p ≤ 800000000) (most : Int) (hm : 0 ≤ most ∧ most ≤ 100) :
    PCp 40 [.c (.ptr 0 0), .c (.int .i64 most)] [stO L p] (.c (.lst 2 ((evListV L p most).1.map encQ))) [stO L (evListV L p most).2] := by
  have hS : ∀ x : Int, p ≤ x → x ≤ p + 500 → StOk L x := fun x h3 h4 => ⟨hst.1, by have := hst.2.1; omega, by omega⟩
  have hr := rangeV_in L p 0 most (by omega)
  have hV : evListV L p most = evEnd L (evIter L p (rangeV L p 0 most).toNat) := rfl
  obtain ⟨n, hn⟩ := Int.eq_ofNat_of_zero_le hr.1
  rw [hn, Int.toNat_natCast] at hV
  rw [hV]
  clear hV
  have hQ0 : ∀ x : Int, p ≤ x → x ≤ p + 14 → StOk L x := fun x h3 h4 => hS x (by omega) (by omega)
  have hB := evIter_bd L p
  refine fn_sound (mt := mts) tab_fits tab_mixed Tryz.func40 (by rfl) (by kernel_rfl) (by kernel_rfl) Tryz.results40 (Nat.le_of_ble_eq_true (by kernel_rfl)) ?_
  conv => whnf
  repeat' (first | ((first | refine Split.mk (fun h => ?_) (fun h => ?_) | refine CondG.mk (fun h => ?_) (fun h => ?_)) <;> (try simp only [decide_eq_true_eq, decide_eq_false_iff_not, Bool.not_eq_true', Bool.not_eq_false', beq_iff_eq, beq_eq_false_iff_ne, bne_iff_ne, bne_eq_false_iff_eq] at h) <;> (first | (exfalso; first | omega | exact h trivial) | (conv => whnf))) | (refine CallX.mk _ _ (by first | exact range_ok (hQ0 _ (by omega) (by omega)) 0 most (by omega) (small_lit (by omega)) (small_lit (by omega))) ?_; conv => whnf) | (refine CallG.mk _ _ (by first | exact range_ok (hQ0 _ (by omega) (by omega)) 0 most (by omega) (small_lit (by omega)) (small_lit (by omega))) ?_; conv => whnf) | (refine Ask.mk (by first | omega | (unfold roomOK; simp [cutRows]; done) | (unfold roomOK; simp [cutRows]; omega) | (simp [cutRows]; done) | (simp [cutRows]; omega)) ?_; conv => whnf) | (refine AppG.mk (by first | omega | (unfold roomOK; simp [cutRows]; done) | (unfold roomOK; simp [cutRows]; omega) | (simp [cutRows]; done) | (simp [cutRows]; omega)) ?_; conv => whnf) | (refine SliceG.fr ?_; conv => whnf) | (refine idx_at _ (by with_reducible rfl) (by first | assumption | omega) ?_; conv => whnf) | ((with_reducible refine row_map (by first | assumption | omega) ?_); conv => whnf) | ((with_reducible refine row_set (by first | assumption | omega | (simp only [List.length_set]; omega) | (simp; omega)) ?_); conv => whnf) | fail)
  rw [hn]
  refine loop_for (n) [.sl 5 44 2] [0, 5, 6, 9, 10] (fun k (_ : Unit) => [(6, .c (.int .i64 (evIter L p k).n)), (10, .c (.int .i64 (k : Int)))]) (fun k (_ : Unit) => [(0, stO L (evIter L p k).q), (1, .row 44 2 ((evIter L p k).l.map encQ))]) (fun k (_ : Unit) => True) (()) ?_
  conv => whnf
  refine ⟨(by first | rfl | (simp; done) | (simp; rfl)), (by trivial), ?_, ?_⟩
  · intro k _ hk _
    have hbk := hB k
    have e : evIter L p (k + 1) = evStep L k (evIter L p k) := rfl
    generalize evIter L p k = a at *
    obtain ⟨d, nw, q⟩ := a
    simp only at hbk ⊢
    have hlm : (d.map encQ).length = d.length := List.length_map ..
    have hQ : ∀ x : Int, q ≤ x → x ≤ q + 14 → StOk L x := fun x h3 h4 => hS x (by omega) (by omega)
    conv => whnf
    repeat' (first | ((first | refine Split.mk (fun h => ?_) (fun h => ?_) | refine CondG.mk (fun h => ?_) (fun h => ?_)) <;> (try simp only [decide_eq_true_eq, decide_eq_false_iff_not, Bool.not_eq_true', Bool.not_eq_false', beq_iff_eq, beq_eq_false_iff_ne, bne_iff_ne, bne_eq_false_iff_eq] at h) <;> (first | (exfalso; first | omega | exact h trivial | (simp [cutRows] at h; done) | (simp [cutRows] at h; omega)) | (conv => whnf))) | (refine CallX.mk _ _ (by first | exact flip_ok (hQ _ (by omega) (by omega)) _ (by omega) | exact next_ok (hQ _ (by omega) (by omega)) _ (by omega) | exact range_ok (hQ _ (by omega) (by omega)) _ _ (by omega) (small_lit (by omega)) (small_lit (by omega)) | exact odd_ok (hQ _ (by omega) (by omega)) (hQ _ (by omega) (by omega)) _ _ (small_lit (by omega)) (small_lit (by omega)) (by omega) | exact pick_ok (hQ _ (by omega) (by omega)) [_] (by simp) (by simp) | exact pick_ok (hQ _ (by omega) (by omega)) [_, _] (by simp) (by simp) | exact pick_ok (hQ _ (by omega) (by omega)) [_, _, _] (by simp) (by simp) | exact pick_ok (hQ _ (by omega) (by omega)) [_, _, _, _] (by simp) (by simp) | exact pick_ok (hQ _ (by omega) (by omega)) [_, _, _, _, _] (by simp) (by simp) | exact pick_ok (hQ _ (by omega) (by omega)) [_, _, _, _, _, _] (by simp) (by simp) | exact pick_ok (hQ _ (by omega) (by omega)) [_, _, _, _, _, _, _] (by simp) (by simp) | exact pick_ok (hQ _ (by omega) (by omega)) [_, _, _, _, _, _, _, _] (by simp) (by simp) | exact pick_ok (hQ _ (by omega) (by omega)) [_, _, _, _, _, _, _, _, _] (by simp) (by simp) | exact pick_ok (hQ _ (by omega) (by omega)) [_, _, _, _, _, _, _, _, _, _] (by simp) (by simp) | exact some_ok (hQ _ (by omega) (by omega)) [_] (by simp) (by simp) | exact some_ok (hQ _ (by omega) (by omega)) [_, _] (by simp) (by simp) | exact some_ok (hQ _ (by omega) (by omega)) [_, _, _] (by simp) (by simp) | exact some_ok (hQ _ (by omega) (by omega)) [_, _, _, _] (by simp) (by simp) | exact some_ok (hQ _ (by omega) (by omega)) [_, _, _, _, _] (by simp) (by simp) | exact some_ok (hQ _ (by omega) (by omega)) [_, _, _, _, _, _] (by simp) (by simp) | exact some_ok (hQ _ (by omega) (by omega)) [_, _, _, _, _, _, _] (by simp) (by simp) | exact some_ok (hQ _ (by omega) (by omega)) [_, _, _, _, _, _, _, _] (by simp) (by simp)) ?_; conv => whnf) | (refine CallG.mk _ _ (by first | exact flip_ok (hQ _ (by omega) (by omega)) _ (by omega) | exact next_ok (hQ _ (by omega) (by omega)) _ (by omega) | exact range_ok (hQ _ (by omega) (by omega)) _ _ (by omega) (small_lit (by omega)) (small_lit (by omega)) | exact odd_ok (hQ _ (by omega) (by omega)) (hQ _ (by omega) (by omega)) _ _ (small_lit (by omega)) (small_lit (by omega)) (by omega) | exact pick_ok (hQ _ (by omega) (by omega)) [_] (by simp) (by simp) | exact pick_ok (hQ _ (by omega) (by omega)) [_, _] (by simp) (by simp) | exact pick_ok (hQ _ (by omega) (by omega)) [_, _, _] (by simp) (by simp) | exact pick_ok (hQ _ (by omega) (by omega)) [_, _, _, _] (by simp) (by simp) | exact pick_ok (hQ _ (by omega) (by omega)) [_, _, _, _, _] (by simp) (by simp) | exact pick_ok (hQ _ (by omega) (by omega)) [_, _, _, _, _, _] (by simp) (by simp) | exact pick_ok (hQ _ (by omega) (by omega)) [_, _, _, _, _, _, _] (by simp) (by simp) | exact pick_ok (hQ _ (by omega) (by omega)) [_, _, _, _, _, _, _, _] (by simp) (by simp) | exact pick_ok (hQ _ (by omega) (by omega)) [_, _, _, _, _, _, _, _, _] (by simp) (by simp) | exact pick_ok (hQ _ (by omega) (by omega)) [_, _, _, _, _, _, _, _, _, _] (by simp) (by simp) | exact some_ok (hQ _ (by omega) (by omega)) [_] (by simp) (by simp) | exact some_ok (hQ _ (by omega) (by omega)) [_, _] (by simp) (by simp) | exact some_ok (hQ _ (by omega) (by omega)) [_, _, _] (by simp) (by simp) | exact some_ok (hQ _ (by omega) (by omega)) [_, _, _, _] (by simp) (by simp) | exact some_ok (hQ _ (by omega) (by omega)) [_, _, _, _, _] (by simp) (by simp) | exact some_ok (hQ _ (by omega) (by omega)) [_, _, _, _, _, _] (by simp) (by simp) | exact some_ok (hQ _ (by omega) (by omega)) [_, _, _, _, _, _, _] (by simp) (by simp) | exact some_ok (hQ _ (by omega) (by omega)) [_, _, _, _, _, _, _, _] (by simp) (by simp)) ?_; conv => whnf) | (refine Ask.mk (by first | omega | (unfold roomOK; simp [cutRows]; done) | (unfold roomOK; simp [cutRows]; omega) | (simp [cutRows]; done) | (simp [cutRows]; omega)) ?_; conv => whnf) | (refine AppG.mk (by first | omega | (unfold roomOK; simp [cutRows]; done) | (unfold roomOK; simp [cutRows]; omega) | (simp [cutRows]; done) | (simp [cutRows]; omega)) ?_; conv => whnf) | (refine SliceG.fr ?_; conv => whnf) | (refine idx_at _ (by with_reducible rfl) (by first | assumption | omega) ?_; conv => whnf) | ((with_reducible refine row_map (by first | assumption | omega) ?_); conv => whnf) | (refine row_str (by rfl) (by first | (simp [cutRows]; done) | (simp [cutRows]; omega)) ?_; intro str; conv => whnf) | ((with_reducible refine row_set (by first | assumption | omega | (simp only [List.length_set]; omega) | (simp; omega)) ?_); conv => whnf) | fail)
    exact count_next () hk (by rw [wrap_succ hk (by omega), e]; unfold evStep; simp only [List.map_append]; rfl) trivial
  · intro _ _
    have hbk := hB n
    generalize evIter L p n = a at *
    obtain ⟨d, nw, q⟩ := a
    simp only at hbk ⊢
    have hlm : (d.map encQ).length = d.length := List.length_map ..
    have hQ : ∀ x : Int, q ≤ x → x ≤ q + 14 → StOk L x := fun x h3 h4 => hS x (by omega) (by omega)
    have ni : 0 < (((d.map encQ).length : Nat) : Int) → 0 ≤ nextV L (q + 1) ((d.map encQ).length : Nat) ∧ nextV L (q + 1) ((d.map encQ).length : Nat) < ((d.map encQ).length : Nat) := fun h => nextV_lt _ _ _ (by omega)
    conv => whnf
    repeat' (first | ((first | refine Split.mk (fun h => ?_) (fun h => ?_) | refine CondG.mk (fun h => ?_) (fun h => ?_)) <;> (try simp only [decide_eq_true_eq, decide_eq_false_iff_not, Bool.not_eq_true', Bool.not_eq_false', beq_iff_eq, beq_eq_false_iff_ne, bne_iff_ne, bne_eq_false_iff_eq] at h) <;> (first | (exfalso; first | omega | exact h trivial | (simp [cutRows] at h; done) | (simp [cutRows] at h; omega)) | (conv => whnf))) | (refine CallX.mk _ _ (by first | exact flip_ok (hQ _ (by omega) (by omega)) _ (by omega) | exact next_ok (hQ _ (by omega) (by omega)) _ (by omega) | exact range_ok (hQ _ (by omega) (by omega)) _ _ (by omega) (small_lit (by omega)) (small_lit (by omega)) | exact odd_ok (hQ _ (by omega) (by omega)) (hQ _ (by omega) (by omega)) _ _ (small_lit (by omega)) (small_lit (by omega)) (by omega) | exact pick_ok (hQ _ (by omega) (by omega)) [_] (by simp) (by simp) | exact pick_ok (hQ _ (by omega) (by omega)) [_, _] (by simp) (by simp) | exact pick_ok (hQ _ (by omega) (by omega)) [_, _, _] (by simp) (by simp) | exact pick_ok (hQ _ (by omega) (by omega)) [_, _, _, _] (by simp) (by simp) | exact pick_ok (hQ _ (by omega) (by omega)) [_, _, _, _, _] (by simp) (by simp) | exact pick_ok (hQ _ (by omega) (by omega)) [_, _, _, _, _, _] (by simp) (by simp) | exact pick_ok (hQ _ (by omega) (by omega)) [_, _, _, _, _, _, _] (by simp) (by simp) | exact pick_ok (hQ _ (by omega) (by omega)) [_, _, _, _, _, _, _, _] (by simp) (by simp) | exact pick_ok (hQ _ (by omega) (by omega)) [_, _, _, _, _, _, _, _, _] (by simp) (by simp) | exact pick_ok (hQ _ (by omega) (by omega)) [_, _, _, _, _, _, _, _, _, _] (by simp) (by simp) | exact some_ok (hQ _ (by omega) (by omega)) [_] (by simp) (by simp) | exact some_ok (hQ _ (by omega) (by omega)) [_, _] (by simp) (by simp) | exact some_ok (hQ _ (by omega) (by omega)) [_, _, _] (by simp) (by simp) | exact some_ok (hQ _ (by omega) (by omega)) [_, _, _, _] (by simp) (by simp) | exact some_ok (hQ _ (by omega) (by omega)) [_, _, _, _, _] (by simp) (by simp) | exact some_ok (hQ _ (by omega) (by omega)) [_, _, _, _, _, _] (by simp) (by simp) | exact some_ok (hQ _ (by omega) (by omega)) [_, _, _, _, _, _, _] (by simp) (by simp) | exact some_ok (hQ _ (by omega) (by omega)) [_, _, _, _, _, _, _, _] (by simp) (by simp)) ?_; conv => whnf) | (refine CallG.mk _ _ (by first | exact flip_ok (hQ _ (by omega) (by omega)) _ (by omega) | exact next_ok (hQ _ (by omega) (by omega)) _ (by omega) | exact range_ok (hQ _ (by omega) (by omega)) _ _ (by omega) (small_lit (by omega)) (small_lit (by omega)) | exact odd_ok (hQ _ (by omega) (by omega)) (hQ _ (by omega) (by omega)) _ _ (small_lit (by omega)) (small_lit (by omega)) (by omega) | exact pick_ok (hQ _ (by omega) (by omega)) [_] (by simp) (by simp) | exact pick_ok (hQ _ (by omega) (by omega)) [_, _] (by simp) (by simp) | exact pick_ok (hQ _ (by omega) (by omega)) [_, _, _] (by simp) (by simp) | exact pick_ok (hQ _ (by omega) (by omega)) [_, _, _, _] (by simp) (by simp) | exact pick_ok (hQ _ (by omega) (by omega)) [_, _, _, _, _] (by simp) (by simp) | exact pick_ok (hQ _ (by omega) (by omega)) [_, _, _, _, _, _] (by simp) (by simp) | exact pick_ok (hQ _ (by omega) (by omega)) [_, _, _, _, _, _, _] (by simp) (by simp) | exact pick_ok (hQ _ (by omega) (by omega)) [_, _, _, _, _, _, _, _] (by simp) (by simp) | exact pick_ok (hQ _ (by omega) (by omega)) [_, _, _, _, _, _, _, _, _] (by simp) (by simp) | exact pick_ok (hQ _ (by omega) (by omega)) [_, _, _, _, _, _, _, _, _, _] (by simp) (by simp) | exact some_ok (hQ _ (by omega) (by omega)) [_] (by simp) (by simp) | exact some_ok (hQ _ (by omega) (by omega)) [_, _] (by simp) (by simp) | exact some_ok (hQ _ (by omega) (by omega)) [_, _, _] (by simp) (by simp) | exact some_ok (hQ _ (by omega) (by omega)) [_, _, _, _] (by simp) (by simp) | exact some_ok (hQ _ (by omega) (by omega)) [_, _, _, _, _] (by simp) (by simp) | exact some_ok (hQ _ (by omega) (by omega)) [_, _, _, _, _, _] (by simp) (by simp) | exact some_ok (hQ _ (by omega) (by omega)) [_, _, _, _, _, _, _] (by simp) (by simp) | exact some_ok (hQ _ (by omega) (by omega)) [_, _, _, _, _, _, _, _] (by simp) (by simp)) ?_; conv => whnf) | (refine Ask.mk (by first | omega | (unfold roomOK; simp [cutRows]; done) | (unfold roomOK; simp [cutRows]; omega) | (simp [cutRows]; done) | (simp [cutRows]; omega)) ?_; conv => whnf) | (refine AppG.mk (by first | omega | (unfold roomOK; simp [cutRows]; done) | (unfold roomOK; simp [cutRows]; omega) | (simp [cutRows]; done) | (simp [cutRows]; omega)) ?_; conv => whnf) | (refine SliceG.fr ?_; conv => whnf) | (refine idx_at _ (by with_reducible rfl) (by first | assumption | omega) ?_; conv => whnf) | ((with_reducible refine row_map (by first | assumption | omega) ?_); conv => whnf) | (refine row_str (by rfl) (by first | (simp [cutRows]; done) | (simp [cutRows]; omega)) ?_; intro str; conv => whnf) | ((with_reducible refine row_set (by first | assumption | omega | (simp only [List.length_set]; omega) | (simp; omega)) ?_); conv => whnf) | fail)
    · have p1 : 0 < d.length := by omega
      have e : evEnd L ⟨d, nw, q⟩ = (d.set (nextV L (q + 1) (d.length : Nat)).toNat (pickV L (q + 1 + 1) [0, -1, 1000000, 1000001], pickV L (q + 1 + 1 + 1) [1, 10001, -10000]), q + 1 + 1 + 1 + 1) := by
        unfold evEnd; rw [if_pos p1, if_pos (by simpa using h)]
      rw [e]
      exact .frz 1 _ _ _ rfl (.weak [_] (.fro 1 _ _ (by simp only [List.length_map, List.map_set]; rfl)) rfl (Nat.le_refl _))
    · have p1 : 0 < d.length := by omega
      have e : evEnd L ⟨d, nw, q⟩ = (d, q + 1) := by
        unfold evEnd; rw [if_pos p1, if_neg (by simpa using h)]
      rw [e]
      exact .frz 1 _ _ _ rfl (.weak [_] (.fro 1 _ _ rfl) rfl (Nat.le_refl _))
    · have e : evEnd L ⟨d, nw, q⟩ = (d, q) := by
        unfold evEnd; rw [if_neg (by simp only; omega)]
      rw [e]
      exact .frz 1 _ _ _ rfl (.weak [_] (.fro 1 _ _ rfl) rfl (Nat.le_refl _))
def rightE (L : List Int) (most : Int) : Nat → Int → List (Int × Int) × Int
  | 0, p => ([], p)
  | k + 1, p => if Hd.evFault (evListV L p most).1 = 0 then evListV L p most else rightE L most k (evListV L p most).2
def rightEV (L : List Int) (p most : Int) : List (Int × Int) × Int := rightE L most 5 p
theorem rightE_bd (L : List Int) (most : Int) (h0 : 0 ≤ most) : ∀ (k : Nat) (p : Int), Hd.evFault (rightE L most k p).1 = 0 ∧ (rightE L most k p).1.length ≤ most.toNat ∧ p ≤ (rightE L most k p).2 ∧ (rightE L most k p).2 ≤ p + (5 + 2 * most) * k
  | 0, p => ⟨show Hd.evFault [] = 0 by decide, by simp [rightE], Int.le_refl _, by simp [rightE]⟩
  | k + 1, p => by
    have b := evListV_bd L p most h0
    have ih := rightE_bd L most h0 k (evListV L p most).2
    have e : (5 + 2 * most) * ((k + 1 : Nat) : Int) = (5 + 2 * most) * k + (5 + 2 * most) := by rw [Int.natCast_succ, Int.mul_add]; omega
    have e2 : 0 ≤ (5 + 2 * most) * (k : Int) := Int.mul_nonneg (by omega) (by omega)
    rw [rightE]
    split
    · rename_i h; exact ⟨h, b.1, b.2.1, by omega⟩
    · exact ⟨ih.1, ih.2.1, by omega, by omega⟩
set_option maxRecDepth 100000 in
set_option maxHeartbeats 4000000 in
theorem rRightE_pc {L : List Int} {p : Int} (hst : StOk L p) (hp : p ≤ 700000000) (most : Int) (hm : 0 ≤ most ∧ most ≤ 100) :
    PCp 16 [.c (.ptr 0 0), .c (.int .i64 most)] [stO L p] (.c (.lst 2 ((rightEV L p most).1.map encQ))) [stO L (rightEV L p most).2] := by
  have hS : ∀ x : Int, p ≤ x → x ≤ p + 3000 → StOk L x := fun x h3 h4 => ⟨hst.1, by have := hst.2.1; omega, by omega⟩
  refine fn_sound (mt := mts) tab_fits tab_mixed Tryz.func16 (by rfl) (by kernel_rfl) (by kernel_rfl) Tryz.results16 (Nat.le_of_ble_eq_true (by kernel_rfl)) ?_
  conv => whnf
  refine loop_for (5) [] [0, 1, 6] (fun k (q : Int) => [(6, .c (.int .i64 (k : Int)))]) (fun k (q : Int) => [(0, stO L q)]) (fun k (q : Int) => (p ≤ q ∧ q ≤ p + 500 * k) ∧ rightE L most (5 - k) q = rightEV L p most) (p) ?_
  conv => whnf
  refine ⟨(by first | rfl | (simp; done) | (simp; rfl)), ?_, ?_, ?_⟩
  · exact ⟨⟨by omega, by omega⟩, rfl⟩
  · intro k q hk ⟨⟨h1, h2⟩, hi⟩
    have hb := evListV_bd L q most (by omega)
    rw [show 5 - k = (5 - (k + 1)) + 1 by omega, rightE] at hi
    have c1 := rEvList_pc (hS q (by omega) (by omega)) (by omega) most hm
    conv => whnf
    repeat' (first | ((first | refine Split.mk (fun h => ?_) (fun h => ?_) | refine CondG.mk (fun h => ?_) (fun h => ?_)) <;> (try simp only [decide_eq_true_eq, decide_eq_false_iff_not, Bool.not_eq_true', Bool.not_eq_false', beq_iff_eq, beq_eq_false_iff_ne, bne_iff_ne, bne_eq_false_iff_eq] at h) <;> (first | (exfalso; first | omega | exact h trivial) | (conv => whnf))) | (refine CallX.mk _ _ (by first | exact c1) ?_; conv => whnf) | (refine CallG.mk _ _ (by first | exact c1) ?_; conv => whnf) | (refine Ask.mk (by first | omega | (unfold roomOK; simp [cutRows]; done) | (unfold roomOK; simp [cutRows]; omega) | (simp [cutRows]; done) | (simp [cutRows]; omega)) ?_; conv => whnf) | (refine AppG.mk (by first | omega | (unfold roomOK; simp [cutRows]; done) | (unfold roomOK; simp [cutRows]; omega) | (simp [cutRows]; done) | (simp [cutRows]; omega)) ?_; conv => whnf) | (refine SliceG.fr ?_; conv => whnf) | (refine idx_at _ (by with_reducible rfl) (by first | assumption | omega) ?_; conv => whnf) | ((with_reducible refine row_map (by first | assumption | omega) ?_); conv => whnf) | ((with_reducible refine row_set (by first | assumption | omega | (simp only [List.length_set]; omega) | (simp; omega)) ?_); conv => whnf) | fail)
    refine .mk _ _ (evs_fault_pc (evListV L q most).1 (by omega)) ?_
    conv => whnf
    repeat' (first | ((first | refine Split.mk (fun h => ?_) (fun h => ?_) | refine CondG.mk (fun h => ?_) (fun h => ?_)) <;> (try simp only [decide_eq_true_eq, decide_eq_false_iff_not, Bool.not_eq_true', Bool.not_eq_false', beq_iff_eq, beq_eq_false_iff_ne, bne_iff_ne, bne_eq_false_iff_eq] at h) <;> (first | (exfalso; first | omega | exact h trivial) | (conv => whnf))) | (refine Ask.mk (by first | omega | (unfold roomOK; simp [cutRows]; done) | (unfold roomOK; simp [cutRows]; omega) | (simp [cutRows]; done) | (simp [cutRows]; omega)) ?_; conv => whnf) | (refine AppG.mk (by first | omega | (unfold roomOK; simp [cutRows]; done) | (unfold roomOK; simp [cutRows]; omega) | (simp [cutRows]; done) | (simp [cutRows]; omega)) ?_; conv => whnf) | (refine SliceG.fr ?_; conv => whnf) | (refine idx_at _ (by with_reducible rfl) (by first | assumption | omega) ?_; conv => whnf) | ((with_reducible refine row_map (by first | assumption | omega) ?_); conv => whnf) | ((with_reducible refine row_set (by first | assumption | omega | (simp only [List.length_set]; omega) | (simp; omega)) ?_); conv => whnf) | fail)
    · rw [if_pos (by assumption)] at hi
      rw [← hi]
      exact .mk ⟨rfl, rfl⟩
    · rw [if_neg (by assumption)] at hi
      exact count_next (evListV L q most).2 hk (by rw [wrap_succ hk (by omega)]; rfl) ⟨⟨by omega, by omega⟩, hi⟩
  · intro q ⟨_, hi⟩
    rw [Nat.sub_self, rightE] at hi
    rw [← hi]
    conv => whnf
    repeat' (first | ((first | refine Split.mk (fun h => ?_) (fun h => ?_) | refine CondG.mk (fun h => ?_) (fun h => ?_)) <;> (try simp only [decide_eq_true_eq, decide_eq_false_iff_not, Bool.not_eq_true', Bool.not_eq_false', beq_iff_eq, beq_eq_false_iff_ne, bne_iff_ne, bne_eq_false_iff_eq] at h) <;> (first | (exfalso; first | omega | exact h trivial) | (conv => whnf))) | (refine Ask.mk (by first | omega | (unfold roomOK; simp [cutRows]; done) | (unfold roomOK; simp [cutRows]; omega) | (simp [cutRows]; done) | (simp [cutRows]; omega)) ?_; conv => whnf) | (refine AppG.mk (by first | omega | (unfold roomOK; simp [cutRows]; done) | (unfold roomOK; simp [cutRows]; omega) | (simp [cutRows]; done) | (simp [cutRows]; omega)) ?_; conv => whnf) | (refine SliceG.fr ?_; conv => whnf) | (refine idx_at _ (by with_reducible rfl) (by first | assumption | omega) ?_; conv => whnf) | ((with_reducible refine row_map (by first | assumption | omega) ?_); conv => whnf) | ((with_reducible refine row_set (by first | assumption | omega | (simp only [List.length_set]; omega) | (simp; omega)) ?_); conv => whnf) | fail)
    all_goals exact .weak [] (.nil 2) rfl (Nat.le_refl _)
end Go.Proofs.YtlifcpcfhkpejaaGreat

/- The law of matched events. -/
namespace Go.Proofs.YtlifcpcfhkpejaaGreat
set_option linter.unusedVariables false
set_option linter.unusedSimpArgs false
open Abs

end Go.Proofs.YtlifcpcfhkpejaaGreat

/- The law of traces that stay. -/
namespace Go.Proofs.YtlifcpcfhkpejaaGreat
set_option linter.unusedVariables false
set_option linter.unusedSimpArgs false
open Abs

def spK {α : Type} (z : α) (l : List α) (k : Nat) : List α := List.replicate k z ++ l.drop k
theorem spK_len {α : Type} (z : α) (l : List α) (k : Nat) (h : k ≤ l.length) : (spK z l k).length = l.length := by unfold spK; simp; omega
theorem spK_set {α : Type} (z : α) (l : List α) (k : Nat) (h : k < l.length) : (spK z l k).set k z = spK z l (k + 1) := by
  unfold spK
  rw [List.set_append, if_neg (by simp), List.length_replicate, Nat.sub_self, List.drop_eq_getElem_cons h, List.set_cons_zero, List.replicate_succ', List.append_assoc]
  rfl
-- spkeep2.spoil at a type: all elements overwritten
set_option maxRecDepth 100000 in
set_option maxHeartbeats 4000000 in
theorem spoilEv_pc (l : List (Int × Int)) (hl : l.length ≤ 1000000) : PCp 19 [.c (.row 0)] [.row 44 2 (l.map encQ)] (.tup []) [.row 44 2 ((spK ((0, 0) : Int × Int) l l.length).map encQ)] := by
  have hlm : (l.map encQ).length = l.length := List.length_map ..
  refine fn_sound (mt := mts) tab_fits tab_mixed Tryz.func19 (by rfl) (by kernel_rfl) (by kernel_rfl) Tryz.results19 (Nat.le_of_ble_eq_true (by kernel_rfl)) ?_
  conv => whnf
  refine loop_for (l.length) [] [0, 2, 5, 6] (fun k (_ : Unit) => [(6, .c (.int .i64 (k : Int)))]) (fun k (_ : Unit) => [(0, .row 44 2 ((spK ((0, 0) : Int × Int) l k).map encQ))]) (fun k (_ : Unit) => True) (()) ?_
  conv => whnf
  refine ⟨(by first | rfl | (simp; done) | (simp; rfl)), (by trivial), ?_, ?_⟩
  · intro k _ hk _
    have hs := spK_len ((0, 0) : Int × Int) l k (by omega)
    have hsm : ((spK ((0, 0) : Int × Int) l k).map encQ).length = l.length := by rw [List.length_map, hs]
    have hset := spK_set ((0, 0) : Int × Int) l k hk
    conv => whnf
    repeat' (first | ((first | refine Split.mk (fun h => ?_) (fun h => ?_) | refine CondG.mk (fun h => ?_) (fun h => ?_)) <;> (try simp only [decide_eq_true_eq, decide_eq_false_iff_not, Bool.not_eq_true', Bool.not_eq_false', beq_iff_eq, beq_eq_false_iff_ne, bne_iff_ne, bne_eq_false_iff_eq] at h) <;> (first | (exfalso; first | omega | exact h trivial) | (conv => whnf))) | (refine Ask.mk (by first | omega | (unfold roomOK; simp [cutRows]; done) | (unfold roomOK; simp [cutRows]; omega) | (simp [cutRows]; done) | (simp [cutRows]; omega)) ?_; conv => whnf) | (refine AppG.mk (by first | omega | (unfold roomOK; simp [cutRows]; done) | (unfold roomOK; simp [cutRows]; omega) | (simp [cutRows]; done) | (simp [cutRows]; omega)) ?_; conv => whnf) | (refine SliceG.fr ?_; conv => whnf) | (refine idx_at _ (by with_reducible rfl) (by first | assumption | omega) ?_; conv => whnf) | ((with_reducible refine row_map (by first | assumption | omega) ?_); conv => whnf) | ((with_reducible refine row_set (by first | assumption | omega | (simp only [List.length_set]; omega) | (simp; omega)) ?_); conv => whnf) | fail)
    all_goals exact count_next () hk (by rw [wrap_succ hk (by omega), ← hset, List.map_set]; rfl) trivial
  · intro _ _
    have hs := spK_len ((0, 0) : Int × Int) l l.length (by omega)
    have hsm : ((spK ((0, 0) : Int × Int) l l.length).map encQ).length = l.length := by rw [List.length_map, hs]
    conv => whnf
    repeat' (first | ((first | refine Split.mk (fun h => ?_) (fun h => ?_) | refine CondG.mk (fun h => ?_) (fun h => ?_)) <;> (try simp only [decide_eq_true_eq, decide_eq_false_iff_not, Bool.not_eq_true', Bool.not_eq_false', beq_iff_eq, beq_eq_false_iff_ne, bne_iff_ne, bne_eq_false_iff_eq] at h) <;> (first | (exfalso; first | omega | exact h trivial) | (conv => whnf))) | (refine Ask.mk (by first | omega | (unfold roomOK; simp [cutRows]; done) | (unfold roomOK; simp [cutRows]; omega) | (simp [cutRows]; done) | (simp [cutRows]; omega)) ?_; conv => whnf) | (refine AppG.mk (by first | omega | (unfold roomOK; simp [cutRows]; done) | (unfold roomOK; simp [cutRows]; omega) | (simp [cutRows]; done) | (simp [cutRows]; omega)) ?_; conv => whnf) | (refine SliceG.fr ?_; conv => whnf) | (refine idx_at _ (by with_reducible rfl) (by first | assumption | omega) ?_; conv => whnf) | ((with_reducible refine row_map (by first | assumption | omega) ?_); conv => whnf) | ((with_reducible refine row_set (by first | assumption | omega | (simp only [List.length_set]; omega) | (simp; omega)) ?_); conv => whnf) | fail)
    all_goals exact .mk ⟨rfl, rfl⟩
-- spkeep2.spoil at a type: all elements overwritten
set_option maxRecDepth 100000 in
set_option maxHeartbeats 4000000 in
theorem spoilFr_pc (l : List (Int × Int)) (hl : l.length ≤ 1000000) : PCp 20 [.c (.row 0)] [.row 30 2 (l.map encQ)] (.tup []) [.row 30 2 ((spK ((0, 0) : Int × Int) l l.length).map encQ)] := by
  have hlm : (l.map encQ).length = l.length := List.length_map ..
  refine fn_sound (mt := mts) tab_fits tab_mixed Tryz.func20 (by rfl) (by kernel_rfl) (by kernel_rfl) Tryz.results20 (Nat.le_of_ble_eq_true (by kernel_rfl)) ?_
  conv => whnf
  refine loop_for (l.length) [] [0, 2, 5, 6] (fun k (_ : Unit) => [(6, .c (.int .i64 (k : Int)))]) (fun k (_ : Unit) => [(0, .row 30 2 ((spK ((0, 0) : Int × Int) l k).map encQ))]) (fun k (_ : Unit) => True) (()) ?_
  conv => whnf
  refine ⟨(by first | rfl | (simp; done) | (simp; rfl)), (by trivial), ?_, ?_⟩
  · intro k _ hk _
    have hs := spK_len ((0, 0) : Int × Int) l k (by omega)
    have hsm : ((spK ((0, 0) : Int × Int) l k).map encQ).length = l.length := by rw [List.length_map, hs]
    have hset := spK_set ((0, 0) : Int × Int) l k hk
    conv => whnf
    repeat' (first | ((first | refine Split.mk (fun h => ?_) (fun h => ?_) | refine CondG.mk (fun h => ?_) (fun h => ?_)) <;> (try simp only [decide_eq_true_eq, decide_eq_false_iff_not, Bool.not_eq_true', Bool.not_eq_false', beq_iff_eq, beq_eq_false_iff_ne, bne_iff_ne, bne_eq_false_iff_eq] at h) <;> (first | (exfalso; first | omega | exact h trivial) | (conv => whnf))) | (refine Ask.mk (by first | omega | (unfold roomOK; simp [cutRows]; done) | (unfold roomOK; simp [cutRows]; omega) | (simp [cutRows]; done) | (simp [cutRows]; omega)) ?_; conv => whnf) | (refine AppG.mk (by first | omega | (unfold roomOK; simp [cutRows]; done) | (unfold roomOK; simp [cutRows]; omega) | (simp [cutRows]; done) | (simp [cutRows]; omega)) ?_; conv => whnf) | (refine SliceG.fr ?_; conv => whnf) | (refine idx_at _ (by with_reducible rfl) (by first | assumption | omega) ?_; conv => whnf) | ((with_reducible refine row_map (by first | assumption | omega) ?_); conv => whnf) | ((with_reducible refine row_set (by first | assumption | omega | (simp only [List.length_set]; omega) | (simp; omega)) ?_); conv => whnf) | fail)
    all_goals exact count_next () hk (by rw [wrap_succ hk (by omega), ← hset, List.map_set]; rfl) trivial
  · intro _ _
    have hs := spK_len ((0, 0) : Int × Int) l l.length (by omega)
    have hsm : ((spK ((0, 0) : Int × Int) l l.length).map encQ).length = l.length := by rw [List.length_map, hs]
    conv => whnf
    repeat' (first | ((first | refine Split.mk (fun h => ?_) (fun h => ?_) | refine CondG.mk (fun h => ?_) (fun h => ?_)) <;> (try simp only [decide_eq_true_eq, decide_eq_false_iff_not, Bool.not_eq_true', Bool.not_eq_false', beq_iff_eq, beq_eq_false_iff_ne, bne_iff_ne, bne_eq_false_iff_eq] at h) <;> (first | (exfalso; first | omega | exact h trivial) | (conv => whnf))) | (refine Ask.mk (by first | omega | (unfold roomOK; simp [cutRows]; done) | (unfold roomOK; simp [cutRows]; omega) | (simp [cutRows]; done) | (simp [cutRows]; omega)) ?_; conv => whnf) | (refine AppG.mk (by first | omega | (unfold roomOK; simp [cutRows]; done) | (unfold roomOK; simp [cutRows]; omega) | (simp [cutRows]; done) | (simp [cutRows]; omega)) ?_; conv => whnf) | (refine SliceG.fr ?_; conv => whnf) | (refine idx_at _ (by with_reducible rfl) (by first | assumption | omega) ?_; conv => whnf) | ((with_reducible refine row_map (by first | assumption | omega) ?_); conv => whnf) | ((with_reducible refine row_set (by first | assumption | omega | (simp only [List.length_set]; omega) | (simp; omega)) ?_); conv => whnf) | fail)
    all_goals exact .mk ⟨rfl, rfl⟩
-- spkeep2.spoil at a type: all elements overwritten
set_option maxRecDepth 100000 in
set_option maxHeartbeats 4000000 in
theorem spoilMa_pc (l : List (Int × Int)) (hl : l.length ≤ 1000000) : PCp 21 [.c (.row 0)] [.row 54 2 (l.map encQ)] (.tup []) [.row 54 2 ((spK ((0, 0) : Int × Int) l l.length).map encQ)] := by
  have hlm : (l.map encQ).length = l.length := List.length_map ..
  refine fn_sound (mt := mts) tab_fits tab_mixed Tryz.func21 (by rfl) (by kernel_rfl) (by kernel_rfl) Tryz.results21 (Nat.le_of_ble_eq_true (by kernel_rfl)) ?_
  conv => whnf
  refine loop_for (l.length) [] [0, 2, 5, 6] (fun k (_ : Unit) => [(6, .c (.int .i64 (k : Int)))]) (fun k (_ : Unit) => [(0, .row 54 2 ((spK ((0, 0) : Int × Int) l k).map encQ))]) (fun k (_ : Unit) => True) (()) ?_
  conv => whnf
  refine ⟨(by first | rfl | (simp; done) | (simp; rfl)), (by trivial), ?_, ?_⟩
  · intro k _ hk _
    have hs := spK_len ((0, 0) : Int × Int) l k (by omega)
    have hsm : ((spK ((0, 0) : Int × Int) l k).map encQ).length = l.length := by rw [List.length_map, hs]
    have hset := spK_set ((0, 0) : Int × Int) l k hk
    conv => whnf
    repeat' (first | ((first | refine Split.mk (fun h => ?_) (fun h => ?_) | refine CondG.mk (fun h => ?_) (fun h => ?_)) <;> (try simp only [decide_eq_true_eq, decide_eq_false_iff_not, Bool.not_eq_true', Bool.not_eq_false', beq_iff_eq, beq_eq_false_iff_ne, bne_iff_ne, bne_eq_false_iff_eq] at h) <;> (first | (exfalso; first | omega | exact h trivial) | (conv => whnf))) | (refine Ask.mk (by first | omega | (unfold roomOK; simp [cutRows]; done) | (unfold roomOK; simp [cutRows]; omega) | (simp [cutRows]; done) | (simp [cutRows]; omega)) ?_; conv => whnf) | (refine AppG.mk (by first | omega | (unfold roomOK; simp [cutRows]; done) | (unfold roomOK; simp [cutRows]; omega) | (simp [cutRows]; done) | (simp [cutRows]; omega)) ?_; conv => whnf) | (refine SliceG.fr ?_; conv => whnf) | (refine idx_at _ (by with_reducible rfl) (by first | assumption | omega) ?_; conv => whnf) | ((with_reducible refine row_map (by first | assumption | omega) ?_); conv => whnf) | ((with_reducible refine row_set (by first | assumption | omega | (simp only [List.length_set]; omega) | (simp; omega)) ?_); conv => whnf) | fail)
    all_goals exact count_next () hk (by rw [wrap_succ hk (by omega), ← hset, List.map_set]; rfl) trivial
  · intro _ _
    have hs := spK_len ((0, 0) : Int × Int) l l.length (by omega)
    have hsm : ((spK ((0, 0) : Int × Int) l l.length).map encQ).length = l.length := by rw [List.length_map, hs]
    conv => whnf
    repeat' (first | ((first | refine Split.mk (fun h => ?_) (fun h => ?_) | refine CondG.mk (fun h => ?_) (fun h => ?_)) <;> (try simp only [decide_eq_true_eq, decide_eq_false_iff_not, Bool.not_eq_true', Bool.not_eq_false', beq_iff_eq, beq_eq_false_iff_ne, bne_iff_ne, bne_eq_false_iff_eq] at h) <;> (first | (exfalso; first | omega | exact h trivial) | (conv => whnf))) | (refine Ask.mk (by first | omega | (unfold roomOK; simp [cutRows]; done) | (unfold roomOK; simp [cutRows]; omega) | (simp [cutRows]; done) | (simp [cutRows]; omega)) ?_; conv => whnf) | (refine AppG.mk (by first | omega | (unfold roomOK; simp [cutRows]; done) | (unfold roomOK; simp [cutRows]; omega) | (simp [cutRows]; done) | (simp [cutRows]; omega)) ?_; conv => whnf) | (refine SliceG.fr ?_; conv => whnf) | (refine idx_at _ (by with_reducible rfl) (by first | assumption | omega) ?_; conv => whnf) | ((with_reducible refine row_map (by first | assumption | omega) ?_); conv => whnf) | ((with_reducible refine row_set (by first | assumption | omega | (simp only [List.length_set]; omega) | (simp; omega)) ?_); conv => whnf) | fail)
    all_goals exact .mk ⟨rfl, rfl⟩
set_option maxRecDepth 100000 in
set_option maxHeartbeats 4000000 in
theorem eqInS2_pc (l : List Int) (hl : l.length ≤ 1000000) : PCp 22 [.c (.lst 1 (l.map encI)), .c (.lst 1 (l.map encI))] [] (.c (.bool true)) [] := by
  have hlm : (l.map encI).length = l.length := List.length_map ..
  refine fn_sound (mt := mts) tab_fits tab_mixed Tryz.func22 (by rfl) (by kernel_rfl) (by kernel_rfl) Tryz.results22 (Nat.le_of_ble_eq_true (by kernel_rfl)) ?_
  conv => whnf
  repeat' (first | ((first | refine Split.mk (fun h => ?_) (fun h => ?_) | refine CondG.mk (fun h => ?_) (fun h => ?_)) <;> (try simp only [decide_eq_true_eq, decide_eq_false_iff_not, Bool.not_eq_true', Bool.not_eq_false', beq_iff_eq, beq_eq_false_iff_ne, bne_iff_ne, bne_eq_false_iff_eq] at h) <;> (first | (exfalso; first | omega | exact h trivial | contradiction | (simp_all [eqRes]; done)) | (conv => whnf))) | (refine Ask.mk (by first | omega | (unfold roomOK; simp [cutRows]; done) | (unfold roomOK; simp [cutRows]; omega) | (simp [cutRows]; done) | (simp [cutRows]; omega)) ?_; conv => whnf) | (refine AppG.mk (by first | omega | (unfold roomOK; simp [cutRows]; done) | (unfold roomOK; simp [cutRows]; omega) | (simp [cutRows]; done) | (simp [cutRows]; omega)) ?_; conv => whnf) | (refine SliceG.fr ?_; conv => whnf) | (refine idx_at _ (by with_reducible rfl) (by first | assumption | omega) ?_; conv => whnf) | ((with_reducible refine row_map (by first | assumption | omega) ?_); conv => whnf) | ((with_reducible refine row_set (by first | assumption | omega | (simp only [List.length_set]; omega) | (simp; omega)) ?_); conv => whnf) | fail)
  refine loop_for (l.length) [] [0, 1, 12, 13] (fun k (_ : Unit) => [(13, .c (.int .i64 (k : Int)))]) (fun k (_ : Unit) => []) (fun k (_ : Unit) => True) (()) ?_
  conv => whnf
  refine ⟨(by first | rfl | (simp; done) | (simp; rfl)), (by trivial), ?_, ?_⟩
  · intro k _ hk _
    conv => whnf
    repeat' (first | ((first | refine Split.mk (fun h => ?_) (fun h => ?_) | refine CondG.mk (fun h => ?_) (fun h => ?_)) <;> (try simp only [decide_eq_true_eq, decide_eq_false_iff_not, Bool.not_eq_true', Bool.not_eq_false', beq_iff_eq, beq_eq_false_iff_ne, bne_iff_ne, bne_eq_false_iff_eq] at h) <;> (first | (exfalso; first | omega | exact h trivial | contradiction | (simp_all [eqRes]; done)) | (conv => whnf))) | (refine Ask.mk (by first | omega | (unfold roomOK; simp [cutRows]; done) | (unfold roomOK; simp [cutRows]; omega) | (simp [cutRows]; done) | (simp [cutRows]; omega)) ?_; conv => whnf) | (refine AppG.mk (by first | omega | (unfold roomOK; simp [cutRows]; done) | (unfold roomOK; simp [cutRows]; omega) | (simp [cutRows]; done) | (simp [cutRows]; omega)) ?_; conv => whnf) | (refine SliceG.fr ?_; conv => whnf) | (refine idx_at _ (by with_reducible rfl) (by first | assumption | omega) ?_; conv => whnf) | ((with_reducible refine row_map (by first | assumption | omega) ?_); conv => whnf) | ((with_reducible refine row_set (by first | assumption | omega | (simp only [List.length_set]; omega) | (simp; omega)) ?_); conv => whnf) | fail)
    all_goals exact count_next () hk (by rw [wrap_succ hk (by omega)]; rfl) trivial
  · intro _ _
    conv => whnf
    repeat' (first | ((first | refine Split.mk (fun h => ?_) (fun h => ?_) | refine CondG.mk (fun h => ?_) (fun h => ?_)) <;> (try simp only [decide_eq_true_eq, decide_eq_false_iff_not, Bool.not_eq_true', Bool.not_eq_false', beq_iff_eq, beq_eq_false_iff_ne, bne_iff_ne, bne_eq_false_iff_eq] at h) <;> (first | (exfalso; first | omega | exact h trivial | contradiction | (simp_all [eqRes]; done)) | (conv => whnf))) | (refine Ask.mk (by first | omega | (unfold roomOK; simp [cutRows]; done) | (unfold roomOK; simp [cutRows]; omega) | (simp [cutRows]; done) | (simp [cutRows]; omega)) ?_; conv => whnf) | (refine AppG.mk (by first | omega | (unfold roomOK; simp [cutRows]; done) | (unfold roomOK; simp [cutRows]; omega) | (simp [cutRows]; done) | (simp [cutRows]; omega)) ?_; conv => whnf) | (refine SliceG.fr ?_; conv => whnf) | (refine idx_at _ (by with_reducible rfl) (by first | assumption | omega) ?_; conv => whnf) | ((with_reducible refine row_map (by first | assumption | omega) ?_); conv => whnf) | ((with_reducible refine row_set (by first | assumption | omega | (simp only [List.length_set]; omega) | (simp; omega)) ?_); conv => whnf) | fail)
    all_goals exact .mk ⟨rfl, rfl⟩
theorem evE_len (p : List Int) (st wd ls nm dn : Int) : (Hd.evE p st wd ls nm dn).length ≤ 100 := by
  unfold Hd.evE
  split
  · split
    · simp
    · omega
  · simp
theorem exE_len (p : List Int) (st wd ls nm dn : Int) : (Hd.exE p st wd ls nm dn).length ≤ p.length + 1 := by
  unfold Hd.exE
  split
  · rw [exL_len]; unfold Hd.exc; omega
  · simp
theorem mL_len (A B : List (Int × Int)) (near : Int) : (Hd.mpI (Hd.mL A B near)).length ≤ A.length := by
  rw [Hd.mpI_len]
  unfold Hd.mL
  split
  · have h := Hd.bestM_rise A B near 0 0
    generalize Hd.bestM A B near 0 0 = x at *
    obtain ⟨l, d⟩ := x
    have := h.len
    simp only; omega
  · simp
set_option maxRecDepth 100000 in
set_option maxHeartbeats 4000000 in
theorem tracesStay_pc (L : List Int) (hL : L.length ≤ 9223372036854775807) : PCp 5 [.c (.lst 1 (L.map encI))] [] (.c (.bool true)) [] := by
  have st0 : StOk L 0 := ⟨hL, by omega, by omega⟩
  have b1 := powerV_bd L 0 20 (by omega)
  have c1 := rPower_pc st0 (by omega) 20 (by omega)
  generalize powerV L 0 20 = P at *
  obtain ⟨d, p⟩ := P
  simp only at b1 c1
  have hp : StOk L p := ⟨hL, by omega, by omega⟩
  have b2 := rightE_bd L 5 (by omega) 5 p
  have c2 := rRightE_pc hp (by omega) 5 (by omega)
  unfold rightEV at c2
  generalize rightE L 5 5 p = P2 at *
  obtain ⟨A, q⟩ := P2
  simp only at b2 c2
  have k1 := detected_pc d 1 2 3 0 1 (by omega)
  have k2 := excess_pc d 1 2 3 0 1 (by omega)
  have k3 := match_pc A A 5
  have l1 := evE_len d 1 2 3 0 1
  have l2 := exE_len d 1 2 3 0 1
  have l3 := mL_len A A 5
  generalize Hd.evE d 1 2 3 0 1 = E1 at *
  generalize Hd.exE d 1 2 3 0 1 = E2 at *
  generalize Hd.mpI (Hd.mL A A 5) = E3 at *
  refine fn_sound (mt := mts) tab_fits tab_mixed Tryz.func5 (by rfl) (by kernel_rfl) (by kernel_rfl) Tryz.results5 (Nat.le_of_ble_eq_true (by kernel_rfl)) ?_
  conv => whnf
  repeat' (first | ((first | refine Split.mk (fun h => ?_) (fun h => ?_) | refine CondG.mk (fun h => ?_) (fun h => ?_)) <;> (try simp only [decide_eq_true_eq, decide_eq_false_iff_not, Bool.not_eq_true', Bool.not_eq_false', beq_iff_eq, beq_eq_false_iff_ne, bne_iff_ne, bne_eq_false_iff_eq] at h) <;> (first | (exfalso; first | omega | exact h trivial) | (conv => whnf))) | (refine CallX.mk _ _ (by first | exact c1 | exact c2 | exact k1 | exact k2 | exact k3 | exact spoilEv_pc E1 (by omega) | exact spoilFr_pc E2 (by omega) | exact spoilMa_pc E3 (by omega) | exact eqInS2_pc d (by omega) | exact eqEvS_pc A (by omega) | exact ready_pc) ?_; conv => whnf) | (refine CallG.mk _ _ (by first | exact c1 | exact c2 | exact k1 | exact k2 | exact k3 | exact spoilEv_pc E1 (by omega) | exact spoilFr_pc E2 (by omega) | exact spoilMa_pc E3 (by omega) | exact eqInS2_pc d (by omega) | exact eqEvS_pc A (by omega) | exact ready_pc) ?_; conv => whnf) | (refine Ask.mk (by first | omega | (unfold roomOK; simp [cutRows]; done) | (unfold roomOK; simp [cutRows]; omega) | (simp [cutRows]; done) | (simp [cutRows]; omega)) ?_; conv => whnf) | (refine AppG.mk (by first | omega | (unfold roomOK; simp [cutRows]; done) | (unfold roomOK; simp [cutRows]; omega) | (simp [cutRows]; done) | (simp [cutRows]; omega)) ?_; conv => whnf) | (refine SliceG.fr ?_; conv => whnf) | (refine idx_at _ (by with_reducible rfl) (by first | assumption | omega) ?_; conv => whnf) | ((with_reducible refine row_map (by first | assumption | omega) ?_); conv => whnf) | ((with_reducible refine row_set (by first | assumption | omega | (simp only [List.length_set]; omega) | (simp; omega)) ?_); conv => whnf) | fail)
  all_goals first | exact .mk ⟨rfl, rfl⟩ | (cases h; done)
end Go.Proofs.YtlifcpcfhkpejaaGreat
