/- Parts of the proof, in order. -/
import Derived.Test.YthdaejnepengeaaGreatDoorMTopCapacityIsLaid1

/- Ducts: what has room, how many more. -/
namespace Go.Proofs.YthdaejnepengeaaGreatDoor
set_option linter.unusedVariables false
set_option linter.unusedSimpArgs false
open Abs

set_option maxRecDepth 100000 in
set_option maxHeartbeats 4000000 in
theorem dOuterFault_pc (n : Int) : PCp 39 [.c (.int .i64 n)] [] (.c (.int .i64 (if n < 1 ∨ 1000 < n then 1 else 0))) [] := by
  refine fn_sound (mt := mts) tab_fits tab_mixed Tryz.func39 (by rfl) (by kernel_rfl) (by kernel_rfl) Tryz.results39 (Nat.le_of_ble_eq_true (by kernel_rfl)) ?_
  conv => whnf
  repeat' (first | ((first | refine Split.mk (fun h => ?_) (fun h => ?_) | refine CondG.mk (fun h => ?_) (fun h => ?_)) <;> (try simp only [decide_eq_true_eq, decide_eq_false_iff_not, Bool.not_eq_true', Bool.not_eq_false', beq_iff_eq, beq_eq_false_iff_ne, bne_iff_ne, bne_eq_false_iff_eq] at h) <;> (first | (exfalso; first | omega | exact h trivial) | (conv => whnf))) | (refine CallX.mk _ _ (by first | exact bOut_pc _ _ _) ?_; conv => whnf) | (refine CallG.mk _ _ (by first | exact bOut_pc _ _ _) ?_; conv => whnf) | (refine Ask.mk (by first | omega | (unfold roomOK; simp [cutRows]; done) | (unfold roomOK; simp [cutRows]; omega) | (simp [cutRows]; done) | (simp [cutRows]; omega)) ?_; conv => whnf) | (refine AskV.mk (by first | omega | (unfold roomOK; simp [cutRows]; done) | (unfold roomOK; simp [cutRows]; omega) | (simp [cutRows]; done) | (simp [cutRows]; omega)) ?_; conv => whnf) | (refine AppG.mk (by first | omega | (unfold roomOK; simp [cutRows]; done) | (unfold roomOK; simp [cutRows]; omega) | (simp [cutRows]; done) | (simp [cutRows]; omega)) ?_; conv => whnf) | (refine SliceG.fr ?_; conv => whnf) | (refine BuildG.fr ?_; conv => whnf) | (refine idx_at _ (by with_reducible rfl) (by first | assumption | omega) ?_; conv => whnf) | ((with_reducible refine row_map (by first | assumption | omega) ?_); conv => whnf) | ((with_reducible refine row_set (by first | assumption | omega | (simp only [List.length_set]; omega) | (simp; omega)) ?_); conv => whnf) | fail)
  all_goals exact fini (by simp_all <;> omega)
set_option maxRecDepth 100000 in
set_option maxHeartbeats 4000000 in
theorem ixIK_pc (key : Int) (g : Nat) (p : Int → Bool) (l : List Int) (hl : l.length ≤ 1000000) (hg : ∀ x ∈ l, PCp g [.c (.int .i64 x), .c (.ptr 0 0)] [.box [.int .i64 key]] (.c (.bool (p x))) [.box [.int .i64 key]]) : PCp 137 [.c (.lst 1 (l.map encI)), .c (.fn g [.ptr 0 0])] [.box [.int .i64 key]] (.c (.int .i64 (idxP p l))) [.box [.int .i64 key]] := by
  have hlm : (l.map encI).length = l.length := List.length_map ..
  refine fn_sound (mt := mts) tab_fits tab_mixed Tryz.func137 (by rfl) (by kernel_rfl) (by kernel_rfl) Tryz.results137 (Nat.le_of_ble_eq_true (by kernel_rfl)) ?_
  conv => whnf
  refine loop_count (l.length) [] [0, 1, 7, 8] (fun k (_ : Unit) => ⟨[(0, .c (.lst 1 (l.map encI))), (1, .c (.fn g [.ptr 0 0])), (7, .c (.int .i64 (l.map encI).length)), (8, .c (.int .i64 k))], [(0, .box [.int .i64 key])], 1⟩) (fun k (_ : Unit) => ∀ i (hi : i < l.length), i < k → p l[i] = false) (()) ?_ ?_ ?_
  · conv => whnf
    exact ⟨rfl, by intro i hi h; omega⟩
  · intro k _ hk hi
    conv => whnf
    repeat' (first | ((first | refine Split.mk (fun h => ?_) (fun h => ?_) | refine CondG.mk (fun h => ?_) (fun h => ?_)) <;> (try simp only [decide_eq_true_eq, decide_eq_false_iff_not, Bool.not_eq_true', Bool.not_eq_false', beq_iff_eq, beq_eq_false_iff_ne, bne_iff_ne, bne_eq_false_iff_eq] at h) <;> (first | (exfalso; first | omega | exact h trivial) | (conv => whnf))) | (refine CallX.mk _ _ (by first | exact hg l[k] (List.getElem_mem hk)) ?_; conv => whnf) | (refine CallG.mk _ _ (by first | exact hg l[k] (List.getElem_mem hk)) ?_; conv => whnf) | (refine Ask.mk (by first | omega | (unfold roomOK; simp [cutRows]; done) | (unfold roomOK; simp [cutRows]; omega) | (simp [cutRows]; done) | (simp [cutRows]; omega)) ?_; conv => whnf) | (refine AskV.mk (by first | omega | (unfold roomOK; simp [cutRows]; done) | (unfold roomOK; simp [cutRows]; omega) | (simp [cutRows]; done) | (simp [cutRows]; omega)) ?_; conv => whnf) | (refine AppG.mk (by first | omega | (unfold roomOK; simp [cutRows]; done) | (unfold roomOK; simp [cutRows]; omega) | (simp [cutRows]; done) | (simp [cutRows]; omega)) ?_; conv => whnf) | (refine SliceG.fr ?_; conv => whnf) | (refine BuildG.fr ?_; conv => whnf) | (refine idx_at _ (by with_reducible rfl) (by first | assumption | omega) ?_; conv => whnf) | ((with_reducible refine row_map (by first | assumption | omega) ?_); conv => whnf) | ((with_reducible refine row_set (by first | assumption | omega | (simp only [List.length_set]; omega) | (simp; omega)) ?_); conv => whnf) | fail)
    · exact .mk ⟨by rw [idxP_hit hk (fun i hi' => hi i (by omega) hi') h]; rfl, rfl⟩
    · refine count_next () hk (by rw [wrap_succ hk (by omega)]; rfl) ?_
      exact all_succ' hi h
  · intro _ hi
    conv => whnf
    repeat' (first | ((first | refine Split.mk (fun h => ?_) (fun h => ?_) | refine CondG.mk (fun h => ?_) (fun h => ?_)) <;> (try simp only [decide_eq_true_eq, decide_eq_false_iff_not, Bool.not_eq_true', Bool.not_eq_false', beq_iff_eq, beq_eq_false_iff_ne] at h) <;> (first | (exfalso; first | omega | exact h trivial) | (conv => whnf))) | (refine Ask.mk (by first | omega | (unfold roomOK; simp [cutRows]; done) | (unfold roomOK; simp [cutRows]; omega)) ?_; conv => whnf) | (refine AskV.mk (by first | omega | (unfold roomOK; simp [cutRows]; done) | (unfold roomOK; simp [cutRows]; omega)) ?_; conv => whnf) | (refine AppG.mk (by first | omega | (unfold roomOK; simp [cutRows]; done) | (unfold roomOK; simp [cutRows]; omega)) ?_; conv => whnf) | (refine SliceG.fr ?_; conv => whnf) | (refine BuildG.fr ?_; conv => whnf) | fail)
    exact .mk ⟨by rw [idxP_miss (fun i h => hi i h h)]; rfl, rfl⟩
set_option maxRecDepth 100000 in
set_option maxHeartbeats 4000000 in
theorem ixIKC_pc (key : Int) (g : Nat) (p : Int → Bool) (l : List Int) (hl : l.length ≤ 1000000) (hg : ∀ x ∈ l, PCp g [.c (.int .i64 x), .c (.ptr 0 0)] [.box [.int .i64 key]] (.c (.bool (p x))) [.box [.int .i64 key]]) : PCp 101 [.c (.lst 1 (l.map encI)), .c (.fn g [.ptr 0 0])] [.box [.int .i64 key]] (.c (.bool (l.any p))) [.box [.int .i64 key]] := by
  refine fn_sound (mt := mts) tab_fits tab_mixed Tryz.func101 (by rfl) (by kernel_rfl) (by kernel_rfl) Tryz.results101 (Nat.le_of_ble_eq_true (by kernel_rfl)) ?_
  conv => whnf
  repeat' (first | ((first | refine Split.mk (fun h => ?_) (fun h => ?_) | refine CondG.mk (fun h => ?_) (fun h => ?_)) <;> (try simp only [decide_eq_true_eq, decide_eq_false_iff_not, Bool.not_eq_true', Bool.not_eq_false', beq_iff_eq, beq_eq_false_iff_ne] at h) <;> (first | (exfalso; first | omega | exact h trivial) | (conv => whnf))) | (refine CallX.mk _ _ (by first | exact ixIK_pc key g p l hl hg) ?_; conv => whnf) | (refine CallG.mk _ _ (by first | exact ixIK_pc key g p l hl hg) ?_; conv => whnf) | (refine Ask.mk (by first | omega | (unfold roomOK; simp [cutRows]; done) | (unfold roomOK; simp [cutRows]; omega)) ?_; conv => whnf) | (refine AskV.mk (by first | omega | (unfold roomOK; simp [cutRows]; done) | (unfold roomOK; simp [cutRows]; omega)) ?_; conv => whnf) | (refine AppG.mk (by first | omega | (unfold roomOK; simp [cutRows]; done) | (unfold roomOK; simp [cutRows]; omega)) ?_; conv => whnf) | (refine SliceG.fr ?_; conv => whnf) | (refine BuildG.fr ?_; conv => whnf) | fail)
  exact .mk ⟨by rw [← idxP_any]; rfl, rfl⟩
set_option maxRecDepth 100000 in
set_option maxHeartbeats 4000000 in
theorem room1_pc (n inner : Int) : PCp 102 [.c (.int .i64 n), .c (.ptr 0 0)] [.box [.int .i64 inner]] (.c (.bool (decide (inner < n)))) [.box [.int .i64 inner]] := by
  refine fn_sound (mt := mts) tab_fits tab_mixed Tryz.func102 (by rfl) (by kernel_rfl) (by kernel_rfl) Tryz.results102 (Nat.le_of_ble_eq_true (by kernel_rfl)) ?_
  conv => whnf
  repeat' (first | ((first | refine Split.mk (fun h => ?_) (fun h => ?_) | refine CondG.mk (fun h => ?_) (fun h => ?_)) <;> (try simp only [decide_eq_true_eq, decide_eq_false_iff_not, Bool.not_eq_true', Bool.not_eq_false', beq_iff_eq, beq_eq_false_iff_ne, bne_iff_ne, bne_eq_false_iff_eq] at h) <;> (first | (exfalso; first | omega | exact h trivial) | (conv => whnf))) | (refine Ask.mk (by first | omega | (unfold roomOK; simp [cutRows]; done) | (unfold roomOK; simp [cutRows]; omega) | (simp [cutRows]; done) | (simp [cutRows]; omega)) ?_; conv => whnf) | (refine AskV.mk (by first | omega | (unfold roomOK; simp [cutRows]; done) | (unfold roomOK; simp [cutRows]; omega) | (simp [cutRows]; done) | (simp [cutRows]; omega)) ?_; conv => whnf) | (refine AppG.mk (by first | omega | (unfold roomOK; simp [cutRows]; done) | (unfold roomOK; simp [cutRows]; omega) | (simp [cutRows]; done) | (simp [cutRows]; omega)) ?_; conv => whnf) | (refine SliceG.fr ?_; conv => whnf) | (refine BuildG.fr ?_; conv => whnf) | (refine idx_at _ (by with_reducible rfl) (by first | assumption | omega) ?_; conv => whnf) | ((with_reducible refine row_map (by first | assumption | omega) ?_); conv => whnf) | ((with_reducible refine row_set (by first | assumption | omega | (simp only [List.length_set]; omega) | (simp; omega)) ?_); conv => whnf) | fail)
  exact .mk ⟨rfl, rfl⟩
set_option maxRecDepth 100000 in
set_option maxHeartbeats 4000000 in
theorem part_pc (n : Nat) : PCp 100 [.c (.int .i64 (n : Int))] [] (.c (.int .i64 (partV n))) [] := by
  refine fn_sound (mt := mts) tab_fits tab_mixed Tryz.func100 (by rfl) (by kernel_rfl) (by kernel_rfl) Tryz.results100 (Nat.le_of_ble_eq_true (by kernel_rfl)) ?_
  conv => whnf
  repeat' (first | ((first | refine Split.mk (fun h => ?_) (fun h => ?_) | refine CondG.mk (fun h => ?_) (fun h => ?_)) <;> (try simp only [decide_eq_true_eq, decide_eq_false_iff_not, Bool.not_eq_true', Bool.not_eq_false', beq_iff_eq, beq_eq_false_iff_ne, bne_iff_ne, bne_eq_false_iff_eq] at h) <;> (first | (exfalso; first | omega | exact h trivial) | (conv => whnf))) | (refine Ask.mk (by first | omega | (unfold roomOK; simp [cutRows]; done) | (unfold roomOK; simp [cutRows]; omega) | (simp [cutRows]; done) | (simp [cutRows]; omega)) ?_; conv => whnf) | (refine AskV.mk (by first | omega | (unfold roomOK; simp [cutRows]; done) | (unfold roomOK; simp [cutRows]; omega) | (simp [cutRows]; done) | (simp [cutRows]; omega)) ?_; conv => whnf) | (refine AppG.mk (by first | omega | (unfold roomOK; simp [cutRows]; done) | (unfold roomOK; simp [cutRows]; omega) | (simp [cutRows]; done) | (simp [cutRows]; omega)) ?_; conv => whnf) | (refine SliceG.fr ?_; conv => whnf) | (refine BuildG.fr ?_; conv => whnf) | (refine idx_at _ (by with_reducible rfl) (by first | assumption | omega) ?_; conv => whnf) | ((with_reducible refine row_map (by first | assumption | omega) ?_); conv => whnf) | ((with_reducible refine row_set (by first | assumption | omega | (simp only [List.length_set]; omega) | (simp; omega)) ?_); conv => whnf) | fail)
  all_goals refine fini ?_
  all_goals unfold partV
  all_goals repeat' split
  all_goals omega
theorem partV_in (n : Nat) : 31 ≤ partV n ∧ partV n ≤ 53 := by
  unfold partV
  repeat' split
  all_goals omega
theorem room_w {inner : Int} {l : List Int} (hi : 1 ≤ inner ∧ inner ≤ 1000) (hl : l.length ≤ 100000) (ho : ∀ x ∈ l, 0 ≤ x ∧ x ≤ 1000) : IntKind.i64.wrap (100 * sqV l) = 100 * sqV l ∧ IntKind.i64.wrap (IntKind.i64.wrap (partV l.length * inner) * inner) = partV l.length * inner * inner ∧ 0 ≤ partV l.length * inner * inner := by
  have h1 := sq_in ho
  have h2 := partV_in l.length
  have h3 : 0 ≤ partV l.length * inner := Int.mul_nonneg (by omega) (by omega)
  have h4 : partV l.length * inner ≤ 53 * 1000 := Int.mul_le_mul (by omega) (by omega) (by omega) (by omega)
  have h5 : 0 ≤ partV l.length * inner * inner := Int.mul_nonneg h3 (by omega)
  have h6 : partV l.length * inner * inner ≤ 53000 * 1000 := Int.mul_le_mul (by omega) (by omega) (by omega) (by omega)
  refine ⟨wrap_in (by omega) (by omega), ?_, h5⟩
  rw [wrap_in (x := partV l.length * inner) (by omega) (by omega), wrap_in (by omega) (by omega)]
set_option maxRecDepth 100000 in
set_option maxHeartbeats 4000000 in
theorem dRoom_pc (inner : Int) (l : List Int) (hi : 1 ≤ inner ∧ inner ≤ 1000) (hl : l.length ≤ 100000) (ho : ∀ x ∈ l, 0 ≤ x ∧ x ≤ 1000) : PCp 51 [.c (.int .i64 inner), .c (.lst 1 (l.map encI))] [] (.c (.bool (roomB inner l))) [] := by
  have hlm : (l.map encI).length = l.length := List.length_map ..
  obtain ⟨w1, w2, _⟩ := room_w hi hl ho
  refine fn_sound (mt := mts) tab_fits tab_mixed Tryz.func51 (by rfl) (by kernel_rfl) (by kernel_rfl) Tryz.results51 (Nat.le_of_ble_eq_true (by kernel_rfl)) ?_
  conv => whnf
  repeat' (first | ((first | refine Split.mk (fun h => ?_) (fun h => ?_) | refine CondG.mk (fun h => ?_) (fun h => ?_)) <;> (try simp only [decide_eq_true_eq, decide_eq_false_iff_not, Bool.not_eq_true', Bool.not_eq_false', beq_iff_eq, beq_eq_false_iff_ne, bne_iff_ne, bne_eq_false_iff_eq] at h) <;> (first | (exfalso; first | omega | exact h trivial) | (conv => whnf))) | (refine CallX.mk _ _ (by first | exact dSquares_pc l ho (by omega) | exact (by rw [hlm]; exact part_pc l.length) | exact ixIKC_pc inner 102 (fun n => decide (inner < n)) l (by omega) (fun x _ => room1_pc x inner)) ?_; conv => whnf) | (refine CallG.mk _ _ (by first | exact dSquares_pc l ho (by omega) | exact (by rw [hlm]; exact part_pc l.length) | exact ixIKC_pc inner 102 (fun n => decide (inner < n)) l (by omega) (fun x _ => room1_pc x inner)) ?_; conv => whnf) | (refine Ask.mk (by first | omega | (unfold roomOK; simp [cutRows]; done) | (unfold roomOK; simp [cutRows]; omega) | (simp [cutRows]; done) | (simp [cutRows]; omega)) ?_; conv => whnf) | (refine AskV.mk (by first | omega | (unfold roomOK; simp [cutRows]; done) | (unfold roomOK; simp [cutRows]; omega) | (simp [cutRows]; done) | (simp [cutRows]; omega)) ?_; conv => whnf) | (refine AppG.mk (by first | omega | (unfold roomOK; simp [cutRows]; done) | (unfold roomOK; simp [cutRows]; omega) | (simp [cutRows]; done) | (simp [cutRows]; omega)) ?_; conv => whnf) | (refine SliceG.fr ?_; conv => whnf) | (refine BuildG.fr ?_; conv => whnf) | (refine idx_at _ (by with_reducible rfl) (by first | assumption | omega) ?_; conv => whnf) | ((with_reducible refine row_map (by first | assumption | omega) ?_); conv => whnf) | ((with_reducible refine row_set (by first | assumption | omega | (simp only [List.length_set]; omega) | (simp; omega)) ?_); conv => whnf) | fail)
  all_goals rw [w1, w2] at *
  · refine finb ?_
    unfold roomB; rw [decide_eq_true h, Bool.true_and]
  · refine finb ?_
    unfold roomB; rw [decide_eq_false h, Bool.false_and]
set_option maxRecDepth 100000 in
set_option maxHeartbeats 4000000 in
theorem dMost_pc (x : Du) (all : List Int) (outer : Int) (hi : 1 ≤ x.inner ∧ x.inner ≤ 1000) (hl : all.length ≤ 20) (ho : ∀ y ∈ all, 0 ≤ y ∧ y ≤ 1000) (hq : 0 ≤ outer ∧ outer ≤ 1000) : PCp 24 [.agg (encDu x), .c (.lst 1 (all.map encI)), .c (.int .i64 outer)] [] (.c (.int .i64 (mostV x.inner all outer (20 - all.length) : Nat))) [] := by
  have hlm : (all.map encI).length = all.length := List.length_map ..
  have hin : ∀ n, ∀ y ∈ all ++ List.replicate n outer, 0 ≤ y ∧ y ≤ 1000 := by
    intro n y hy
    rcases List.mem_append.1 hy with h | h
    · exact ho y h
    · rw [(List.mem_replicate.1 h).2]; exact hq
  have hw : IntKind.i64.wrap (20 - ((all.map encI).length : Nat)) = ((20 - all.length : Nat) : Int) := by rw [hlm, wrap_in (by omega) (by omega)]; omega
  refine fn_sound (mt := mts) tab_fits tab_mixed Tryz.func24 (by rfl) (by kernel_rfl) (by kernel_rfl) Tryz.results24 (Nat.le_of_ble_eq_true (by kernel_rfl)) ?_
  conv => whnf
  rw [hw]
  refine loop_while (fun (n : Nat) => n) [] [1, 2, 3, 7] (fun (n : Nat) => [(7, .c (.int .i64 (n : Int)))]) (fun (n : Nat) => []) (fun (n : Nat) => n ≤ 20 - all.length ∧ mostV x.inner all outer n = mostV x.inner all outer (20 - all.length)) (20 - all.length) ?_
  conv => whnf
  refine ⟨(by first | rfl | (simp; done) | (simp; rfl)), ?_, ?_⟩
  · exact ⟨Nat.le_refl _, rfl⟩
  · intro n ⟨h1, h2⟩
    conv => whnf
    repeat' (first | ((first | refine Split.mk (fun h => ?_) (fun h => ?_) | refine CondG.mk (fun h => ?_) (fun h => ?_)) <;> (try simp only [decide_eq_true_eq, decide_eq_false_iff_not, Bool.not_eq_true', Bool.not_eq_false', beq_iff_eq, beq_eq_false_iff_ne, bne_iff_ne, bne_eq_false_iff_eq] at h) <;> (first | (exfalso; first | omega | exact h trivial) | (conv => whnf))) | (refine CallX.mk _ _ (by first | exact cloneI_pc all (by omega)) ?_; conv => whnf) | (refine CallG.mk _ _ (by first | exact cloneI_pc all (by omega)) ?_; conv => whnf) | (refine Ask.mk (by first | omega | (unfold roomOK; simp [cutRows]; done) | (unfold roomOK; simp [cutRows]; omega) | (simp [cutRows]; done) | (simp [cutRows]; omega)) ?_; conv => whnf) | (refine AskV.mk (by first | omega | (unfold roomOK; simp [cutRows]; done) | (unfold roomOK; simp [cutRows]; omega) | (simp [cutRows]; done) | (simp [cutRows]; omega)) ?_; conv => whnf) | (refine AppG.mk (by first | omega | (unfold roomOK; simp [cutRows]; done) | (unfold roomOK; simp [cutRows]; omega) | (simp [cutRows]; done) | (simp [cutRows]; omega)) ?_; conv => whnf) | (refine SliceG.fr ?_; conv => whnf) | (refine BuildG.fr ?_; conv => whnf) | (refine idx_at _ (by with_reducible rfl) (by first | assumption | omega) ?_; conv => whnf) | ((with_reducible refine row_map (by first | assumption | omega) ?_); conv => whnf) | ((with_reducible refine row_set (by first | assumption | omega | (simp only [List.length_set]; omega) | (simp; omega)) ?_); conv => whnf) | fail)
    · obtain ⟨m, rfl⟩ : ∃ m, n = m + 1 := ⟨n - 1, by omega⟩
      have hlr : ∀ k, k ≤ m + 1 → (all ++ List.replicate k outer).length ≤ 100 := by intro k hk; simp; omega
      refine loop_for (m + 1) [] [1, 2, 3, 7, 8, 18, 19] (fun k (_ : Unit) => [(19, .c (.int .i64 (k : Int)))]) (fun k (_ : Unit) => [(1, .row 3 1 ((all ++ List.replicate k outer).map encI))]) (fun k (_ : Unit) => True) (()) ?_
      conv => whnf
      refine ⟨(by first | rfl | (simp; done) | (simp; rfl)), (by trivial), ?_, ?_⟩
      · intro k _ hk _
        have h3 := hlr k (by omega)
        have h4 : ((all ++ List.replicate k outer).map encI).length ≤ 100 := by rw [List.length_map]; exact h3
        conv => whnf
        repeat' (first | ((first | refine Split.mk (fun h => ?_) (fun h => ?_) | refine CondG.mk (fun h => ?_) (fun h => ?_)) <;> (try simp only [decide_eq_true_eq, decide_eq_false_iff_not, Bool.not_eq_true', Bool.not_eq_false', beq_iff_eq, beq_eq_false_iff_ne, bne_iff_ne, bne_eq_false_iff_eq] at h) <;> (first | (exfalso; first | omega | exact h trivial) | (conv => whnf))) | (refine Ask.mk (by first | omega | (unfold roomOK; simp [cutRows]; done) | (unfold roomOK; simp [cutRows]; omega) | (simp [cutRows]; done) | (simp [cutRows]; omega)) ?_; conv => whnf) | (refine AskV.mk (by first | omega | (unfold roomOK; simp [cutRows]; done) | (unfold roomOK; simp [cutRows]; omega) | (simp [cutRows]; done) | (simp [cutRows]; omega)) ?_; conv => whnf) | (refine AppG.mk (by first | omega | (unfold roomOK; simp [cutRows]; done) | (unfold roomOK; simp [cutRows]; omega) | (simp [cutRows]; done) | (simp [cutRows]; omega)) ?_; conv => whnf) | (refine SliceG.fr ?_; conv => whnf) | (refine BuildG.fr ?_; conv => whnf) | (refine idx_at _ (by with_reducible rfl) (by first | assumption | omega) ?_; conv => whnf) | ((with_reducible refine row_map (by first | assumption | omega) ?_); conv => whnf) | ((with_reducible refine row_set (by first | assumption | omega | (simp only [List.length_set]; omega) | (simp; omega)) ?_); conv => whnf) | fail)
        exact count_next () hk (by rw [wrap_succ hk (by omega), List.replicate_succ', ← List.append_assoc, List.map_append (l₁ := all ++ List.replicate k outer)]; rfl) trivial
      · intro _ _
        have h3 := hlr (m + 1) (by omega)
        have hR := dRoom_pc x.inner (all ++ List.replicate (m + 1) outer) hi (by omega) (hin _)
        conv => whnf
        repeat' (first | ((first | refine Split.mk (fun h => ?_) (fun h => ?_) | refine CondG.mk (fun h => ?_) (fun h => ?_)) <;> (try simp only [decide_eq_true_eq, decide_eq_false_iff_not, Bool.not_eq_true', Bool.not_eq_false', beq_iff_eq, beq_eq_false_iff_ne, bne_iff_ne, bne_eq_false_iff_eq] at h) <;> (first | (exfalso; first | omega | exact h trivial) | (conv => whnf))) | (refine CallX.mk _ _ (by first | exact hR) ?_; conv => whnf) | (refine CallG.mk _ _ (by first | exact hR) ?_; conv => whnf) | (refine Ask.mk (by first | omega | (unfold roomOK; simp [cutRows]; done) | (unfold roomOK; simp [cutRows]; omega) | (simp [cutRows]; done) | (simp [cutRows]; omega)) ?_; conv => whnf) | (refine AskV.mk (by first | omega | (unfold roomOK; simp [cutRows]; done) | (unfold roomOK; simp [cutRows]; omega) | (simp [cutRows]; done) | (simp [cutRows]; omega)) ?_; conv => whnf) | (refine AppG.mk (by first | omega | (unfold roomOK; simp [cutRows]; done) | (unfold roomOK; simp [cutRows]; omega) | (simp [cutRows]; done) | (simp [cutRows]; omega)) ?_; conv => whnf) | (refine SliceG.fr ?_; conv => whnf) | (refine BuildG.fr ?_; conv => whnf) | (refine idx_at _ (by with_reducible rfl) (by first | assumption | omega) ?_; conv => whnf) | ((with_reducible refine row_map (by first | assumption | omega) ?_); conv => whnf) | ((with_reducible refine row_set (by first | assumption | omega | (simp only [List.length_set]; omega) | (simp; omega)) ?_); conv => whnf) | fail)
        · exact fini (by rw [← h2, mostV, if_pos h])
        · exact meas_next m (by omega) (by rw [show IntKind.i64.wrap (((m + 1 : Nat) : Int) - 1) = (m : Int) by rw [wrap_in (by omega) (by omega)]; omega]; rfl) ⟨by omega, by rw [← h2, mostV, if_neg (by rw [h]; decide)]⟩
    · have : n = 0 := by omega
      subst this
      exact fini (by rw [← h2]; rfl)
theorem roomy_in {all : List Int} {outer : Int} (ho : ∀ y ∈ all, 0 ≤ y ∧ y ≤ 1000) (hq : 0 ≤ outer ∧ outer ≤ 1000) : ∀ y ∈ all ++ [outer], 0 ≤ y ∧ y ≤ 1000 := by
  intro y hy
  rcases List.mem_append.1 hy with h | h
  · exact ho y h
  · simp at h; subst h; exact hq
def fitsV (x : Du) (l : List Ly) (outer : Int) : Bool := decide ((outV l x.key ++ [outer]).length ≤ 20) && roomB x.inner (outV l x.key ++ [outer])
set_option maxRecDepth 100000 in
set_option maxHeartbeats 4000000 in
theorem dFits_pc (d : List Du) (l : List Ly) (hok : LyOk d l) (x : Du) (hx : x ∈ d) (outer : Int) (hq : 0 ≤ outer ∧ outer ≤ 1000) : PCp 41 [.agg (encDu x), .c (.lst 3 (l.map encLy)), .c (.int .i64 outer)] [] (.c (.bool (fitsV x l outer))) [] := by
  have hll := hok.len
  have hi := hok.du.each _ hx
  have hfew := hok.few _ hx
  have hol := outV_len l x.key
  have hm1 : ((outV l x.key).map encI).length = (outV l x.key).length := List.length_map ..
  have hm2 : ((outV l x.key ++ [outer]).map encI).length = (outV l x.key).length + 1 := by simp
  have hR := dRoom_pc x.inner (outV l x.key ++ [outer]) (by omega) (by simp; omega) (roomy_in (hok.o1000 x.key) hq)
  have hap : (outV l x.key).map encI ++ [[.int .i64 outer]] = (outV l x.key ++ [outer]).map encI := by simp [encI]
  have hd : ∀ z : Nat, decide ((z : Int) ≤ 20) = decide (z ≤ 20) := fun z => by rw [decide_eq_decide]; omega
  have hl1 : (outV l x.key ++ [outer]).length = (outV l x.key).length + 1 := by simp
  refine fn_sound (mt := mts) tab_fits tab_mixed Tryz.func41 (by rfl) (by kernel_rfl) (by kernel_rfl) Tryz.results41 (Nat.le_of_ble_eq_true (by kernel_rfl)) ?_
  conv => whnf
  repeat' (first | ((first | refine Split.mk (fun h => ?_) (fun h => ?_) | refine CondG.mk (fun h => ?_) (fun h => ?_)) <;> (try simp only [decide_eq_true_eq, decide_eq_false_iff_not, Bool.not_eq_true', Bool.not_eq_false', beq_iff_eq, beq_eq_false_iff_ne, bne_iff_ne, bne_eq_false_iff_eq] at h) <;> (first | (exfalso; first | omega | exact h trivial) | (conv => whnf))) | (refine CallX.mk _ _ (by first | exact dOuters_pc l (by omega) hok.rl x.key | exact (by rw [← hap] at hR; exact hR)) ?_; conv => whnf) | (refine CallG.mk _ _ (by first | exact dOuters_pc l (by omega) hok.rl x.key | exact (by rw [← hap] at hR; exact hR)) ?_; conv => whnf) | (refine Ask.mk (by first | omega | (unfold roomOK; simp [cutRows]; done) | (unfold roomOK; simp [cutRows]; omega) | (simp [cutRows]; done) | (simp [cutRows]; omega)) ?_; conv => whnf) | (refine AskV.mk (by first | omega | (unfold roomOK; simp [cutRows]; done) | (unfold roomOK; simp [cutRows]; omega) | (simp [cutRows]; done) | (simp [cutRows]; omega)) ?_; conv => whnf) | (refine AppG.mk (by first | omega | (unfold roomOK; simp [cutRows]; done) | (unfold roomOK; simp [cutRows]; omega) | (simp [cutRows]; done) | (simp [cutRows]; omega)) ?_; conv => whnf) | (refine SliceG.fr ?_; conv => whnf) | (refine BuildG.fr ?_; conv => whnf) | (refine idx_at _ (by with_reducible rfl) (by first | assumption | omega) ?_; conv => whnf) | ((with_reducible refine row_map (by first | assumption | omega) ?_); conv => whnf) | ((with_reducible refine row_set (by first | assumption | omega | (simp only [List.length_set]; omega) | (simp; omega)) ?_); conv => whnf) | fail)
  all_goals refine finb ?_
  all_goals unfold fitsV
  · rw [decide_eq_true (show (outV l x.key ++ [outer]).length ≤ 20 by simp [cutRows] at h; omega), Bool.true_and]
  · rw [decide_eq_false (show ¬ (outV l x.key ++ [outer]).length ≤ 20 by simp [cutRows] at h; omega), Bool.false_and]
def twoE (d : List Du) (l : List Ly) (k : ByteArray) (outer : Int) : Int := if oneE d l k ≠ 0 then oneE d l k else if outer < 1 ∨ 1000 < outer then 1 else 0
theorem twoE_ok {d : List Du} {l : List Ly} {k : ByteArray} {outer : Int} (h : twoE d l k outer = 0) : oneE d l k = 0 ∧ 0 ≤ outer ∧ outer ≤ 1000 ∧ duV d l k = duG d k := by
  unfold twoE at h
  split at h
  · exact absurd h (by assumption)
  · split at h
    · omega
    · have h1 : oneE d l k = 0 := by omega
      exact ⟨h1, by omega, by omega, by rw [duV, if_pos h1]⟩
theorem twoE_first (d : List Du) (l : List Ly) (k : ByteArray) (outer : Int) : firstErr [oneE d l k, if outer < 1 ∨ 1000 < outer then 1 else 0] = twoE d l k outer := by
  unfold twoE firstErr firstErr firstErr
  repeat' split
  all_goals omega
def mostX (d : List Du) (l : List Ly) (k : ByteArray) (outer : Int) : Nat := if twoE d l k outer = 0 then mostV (duG d k).inner (outV l k) outer (20 - (outV l k).length) else 0
set_option maxRecDepth 100000 in
set_option maxHeartbeats 4000000 in
theorem dMostX_pc (d : List Du) (l : List Ly) (hx : ∀ x ∈ l, x.ducts.length ≤ 1000000) (k : ByteArray) (outer : Int) : PCp 30 [.c (.lst 5 (d.map encDu)), .c (.lst 3 (l.map encLy)), .c (.str k), .c (.int .i64 outer)] [] (.tup [.c (.int .i64 (mostX d l k outer : Nat)), .c (.int .i64 (twoE d l k outer))]) [] := by
  refine fn_sound (mt := mts) tab_fits tab_mixed Tryz.func30 (by rfl) (by kernel_rfl) (by kernel_rfl) Tryz.results30 (Nat.le_of_ble_eq_true (by kernel_rfl)) ?_
  conv => whnf
  repeat' (first | ((first | refine Split.mk (fun h => ?_) (fun h => ?_) | refine CondG.mk (fun h => ?_) (fun h => ?_)) <;> (try simp only [decide_eq_true_eq, decide_eq_false_iff_not, Bool.not_eq_true', Bool.not_eq_false', beq_iff_eq, beq_eq_false_iff_ne, bne_iff_ne, bne_eq_false_iff_eq] at h) <;> (first | (exfalso; first | omega | exact h trivial) | (conv => whnf))) | (refine CallX.mk _ _ (by first | exact ductOf_pc d l hx k | exact dOuterFault_pc outer | exact first_pc [oneE d l k, if outer < 1 ∨ 1000 < outer then 1 else 0] (by simp)) ?_; conv => whnf) | (refine CallG.mk _ _ (by first | exact ductOf_pc d l hx k | exact dOuterFault_pc outer | exact first_pc [oneE d l k, if outer < 1 ∨ 1000 < outer then 1 else 0] (by simp)) ?_; conv => whnf) | (refine Ask.mk (by first | omega | (unfold roomOK; simp [cutRows]; done) | (unfold roomOK; simp [cutRows]; omega) | (simp [cutRows]; done) | (simp [cutRows]; omega)) ?_; conv => whnf) | (refine AskV.mk (by first | omega | (unfold roomOK; simp [cutRows]; done) | (unfold roomOK; simp [cutRows]; omega) | (simp [cutRows]; done) | (simp [cutRows]; omega)) ?_; conv => whnf) | (refine AppG.mk (by first | omega | (unfold roomOK; simp [cutRows]; done) | (unfold roomOK; simp [cutRows]; omega) | (simp [cutRows]; done) | (simp [cutRows]; omega)) ?_; conv => whnf) | (refine SliceG.fr ?_; conv => whnf) | (refine BuildG.fr ?_; conv => whnf) | (refine idx_at _ (by with_reducible rfl) (by first | assumption | omega) ?_; conv => whnf) | ((with_reducible refine row_map (by first | assumption | omega) ?_); conv => whnf) | ((with_reducible refine row_set (by first | assumption | omega | (simp only [List.length_set]; omega) | (simp; omega)) ?_); conv => whnf) | fail)
  all_goals rw [twoE_first] at *
  · exact .mk ⟨by rw [mostX, if_neg h]; rfl, rfl⟩
  have h : twoE d l k outer = 0 := by simpa using h
  obtain ⟨h1, h2, h3, h4⟩ := twoE_ok h
  obtain ⟨hok, hk, hf⟩ := oneE_ok h1
  obtain ⟨hm, _⟩ := duG_in hok.du hk
  have hi := hok.du.each _ hm
  have hll := hok.len
  rw [h4]
  repeat' (first | ((first | refine Split.mk (fun h => ?_) (fun h => ?_) | refine CondG.mk (fun h => ?_) (fun h => ?_)) <;> (try simp only [decide_eq_true_eq, decide_eq_false_iff_not, Bool.not_eq_true', Bool.not_eq_false', beq_iff_eq, beq_eq_false_iff_ne, bne_iff_ne, bne_eq_false_iff_eq] at h) <;> (first | (exfalso; first | omega | exact h trivial) | (conv => whnf))) | (refine CallX.mk _ _ (by first | exact dOuters_pc l (by omega) hok.rl k | exact dMost_pc (duG d k) (outV l k) outer (by omega) (hok.out20 hk) (hok.o1000 k) ⟨h2, h3⟩) ?_; conv => whnf) | (refine CallG.mk _ _ (by first | exact dOuters_pc l (by omega) hok.rl k | exact dMost_pc (duG d k) (outV l k) outer (by omega) (hok.out20 hk) (hok.o1000 k) ⟨h2, h3⟩) ?_; conv => whnf) | (refine Ask.mk (by first | omega | (unfold roomOK; simp [cutRows]; done) | (unfold roomOK; simp [cutRows]; omega) | (simp [cutRows]; done) | (simp [cutRows]; omega)) ?_; conv => whnf) | (refine AskV.mk (by first | omega | (unfold roomOK; simp [cutRows]; done) | (unfold roomOK; simp [cutRows]; omega) | (simp [cutRows]; done) | (simp [cutRows]; omega)) ?_; conv => whnf) | (refine AppG.mk (by first | omega | (unfold roomOK; simp [cutRows]; done) | (unfold roomOK; simp [cutRows]; omega) | (simp [cutRows]; done) | (simp [cutRows]; omega)) ?_; conv => whnf) | (refine SliceG.fr ?_; conv => whnf) | (refine BuildG.fr ?_; conv => whnf) | (refine idx_at _ (by with_reducible rfl) (by first | assumption | omega) ?_; conv => whnf) | ((with_reducible refine row_map (by first | assumption | omega) ?_); conv => whnf) | ((with_reducible refine row_set (by first | assumption | omega | (simp only [List.length_set]; omega) | (simp; omega)) ?_); conv => whnf) | fail)
  exact .mk ⟨by rw [mostX, if_pos h, h]; rfl, rfl⟩
end Go.Proofs.YthdaejnepengeaaGreatDoor

/- The graph of ducts, and the way of a cable: the walks. -/
namespace Go.Proofs.YthdaejnepengeaaGreatDoor
set_option linter.unusedVariables false
set_option linter.unusedSimpArgs false
open Abs

def edOf (cap : Du → Int) (x : Du) : Ed := ⟨x.key, x.a, x.b, x.long, cap x⟩
def netE (cap : Du → Int) (d : List Du) : List Ed := (d.filter fun x => decide (0 < cap x)).map (edOf cap)
theorem net_take (cap : Du → Int) {d : List Du} {k : Nat} (h : k < d.length) : netE cap (d.take (k + 1)) = netE cap (d.take k) ++ (if 0 < cap d[k] then [edOf cap d[k]] else []) := by
  rw [List.take_succ_eq_append_getElem h]
  unfold netE
  rw [List.filter_append, List.map_append]
  congr 1
  by_cases q : 0 < cap d[k]
  · simp [q]
  · simp [q]
theorem net_len (cap : Du → Int) (d : List Du) : (netE cap d).length ≤ d.length := by
  unfold netE; rw [List.length_map]; exact List.length_filter_le ..
theorem net_mem {cap : Du → Int} {d : List Du} {e : Ed} (h : e ∈ netE cap d) : ∃ x ∈ d, 0 < cap x ∧ e = edOf cap x := by
  unfold netE at h
  obtain ⟨x, hx, rfl⟩ := List.mem_map.1 h
  have := List.mem_filter.1 hx
  exact ⟨x, this.1, by simpa using this.2, rfl⟩
set_option maxRecDepth 100000 in
set_option maxHeartbeats 4000000 in
theorem pass_pc (s : ByteArray) : PCp 49 [.c (.str s)] [] (.c (.bool true)) [] := by
  refine fn_sound (mt := mts) tab_fits tab_mixed Tryz.func49 (by rfl) (by kernel_rfl) (by kernel_rfl) Tryz.results49 (Nat.le_of_ble_eq_true (by kernel_rfl)) ?_
  conv => whnf
  repeat' (first | ((first | refine Split.mk (fun h => ?_) (fun h => ?_) | refine CondG.mk (fun h => ?_) (fun h => ?_)) <;> (try simp only [decide_eq_true_eq, decide_eq_false_iff_not, Bool.not_eq_true', Bool.not_eq_false', beq_iff_eq, beq_eq_false_iff_ne, bne_iff_ne, bne_eq_false_iff_eq] at h) <;> (first | (exfalso; first | omega | exact h trivial) | (conv => whnf))) | (refine Ask.mk (by first | omega | (unfold roomOK; simp [cutRows]; done) | (unfold roomOK; simp [cutRows]; omega) | (simp [cutRows]; done) | (simp [cutRows]; omega)) ?_; conv => whnf) | (refine AskV.mk (by first | omega | (unfold roomOK; simp [cutRows]; done) | (unfold roomOK; simp [cutRows]; omega) | (simp [cutRows]; done) | (simp [cutRows]; omega)) ?_; conv => whnf) | (refine AppG.mk (by first | omega | (unfold roomOK; simp [cutRows]; done) | (unfold roomOK; simp [cutRows]; omega) | (simp [cutRows]; done) | (simp [cutRows]; omega)) ?_; conv => whnf) | (refine SliceG.fr ?_; conv => whnf) | (refine BuildG.fr ?_; conv => whnf) | (refine idx_at _ (by with_reducible rfl) (by first | assumption | omega) ?_; conv => whnf) | ((with_reducible refine row_map (by first | assumption | omega) ?_); conv => whnf) | ((with_reducible refine row_set (by first | assumption | omega | (simp only [List.length_set]; omega) | (simp; omega)) ?_); conv => whnf) | fail)
  exact finb rfl
set_option maxRecDepth 100000 in
set_option maxHeartbeats 4000000 in
theorem network_pc (g : Nat) (cap : Du → Int) (d : List Du) (l : List Ly) (outer : Int) (hd : d.length ≤ 1000)
    (hg : ∀ x ∈ d, PCp g [.agg (encDu x), .c (.ptr 0 0), .c (.ptr 1 0)] [.box [.lst 3 (l.map encLy)], .box [.int .i64 outer]] (.c (.int .i64 (cap x))) [.box [.lst 3 (l.map encLy)], .box [.int .i64 outer]]) :
    PCp 22 [.c (.lst 5 (d.map encDu)), .c (.fn g [.ptr 0 0, .ptr 1 0])] [.box [.lst 3 (l.map encLy)], .box [.int .i64 outer]] (gphS (netE cap d) 49) [.box [.lst 3 (l.map encLy)], .box [.int .i64 outer]] := by
  have hdm : (d.map encDu).length = d.length := List.length_map ..
  refine fn_sound (mt := mts) tab_fits tab_mixed Tryz.func22 (by rfl) (by kernel_rfl) (by kernel_rfl) Tryz.results22 (Nat.le_of_ble_eq_true (by kernel_rfl)) ?_
  conv => whnf
  repeat' (first | ((first | refine Split.mk (fun h => ?_) (fun h => ?_) | refine CondG.mk (fun h => ?_) (fun h => ?_)) <;> (try simp only [decide_eq_true_eq, decide_eq_false_iff_not, Bool.not_eq_true', Bool.not_eq_false', beq_iff_eq, beq_eq_false_iff_ne, bne_iff_ne, bne_eq_false_iff_eq] at h) <;> (first | (exfalso; first | omega | exact h trivial) | (conv => whnf))) | (refine Ask.mk (by first | omega | (unfold roomOK; simp [cutRows]; done) | (unfold roomOK; simp [cutRows]; omega) | (simp [cutRows]; done) | (simp [cutRows]; omega)) ?_; conv => whnf) | (refine AskV.mk (by first | omega | (unfold roomOK; simp [cutRows]; done) | (unfold roomOK; simp [cutRows]; omega) | (simp [cutRows]; done) | (simp [cutRows]; omega)) ?_; conv => whnf) | (refine AppG.mk (by first | omega | (unfold roomOK; simp [cutRows]; done) | (unfold roomOK; simp [cutRows]; omega) | (simp [cutRows]; done) | (simp [cutRows]; omega)) ?_; conv => whnf) | (refine SliceG.fr ?_; conv => whnf) | (refine BuildG.fr ?_; conv => whnf) | (refine idx_at _ (by with_reducible rfl) (by first | assumption | omega) ?_; conv => whnf) | ((with_reducible refine row_map (by first | assumption | omega) ?_); conv => whnf) | ((with_reducible refine row_set (by first | assumption | omega | (simp only [List.length_set]; omega) | (simp; omega)) ?_); conv => whnf) | fail)
  refine loop_for (d.length) [.bx 5 0 101 5] [1, 4, 5, 10, 11, 12] (fun k (_ : Unit) => [(12, .c (.int .i64 (k : Int)))]) (fun k (_ : Unit) => [(4, .row 101 5 ((netE cap (d.take k)).map encEd))]) (fun k (_ : Unit) => True) (()) ?_
  conv => whnf
  refine ⟨?_, (by trivial), ?_, ?_⟩
  · rfl
  · intro k _ hk _
    have hnt := net_take cap hk
    have hnl := net_len cap (d.take k)
    rw [List.length_take] at hnl
    have hnm : ((netE cap (d.take k)).map encEd).length = (netE cap (d.take k)).length := List.length_map ..
    have cg := hg d[k] (List.getElem_mem hk)
    conv => whnf
    repeat' (first | ((first | refine Split.mk (fun h => ?_) (fun h => ?_) | refine CondG.mk (fun h => ?_) (fun h => ?_)) <;> (try simp only [decide_eq_true_eq, decide_eq_false_iff_not, Bool.not_eq_true', Bool.not_eq_false', beq_iff_eq, beq_eq_false_iff_ne, bne_iff_ne, bne_eq_false_iff_eq] at h) <;> (first | (exfalso; first | omega | exact h trivial) | (conv => whnf))) | (refine CallX.mk _ _ (by first | exact cg) ?_; conv => whnf) | (refine CallG.mk _ _ (by first | exact cg) ?_; conv => whnf) | (refine Ask.mk (by first | omega | (unfold roomOK; simp [cutRows]; done) | (unfold roomOK; simp [cutRows]; omega) | (simp [cutRows]; done) | (simp [cutRows]; omega)) ?_; conv => whnf) | (refine AskV.mk (by first | omega | (unfold roomOK; simp [cutRows]; done) | (unfold roomOK; simp [cutRows]; omega) | (simp [cutRows]; done) | (simp [cutRows]; omega)) ?_; conv => whnf) | (refine AppG.mk (by first | omega | (unfold roomOK; simp [cutRows]; done) | (unfold roomOK; simp [cutRows]; omega) | (simp [cutRows]; done) | (simp [cutRows]; omega)) ?_; conv => whnf) | (refine SliceG.fr ?_; conv => whnf) | (refine BuildG.fr ?_; conv => whnf) | (refine idx_at _ (by with_reducible rfl) (by first | assumption | omega) ?_; conv => whnf) | ((with_reducible refine row_map (by first | assumption | omega) ?_); conv => whnf) | ((with_reducible refine row_set (by first | assumption | omega | (simp only [List.length_set]; omega) | (simp; omega)) ?_); conv => whnf) | fail)
    · have h9 : 0 < cap d[k] := by omega
      rw [if_pos h9] at hnt
      exact count_next () hk (by rw [wrap_succ hk (by omega), hnt, List.map_append]; rfl) trivial
    · have h9 : ¬ 0 < cap d[k] := by omega
      rw [if_neg h9, List.append_nil] at hnt
      exact count_next () hk (by rw [wrap_succ hk (by omega), hnt]; rfl) trivial
  · intro _ _
    rw [List.take_length]
    conv => whnf
    repeat' (first | ((first | refine Split.mk (fun h => ?_) (fun h => ?_) | refine CondG.mk (fun h => ?_) (fun h => ?_)) <;> (try simp only [decide_eq_true_eq, decide_eq_false_iff_not, Bool.not_eq_true', Bool.not_eq_false', beq_iff_eq, beq_eq_false_iff_ne, bne_iff_ne, bne_eq_false_iff_eq] at h) <;> (first | (exfalso; first | omega | exact h trivial) | (conv => whnf))) | (refine Ask.mk (by first | omega | (unfold roomOK; simp [cutRows]; done) | (unfold roomOK; simp [cutRows]; omega) | (simp [cutRows]; done) | (simp [cutRows]; omega)) ?_; conv => whnf) | (refine AskV.mk (by first | omega | (unfold roomOK; simp [cutRows]; done) | (unfold roomOK; simp [cutRows]; omega) | (simp [cutRows]; done) | (simp [cutRows]; omega)) ?_; conv => whnf) | (refine AppG.mk (by first | omega | (unfold roomOK; simp [cutRows]; done) | (unfold roomOK; simp [cutRows]; omega) | (simp [cutRows]; done) | (simp [cutRows]; omega)) ?_; conv => whnf) | (refine SliceG.fr ?_; conv => whnf) | (refine BuildG.fr ?_; conv => whnf) | (refine idx_at _ (by with_reducible rfl) (by first | assumption | omega) ?_; conv => whnf) | ((with_reducible refine row_map (by first | assumption | omega) ?_); conv => whnf) | ((with_reducible refine row_set (by first | assumption | omega | (simp only [List.length_set]; omega) | (simp; omega)) ?_); conv => whnf) | fail)
    exact .mk ⟨rfl, rfl⟩
theorem du_ends {d : List Du} (h : duFault d = 0) : ∀ x ∈ d, x.a.size ≠ 0 ∧ x.b.size ≠ 0 ∧ x.a ≠ x.b := by
  unfold duFault at h
  split at h
  · omega
  · intro x hx
    obtain ⟨f, b, h1⟩ := seqErr_all h x hx
    unfold duErr at h1
    split at h1
    · omega
    · rename_i h2
      simp only [Bool.or_eq_true, Bool.not_eq_true', not_or, Bool.not_eq_false] at h2
      split at h1
      · omega
      · rename_i h3
        have hz : ∀ s : ByteArray, keyB s = true → s.size ≠ 0 := fun s hs => by
          unfold keyB at hs
          simp only [decide_eq_true_eq] at hs
          omega
        exact ⟨hz _ h2.1.2, hz _ h2.2, fun q => h3 (by simp [q])⟩
def fitCap (l : List Ly) (outer : Int) (x : Du) : Int := if fitsV x l outer = true then 1 else 0
set_option maxRecDepth 100000 in
set_option maxHeartbeats 4000000 in
theorem way1_pc (d : List Du) (l : List Ly) (hok : LyOk d l) (outer : Int) (hq : 0 ≤ outer ∧ outer ≤ 1000) (x : Du) (hx : x ∈ d) : PCp 40 [.agg (encDu x), .c (.ptr 0 0), .c (.ptr 1 0)] [.box [.lst 3 (l.map encLy)], .box [.int .i64 outer]] (.c (.int .i64 (fitCap l outer x))) [.box [.lst 3 (l.map encLy)], .box [.int .i64 outer]] := by
  refine fn_sound (mt := mts) tab_fits tab_mixed Tryz.func40 (by rfl) (by kernel_rfl) (by kernel_rfl) Tryz.results40 (Nat.le_of_ble_eq_true (by kernel_rfl)) ?_
  conv => whnf
  repeat' (first | ((first | refine Split.mk (fun h => ?_) (fun h => ?_) | refine CondG.mk (fun h => ?_) (fun h => ?_)) <;> (try simp only [decide_eq_true_eq, decide_eq_false_iff_not, Bool.not_eq_true', Bool.not_eq_false', beq_iff_eq, beq_eq_false_iff_ne, bne_iff_ne, bne_eq_false_iff_eq] at h) <;> (first | (exfalso; first | omega | exact h trivial) | (conv => whnf))) | (refine CallX.mk _ _ (by first | exact dFits_pc d l hok x hx outer hq) ?_; conv => whnf) | (refine CallG.mk _ _ (by first | exact dFits_pc d l hok x hx outer hq) ?_; conv => whnf) | (refine Ask.mk (by first | omega | (unfold roomOK; simp [cutRows]; done) | (unfold roomOK; simp [cutRows]; omega) | (simp [cutRows]; done) | (simp [cutRows]; omega)) ?_; conv => whnf) | (refine AskV.mk (by first | omega | (unfold roomOK; simp [cutRows]; done) | (unfold roomOK; simp [cutRows]; omega) | (simp [cutRows]; done) | (simp [cutRows]; omega)) ?_; conv => whnf) | (refine AppG.mk (by first | omega | (unfold roomOK; simp [cutRows]; done) | (unfold roomOK; simp [cutRows]; omega) | (simp [cutRows]; done) | (simp [cutRows]; omega)) ?_; conv => whnf) | (refine SliceG.fr ?_; conv => whnf) | (refine BuildG.fr ?_; conv => whnf) | (refine idx_at _ (by with_reducible rfl) (by first | assumption | omega) ?_; conv => whnf) | ((with_reducible refine row_map (by first | assumption | omega) ?_); conv => whnf) | ((with_reducible refine row_set (by first | assumption | omega | (simp only [List.length_set]; omega) | (simp; omega)) ?_); conv => whnf) | fail)
  · exact .mk ⟨by rw [fitCap, if_pos (by assumption)]; rfl, rfl⟩
  · exact .mk ⟨by rw [fitCap, if_neg (by rw [show fitsV x l outer = false by assumption]; decide)]; rfl, rfl⟩
theorem net_ok {d : List Du} (h : duFault d = 0) (cap : Du → Int) : EdsOk (netE cap d) ∧ (∀ e ∈ netE cap d, e.a.size ≠ 0 ∧ e.b.size ≠ 0) ∧ Rise Ed.key (netE cap d) := by
  have hd := duFault_ok h
  have he := du_ends h
  refine ⟨fun e hm => ?_, fun e hm => ?_, ?_⟩
  · obtain ⟨x, hx, _, rfl⟩ := net_mem hm
    have := hd.each x hx
    exact ⟨(he x hx).2.2, this.2.1, this.2.2.1⟩
  · obtain ⟨x, hx, _, rfl⟩ := net_mem hm
    exact ⟨(he x hx).1, (he x hx).2.1⟩
  · unfold Rise netE
    rw [List.pairwise_map]
    exact hd.rise.sublist List.filter_sublist
theorem sumLg_in : ∀ P : List Ed, (∀ e ∈ P, 1 ≤ e.long ∧ e.long ≤ 200000) → 0 ≤ sumLg P ∧ sumLg P ≤ 200000 * (P.length : Int)
  | [], _ => by simp [sumLg]
  | e :: r, h => by
    have ih := sumLg_in r (fun x hx => h x (by simp [hx]))
    have he := h e (by simp)
    simp only [sumLg, List.length_cons]
    push_cast
    omega
set_option maxRecDepth 100000 in
set_option maxHeartbeats 4000000 in
theorem way_pc (d : List Du) (l : List Ly) (h0 : duFault d = 0) (hok : LyOk d l) (fr to : ByteArray) (hto : to.size ≠ 0) (outer : Int) (hq : 0 ≤ outer ∧ outer ≤ 1000) :
    PCq 15 [.c (.lst 5 (d.map encDu)), .c (.lst 3 (l.map encLy)), .c (.str fr), .c (.str to), .c (.int .i64 outer)] [] fun r os => ∃ g : CM, Costs (netE (fitCap l outer) d) to (sitesE (netE (fitCap l outer) d) to) g ∧
      ((g.get fr = none ∧ r = .tup [.c (.lst 1 []), .c (.int .i64 0), .c (.bool false)] ∧ os = []) ∨ ∃ c P, FW (netE (fitCap l outer) d) g to fr to c P ∧ r = .tup [.c (.row 0), .c (.int .i64 (sumLg P)), .c (.bool true)] ∧ os = [.row 9 1 ((P.map Ed.key).map encS)]) := by
  have hd := hok.du
  obtain ⟨n1, n2, n3⟩ := net_ok h0 (fitCap l outer)
  have hnl := net_len (fitCap l outer) d
  have hdl := hd.len
  refine fn_soundX (mt := mts) tab_fits tab_mixed Tryz.func15 (by rfl) (by kernel_rfl) (by kernel_rfl) Tryz.results15 (Nat.le_of_ble_eq_true (by kernel_rfl)) ?_
  conv => whnf
  repeat' (first | ((first | refine Split.mk (fun h => ?_) (fun h => ?_) | refine CondG.mk (fun h => ?_) (fun h => ?_)) <;> (try simp only [decide_eq_true_eq, decide_eq_false_iff_not, Bool.not_eq_true', Bool.not_eq_false', beq_iff_eq, beq_eq_false_iff_ne, bne_iff_ne, bne_eq_false_iff_eq] at h) <;> (first | (exfalso; first | omega | exact h trivial) | (conv => whnf))) | (refine CallX.mk _ _ (by first | exact network_pc 40 (fitCap l outer) d l outer (by omega) (fun x hx => way1_pc d l hok outer hq x hx)) ?_; conv => whnf) | (refine CallG.mk _ _ (by first | exact network_pc 40 (fitCap l outer) d l outer (by omega) (fun x hx => way1_pc d l hok outer hq x hx)) ?_; conv => whnf) | (refine Ask.mk (by first | omega | (unfold roomOK; simp [cutRows]; done) | (unfold roomOK; simp [cutRows]; omega) | (simp [cutRows]; done) | (simp [cutRows]; omega)) ?_; conv => whnf) | (refine AskV.mk (by first | omega | (unfold roomOK; simp [cutRows]; done) | (unfold roomOK; simp [cutRows]; omega) | (simp [cutRows]; done) | (simp [cutRows]; omega)) ?_; conv => whnf) | (refine AppG.mk (by first | omega | (unfold roomOK; simp [cutRows]; done) | (unfold roomOK; simp [cutRows]; omega) | (simp [cutRows]; done) | (simp [cutRows]; omega)) ?_; conv => whnf) | (refine SliceG.fr ?_; conv => whnf) | (refine BuildG.fr ?_; conv => whnf) | (refine idx_at _ (by with_reducible rfl) (by first | assumption | omega) ?_; conv => whnf) | ((with_reducible refine row_map (by first | assumption | omega) ?_); conv => whnf) | ((with_reducible refine row_set (by first | assumption | omega | (simp only [List.length_set]; omega) | (simp; omega)) ?_); conv => whnf) | fail)
  refine .ex _ (gBest_pc (netE (fitCap l outer) d) fr to 49 pass_pc n1 n2 hto (by omega) n3) ?_
  rintro _ _ ⟨g, hC, rfl, ⟨hn, rfl⟩ | ⟨c, P, hF, rfl⟩⟩
  · have hz : ([] : List (List V)).length = 0 := rfl
    conv => whnf
    repeat' (first | ((first | refine Split.mk (fun h => ?_) (fun h => ?_) | refine CondG.mk (fun h => ?_) (fun h => ?_)) <;> (try simp only [decide_eq_true_eq, decide_eq_false_iff_not, Bool.not_eq_true', Bool.not_eq_false', beq_iff_eq, beq_eq_false_iff_ne, bne_iff_ne, bne_eq_false_iff_eq] at h) <;> (first | (exfalso; first | omega | exact h trivial) | (conv => whnf))) | (refine Ask.mk (by first | omega | (unfold roomOK; simp [cutRows]; done) | (unfold roomOK; simp [cutRows]; omega) | (simp [cutRows]; done) | (simp [cutRows]; omega)) ?_; conv => whnf) | (refine AskV.mk (by first | omega | (unfold roomOK; simp [cutRows]; done) | (unfold roomOK; simp [cutRows]; omega) | (simp [cutRows]; done) | (simp [cutRows]; omega)) ?_; conv => whnf) | (refine AppG.mk (by first | omega | (unfold roomOK; simp [cutRows]; done) | (unfold roomOK; simp [cutRows]; omega) | (simp [cutRows]; done) | (simp [cutRows]; omega)) ?_; conv => whnf) | (refine SliceG.fr ?_; conv => whnf) | (refine BuildG.fr ?_; conv => whnf) | (refine idx_at _ (by with_reducible rfl) (by first | assumption | omega) ?_; conv => whnf) | ((with_reducible refine row_map (by first | assumption | omega) ?_); conv => whnf) | ((with_reducible refine row_set (by first | assumption | omega | (simp only [List.length_set]; omega) | (simp; omega)) ?_); conv => whnf) | fail)
    refine .un 1 ?_
    conv => whnf
    repeat' (first | ((first | refine Split.mk (fun h => ?_) (fun h => ?_) | refine CondG.mk (fun h => ?_) (fun h => ?_)) <;> (try simp only [decide_eq_true_eq, decide_eq_false_iff_not, Bool.not_eq_true', Bool.not_eq_false', beq_iff_eq, beq_eq_false_iff_ne, bne_iff_ne, bne_eq_false_iff_eq] at h) <;> (first | (exfalso; first | omega | exact h trivial) | (conv => whnf))) | (refine Ask.mk (by first | omega | (unfold roomOK; simp [cutRows]; done) | (unfold roomOK; simp [cutRows]; omega) | (simp [cutRows]; done) | (simp [cutRows]; omega)) ?_; conv => whnf) | (refine AskV.mk (by first | omega | (unfold roomOK; simp [cutRows]; done) | (unfold roomOK; simp [cutRows]; omega) | (simp [cutRows]; done) | (simp [cutRows]; omega)) ?_; conv => whnf) | (refine AppG.mk (by first | omega | (unfold roomOK; simp [cutRows]; done) | (unfold roomOK; simp [cutRows]; omega) | (simp [cutRows]; done) | (simp [cutRows]; omega)) ?_; conv => whnf) | (refine SliceG.fr ?_; conv => whnf) | (refine BuildG.fr ?_; conv => whnf) | (refine idx_at _ (by with_reducible rfl) (by first | assumption | omega) ?_; conv => whnf) | ((with_reducible refine row_map (by first | assumption | omega) ?_); conv => whnf) | ((with_reducible refine row_set (by first | assumption | omega | (simp only [List.length_set]; omega) | (simp; omega)) ?_); conv => whnf) | fail)
    refine .mk _ _ ⟨g, hC, .inl ⟨hn, rfl, rfl⟩⟩ (.weak [] (.tup _ _ rfl ?_) rfl (Nat.le_refl _))
    intro i x y hx hy
    match i with
    | 0 => cases hx; cases hy; exact .nil 1
    | 1 => cases hx; cases hy; exact .refl _
    | 2 => cases hx; cases hy; exact .refl _
    | n + 3 => cases hx
  · have hPl := hF.few hC
    rw [sitesE_len] at hPl
    have hPm : (P.map encEd).length = P.length := List.length_map ..
    conv => whnf
    repeat' (first | ((first | refine Split.mk (fun h => ?_) (fun h => ?_) | refine CondG.mk (fun h => ?_) (fun h => ?_)) <;> (try simp only [decide_eq_true_eq, decide_eq_false_iff_not, Bool.not_eq_true', Bool.not_eq_false', beq_iff_eq, beq_eq_false_iff_ne, bne_iff_ne, bne_eq_false_iff_eq] at h) <;> (first | (exfalso; first | omega | exact h trivial) | (conv => whnf))) | (refine Ask.mk (by first | omega | (unfold roomOK; simp [cutRows]; done) | (unfold roomOK; simp [cutRows]; omega) | (simp [cutRows]; done) | (simp [cutRows]; omega)) ?_; conv => whnf) | (refine AskV.mk (by first | omega | (unfold roomOK; simp [cutRows]; done) | (unfold roomOK; simp [cutRows]; omega) | (simp [cutRows]; done) | (simp [cutRows]; omega)) ?_; conv => whnf) | (refine AppG.mk (by first | omega | (unfold roomOK; simp [cutRows]; done) | (unfold roomOK; simp [cutRows]; omega) | (simp [cutRows]; done) | (simp [cutRows]; omega)) ?_; conv => whnf) | (refine SliceG.fr ?_; conv => whnf) | (refine BuildG.fr ?_; conv => whnf) | (refine idx_at _ (by with_reducible rfl) (by first | assumption | omega) ?_; conv => whnf) | ((with_reducible refine row_map (by first | assumption | omega) ?_); conv => whnf) | ((with_reducible refine row_set (by first | assumption | omega | (simp only [List.length_set]; omega) | (simp; omega)) ?_); conv => whnf) | fail)
    refine loop_for (P.length) [.sl 10 9 1] [10, 11, 12, 27, 28, 29] (fun k (_ : Unit) => [(11, .c (.int .i64 (sumLg (P.take k)))), (29, .c (.int .i64 (k : Int)))]) (fun k (_ : Unit) => [(0, .row 9 1 (((P.take k).map Ed.key).map encS))]) (fun k (_ : Unit) => True) (()) ?_
    conv => whnf
    refine ⟨?_, (by trivial), ?_, ?_⟩
    · rfl
    · intro k _ hk _
      have hs1 : sumLg (P.take (k + 1)) = sumLg (P.take k) + P[k].long := by
        rw [List.take_succ_eq_append_getElem hk, sumLg_app]; simp [sumLg]
      have hk1 : (P.take (k + 1)).map Ed.key = (P.take k).map Ed.key ++ [P[k].key] := by
        rw [List.take_succ_eq_append_getElem hk, List.map_append]; rfl
      have hin := sumLg_in (P.take k) (fun e he => (n1 e (hF.sub e (List.mem_of_mem_take he))).2)
      have hek := (n1 _ (hF.sub _ (List.getElem_mem hk))).2
      have htl : (P.take k).length = k := by rw [List.length_take]; omega
      have hkl : (((P.take k).map Ed.key).map encS).length = k := by rw [List.length_map, List.length_map, htl]
      rw [htl] at hin
      conv => whnf
      repeat' (first | ((first | refine Split.mk (fun h => ?_) (fun h => ?_) | refine CondG.mk (fun h => ?_) (fun h => ?_)) <;> (try simp only [decide_eq_true_eq, decide_eq_false_iff_not, Bool.not_eq_true', Bool.not_eq_false', beq_iff_eq, beq_eq_false_iff_ne, bne_iff_ne, bne_eq_false_iff_eq] at h) <;> (first | (exfalso; first | omega | exact h trivial) | (conv => whnf))) | (refine Ask.mk (by first | omega | (unfold roomOK; simp [cutRows]; done) | (unfold roomOK; simp [cutRows]; omega) | (simp [cutRows]; done) | (simp [cutRows]; omega)) ?_; conv => whnf) | (refine AskV.mk (by first | omega | (unfold roomOK; simp [cutRows]; done) | (unfold roomOK; simp [cutRows]; omega) | (simp [cutRows]; done) | (simp [cutRows]; omega)) ?_; conv => whnf) | (refine AppG.mk (by first | omega | (unfold roomOK; simp [cutRows]; done) | (unfold roomOK; simp [cutRows]; omega) | (simp [cutRows]; done) | (simp [cutRows]; omega)) ?_; conv => whnf) | (refine SliceG.fr ?_; conv => whnf) | (refine BuildG.fr ?_; conv => whnf) | (refine idx_at _ (by with_reducible rfl) (by first | assumption | omega) ?_; conv => whnf) | ((with_reducible refine row_map (by first | assumption | omega) ?_); conv => whnf) | ((with_reducible refine row_set (by first | assumption | omega | (simp only [List.length_set]; omega) | (simp; omega)) ?_); conv => whnf) | fail)
      exact count_next () hk (by rw [wrap_succ hk (by omega), wrap_in (by omega) (by omega), hs1, hk1, List.map_append]; rfl) trivial
    · intro _ _
      rw [List.take_length]
      conv => whnf
      repeat' (first | ((first | refine Split.mk (fun h => ?_) (fun h => ?_) | refine CondG.mk (fun h => ?_) (fun h => ?_)) <;> (try simp only [decide_eq_true_eq, decide_eq_false_iff_not, Bool.not_eq_true', Bool.not_eq_false', beq_iff_eq, beq_eq_false_iff_ne, bne_iff_ne, bne_eq_false_iff_eq] at h) <;> (first | (exfalso; first | omega | exact h trivial) | (conv => whnf))) | (refine Ask.mk (by first | omega | (unfold roomOK; simp [cutRows]; done) | (unfold roomOK; simp [cutRows]; omega) | (simp [cutRows]; done) | (simp [cutRows]; omega)) ?_; conv => whnf) | (refine AskV.mk (by first | omega | (unfold roomOK; simp [cutRows]; done) | (unfold roomOK; simp [cutRows]; omega) | (simp [cutRows]; done) | (simp [cutRows]; omega)) ?_; conv => whnf) | (refine AppG.mk (by first | omega | (unfold roomOK; simp [cutRows]; done) | (unfold roomOK; simp [cutRows]; omega) | (simp [cutRows]; done) | (simp [cutRows]; omega)) ?_; conv => whnf) | (refine SliceG.fr ?_; conv => whnf) | (refine BuildG.fr ?_; conv => whnf) | (refine idx_at _ (by with_reducible rfl) (by first | assumption | omega) ?_; conv => whnf) | ((with_reducible refine row_map (by first | assumption | omega) ?_); conv => whnf) | ((with_reducible refine row_set (by first | assumption | omega | (simp only [List.length_set]; omega) | (simp; omega)) ?_); conv => whnf) | fail)
      exact .mk _ _ ⟨g, hC, .inr ⟨c, P, hF, rfl, rfl⟩⟩ (.mk ⟨rfl, rfl⟩)
end Go.Proofs.YthdaejnepengeaaGreatDoor

/- Go's sort of strings, by the kit's contract of it, as a contract of the abstract walk. -/
namespace Go.Proofs.YthdaejnepengeaaGreatDoor
set_option linter.unusedVariables false
set_option linter.unusedSimpArgs false
open Go.Shelf Go.Sort Go.RowKit
namespace Abs
theorem bytesLess_dec : ∀ (x y : List UInt8), Op.bytesLess x y = decide (x < y)
  | [], [] => by simp [Op.bytesLess]
  | _ :: _, [] => by simp [Op.bytesLess]
  | [], _ :: _ => by simp [Op.bytesLess]
  | a :: x, b :: y => by
    rw [Op.bytesLess, bytesLess_dec x y]
    simp only [List.cons_lt_cons_iff]
    by_cases h1 : a < b <;> by_cases h2 : a = b <;> by_cases h3 : x < y <;> simp [h1, h2, h3]
theorem le_ltL {x y : List UInt8} : decide (x ≤ y) = !Op.bytesLess y x := by
  rw [bytesLess_dec, Bool.eq_iff_iff]
  simp only [decide_eq_true_eq, Bool.not_eq_true', decide_eq_false_iff_not]
  exact Iff.rfl
def unS (x : List UInt8) : ByteArray := ⟨x.toArray⟩
theorem unS_list (x : List UInt8) : (unS x).toList = x := by rw [ByteArray.toList_eq]; rfl
theorem unS_data (b : ByteArray) : unS b.data.toList = b := by cases b; rfl
theorem mergeS_eq (l : List ByteArray) : (((l.map fun b => b.data.toList).mergeSort fun x y => decide (x ≤ y)).map unS) = insSort cmpS l := by
  have hp : (((l.map fun b => b.data.toList).mergeSort fun x y => decide (x ≤ y)).map unS).Perm l := by
    have h1 := (List.mergeSort_perm (l.map fun b => b.data.toList) (fun x y => decide (x ≤ y))).map unS
    rw [List.map_map] at h1
    have h2 : l.map (unS ∘ fun b => b.data.toList) = l := by
      conv => rhs; rw [← List.map_id l]
      apply List.map_congr_left
      intro x _
      exact unS_data x
    rwa [h2] at h1
  have hs := List.pairwise_mergeSort (le := fun x y : List UInt8 => decide (x ≤ y)) (by
    intro a b c h1 h2
    rw [le_ltL] at *
    simp only [Bool.not_eq_true'] at *
    rcases ltL_tri c a with h3 | h3 | h3
    · rcases ltL_tri b c with h4 | h4 | h4
      · rw [ltL_trans h4 h3] at h1; cases h1
      · subst h4; rw [h3] at h1; cases h1
      · rw [h4] at h2; cases h2
    · subst h3; exact ltL_irr _
    · cases h5 : Op.bytesLess c a with
      | false => rfl
      | true => have := ltL_trans h3 h5; rw [ltL_irr] at this; cases this) (by
    intro a b
    rw [le_ltL, le_ltL]
    rcases ltL_tri a b with h3 | h3 | h3
    · cases h5 : Op.bytesLess b a with
      | false => rfl
      | true => have := ltL_trans h3 h5; rw [ltL_irr] at this; cases this
    · subst h3; rw [ltL_irr]; rfl
    · cases h5 : Op.bytesLess a b with
      | false => simp
      | true => have := ltL_trans h3 h5; rw [ltL_irr] at this; cases this) (l.map fun b => b.data.toList)
  refine sorted_one (c := cmpS) (swo_key id) ?_ (hp.trans (insSort_perm cmpS l).symm) ?_ (insSort_srt (swo_key id) l)
  · intro x y h1 h2
    rw [cmp_lt] at h1 h2
    rcases ltB_tri x y with h | h | h
    · exact (h1 h).elim
    · exact h
    · exact (h2 h).elim
  · rw [List.pairwise_map]
    refine hs.imp ?_
    intro x y h
    rw [le_ltL] at h
    rw [cmp_lt]
    unfold ltB
    rw [unS_list, unS_list]
    simpa using h
variable {P : Program} {ρ : Ren}
theorem strs_flat (l : List ByteArray) : (l.map encS).flatten = l.map V.str := by
  induction l with
  | nil => rfl
  | cons a r ih => rw [List.map_cons, List.flatten_cons, ih]; rfl
theorem sortS_any (L : Lays.n190 P ρ) (hb : ∃ fn, P.funcs[ρ.f 190]? = some fn ∧ (fn.name == "runtime.NumGoroutine") = false ∧ fn.body.isNone = false) (e : Nat) (l : List ByteArray) (hl : l.length < 1000000000000) :
    PCs P (ρ.f 190) [.c (.row 0)] [.row e 1 (l.map encS)] (.tup []) [.row e 1 ((insSort cmpS l).map encS)] := by
  refine ⟨hb, fun F φ w cargs hargs hobj hφ => ?_⟩
  obtain ⟨c0, cs1, e1, r0, hargs⟩ := hargs.cons_inv
  have e3 := hargs.nil_inv
  subst e3
  have hφ0 : φ 0 = some c0 := by
    cases r0 with | c h => cases h with
      | tree h => cases h
      | row _ _ h => exact h
  have hca : cargs = #[c0] := Array.ext' e1
  subst hca
  have hob : nth [Ob.row e 1 (l.map encS)] 0 = some (.row e 1 (l.map encS)) := rfl
  have ho := hobj.objs 0 _ hob
  have zero : ∀ (p : Option Addr) (cap : Nat), l = [] → c0 = .slice p 0 cap → Calls P (ρ.f 190) #[c0] w fun ee w' => ∃ cc F' φ' r objs', (one (.tup []) [.row e 1 ((insSort cmpS l).map encS)]) r objs' ∧ ee = .returned cc ∧ RS F' φ' w' cc r ∧ Nx F φ w (nth [Ob.row e 1 (l.map encS)]) (fun l_1 => [Ob.row e 1 (l.map encS)].length ≤ l_1) (chOf 0 objs') F' φ' w' := by
    intro p cap h0 hc0
    subst h0 hc0
    refine (Any.slices_Sort_string_none L p cap w).mono ?_
    rintro ee w' ⟨rfl, rfl⟩
    exact ⟨.tuple #[], F, φ, .tup [], [.row e 1 []], ⟨rfl, rfl⟩, rfl, .tup _ _ rfl (fun j c x h => by simp at h), Nx.same hobj⟩
  rcases ho with ⟨cv, xs, h1, h2, ⟨⟨hxl, hown⟩, hroomy⟩, h4, h5⟩ | ⟨h0, p, h1⟩
  · rw [hφ0] at h1; cases h1
    rcases hown with ⟨hv, hn0⟩ | ⟨gb, cap, cur, hv, _, hh, hcap, hmx, hcs, htk⟩
    · exact zero none 0 (by simpa using hn0) hv
    · rcases Nat.eq_zero_or_pos l.length with hn | hn
      · exact zero (some ⟨gb, 0, none⟩) cap (List.length_eq_zero_iff.1 hn) (by rw [hv]; simp [hn])
      · subst hv
        simp only [List.length_map, Nat.mul_one] at *
        have hFb : ¬ F gb := h2 gb (by cases cap with | zero => omega | succ => rfl)
        have hxs : xs = l.map fun b => Value.string b := by
          rw [strs_flat] at h4
          apply List.ext_getElem?
          intro j
          by_cases hj : j < l.length
          · have q1 : xs[j]? = some xs[j] := List.getElem?_eq_getElem (by rw [hxl]; exact hj)
            have q2 : (l.map V.str)[j]? = some (.str l[j]) := by simp [hj]
            have q3 := h4.2 j _ _ q1 q2
            rw [q1]
            have q4 : xs[j] = Value.string l[j] := by
              generalize xs[j] = z at q3
              cases q3; rfl
            rw [q4]; simp [hj]
          · rw [List.getElem?_eq_none (by omega), List.getElem?_eq_none (by simp; omega)]
        have hcell : ∀ j (hj : j < l.length), cur[j]? = some (Value.string l[j]) := by
          intro j hj
          have q1 : (cur.toList.take l.length)[j]? = xs[j]? := by rw [htk]
          rw [List.getElem?_take, if_pos hj, Array.getElem?_toList] at q1
          rw [q1, hxs]; simp [hj]
        let ss : List (List UInt8) := l.map fun b => b.data.toList
        have hss : ss.length = l.length := by simp [ss]
        have hH : Holds encStr w gb 0 ss.toArray := by
          intro j hj
          have hj' : j < l.length := by simpa [ss] using hj
          have hg : (ss.toArray)[j]! = l[j].data.toList := by
            rw [getElem!_pos _ j hj]; simp [ss]
          refine ⟨?_, ?_⟩
          · rw [hg]
            simp only [World.cell?, hh, Nat.zero_add, Option.isSome_none, Bool.false_eq_true, if_false, hcell j hj', encStr]
          · simp [World.frozen?, hh]
        have hblk : gb < w.heap.size := lt_heap hh
        have hS := Any.slices_Sort_string L gb 0 cap ss w hH hblk (by rw [hss]; omega)
        rw [hss] at hS
        refine hS.mono ?_
        rintro ee w' ⟨rfl, m, os, rfl⟩
        have hS2 := mergeS_eq l
        generalize hM : (ss.mergeSort fun x y => decide (x ≤ y)) = M at *
        have hM' : M.map unS = insSort cmpS l := by rw [← hS2]
        have hMl : M.length = l.length := by rw [← hM, List.length_mergeSort, hss]
        have hheap : ∀ b, b < w.heap.size → (grow (putRow encStr (Sort.ahead w m) gb 0 M.toArray) os).heap[b]? = if b = gb then some (.cells (putCells encStr 0 M.toArray cur) e (0, 0)) else w.heap[b]? := by
          intro b hb
          unfold grow putRow mapBlock Sort.ahead
          simp only
          rw [Array.getElem?_append_left (by simpa using hb), Array.getElem?_modify]
          by_cases e4 : gb = b
          · subst e4; rw [if_pos rfl, if_pos rfl, hh]; rfl
          · rw [if_neg e4, if_neg (fun h => e4 h.symm)]
        have hsize : w.heap.size ≤ (grow (putRow encStr (Sort.ahead w m) gb 0 M.toArray) os).heap.size := by
          unfold grow putRow mapBlock Sort.ahead
          simp
        have hil := insSort_len cmpS l
        have hro : RO F φ (grow (putRow encStr (Sort.ahead w m) gb 0 M.toArray) os) 0 (.row e 1 ((insSort cmpS l).map encS)) := by
          refine RO.mkrow (xs := (insSort cmpS l).map Value.string) hφ0 h2 ⟨?_, .inr ⟨gb, cap, putCells encStr 0 M.toArray cur, ?_, Nat.zero_le _, ?_, ?_, hmx, ?_, ?_⟩⟩ ?_ ?_
          · simp
          · simp [hil]
          · rw [hheap gb hblk, if_pos rfl]
          · simpa [hil] using hcap
          · simp [putCells, hcs]
          · apply List.ext_getElem?
            intro j
            rw [List.getElem?_take]
            by_cases hj : j < l.length
            · have hjc : j < cur.size := by rw [hcs]; omega
              rw [if_pos (by simpa [hil] using hj)]
              have hMj : j < M.length := by omega
              have hIj : j < (insSort cmpS l).length := by omega
              have q1 : (insSort cmpS l)[j] = unS M[j] := by simp [← hM']
              simp only [putCells, Array.getElem?_toList, Array.getElem?_mapIdx, Array.getElem?_eq_getElem hjc, Option.map_some, Nat.zero_le, true_and, Nat.zero_add, Nat.sub_zero, List.getElem?_map, List.getElem?_eq_getElem hIj]
              rw [if_pos (by simpa using hMj), q1, getElem!_pos _ _ (by simpa using hMj)]
              simp [encStr, unS]
            · rw [if_neg (by simpa [hil] using hj), List.getElem?_eq_none (by simp [hil]; omega)]
          · rw [strs_flat]
            refine ⟨by simp, fun j x y hx hy => ?_⟩
            rw [List.getElem?_map] at hx hy
            cases hz : (insSort cmpS l)[j]? with
            | none => rw [hz] at hx; cases hx
            | some z => rw [hz] at hx hy; cases hx; cases hy; exact .str z
          · intro r hr; obtain ⟨x, _, rfl⟩ := List.mem_map.1 hr; rfl
        have hone1 : ∀ l2 o, chGet (chOf 0 [Ob.row e 1 ((insSort cmpS l).map encS)]) l2 = some o → l2 = 0 ∧ o = .row e 1 ((insSort cmpS l).map encS) := by
          intro l2 o h
          rw [chGet_chOf] at h
          simp only [Nat.zero_le, if_true, Nat.sub_zero] at h
          cases l2 with
          | zero => simp only [List.getElem?_cons_zero, Option.some.injEq] at h; exact ⟨rfl, h.symm⟩
          | succ n => simp at h
        have hblk0 : blkOf φ 0 = some gb := by
          unfold blkOf; rw [hφ0]; cases cap with | zero => omega | succ => rfl
        refine ⟨.tuple #[], F, φ, .tup [], [.row e 1 ((insSort cmpS l).map encS)], ⟨rfl, rfl⟩, rfl, .tup _ _ rfl (fun j c x h => by simp at h), ?_⟩
        refine ⟨fun _ h => h, fun _ _ h => h, fun _ _ h => .inl h, rfl, rfl, rfl, fun _ => Nat.le_add_right _ _, hsize, ?_, fun b h => .inl h, ?_, ?_, ?_⟩
        · intro b hb hne
          rw [hheap b hb] at hne
          by_cases e4 : b = gb
          · subst e4; exact ⟨0, _, hob, rfl, .inl hblk0, rfl⟩
          · rw [if_neg e4] at hne; exact (hne rfl).elim
        · intro l2 o h
          obtain ⟨rfl, rfl⟩ := hone1 l2 o h
          exact hro
        · intro l2 o b h h6 h7
          obtain ⟨rfl, rfl⟩ := hone1 l2 o h
          exact .inr ⟨0, _, hob, rfl, .inl h7.base, rfl⟩
        · intro l2 l3 o o' b h h6 _ _ _ _
          rw [(hone1 l2 o h).1, (hone1 l3 o' h6).1]
  · exact zero _ 0 (by simpa using h0) (by rw [hφ0] at h1; cases h1; rfl)
end Abs
theorem sortG_pc (l : List ByteArray) (hl : l.length < 1000000000000) : PCp 16 [.c (.row 0)] [.row 9 1 (l.map encS)] (.tup []) [.row 9 1 ((insSort cmpS l).map encS)] :=
  Abs.sortS_any laySortS ⟨_, Tryz.func16, by kernel_rfl, by kernel_rfl⟩ _ l hl
end Go.Proofs.YthdaejnepengeaaGreatDoor

/- A cable is laid: the walks. -/
namespace Go.Proofs.YthdaejnepengeaaGreatDoor
set_option linter.unusedVariables false
set_option linter.unusedSimpArgs false
open Abs

def siteB (d : List Du) (s : ByteArray) : Bool := d.any fun x => decide (x.a = s) || decide (x.b = s)
def endsErr (d : List Du) (fr to : ByteArray) (outer : Int) : Int := if siteB d fr = false ∨ siteB d to = false then 8 else if fr = to then 6 else if outer < 1 ∨ 1000 < outer then 1 else 0
set_option maxRecDepth 100000 in
set_option maxHeartbeats 4000000 in
theorem wf1_pc (x : Du) (s : ByteArray) : PCp 38 [.agg (encDu x), .c (.ptr 0 0)] [.box [.str s]] (.c (.bool (decide (x.a = s) || decide (x.b = s)))) [.box [.str s]] := by
  refine fn_sound (mt := mts) tab_fits tab_mixed Tryz.func38 (by rfl) (by kernel_rfl) (by kernel_rfl) Tryz.results38 (Nat.le_of_ble_eq_true (by kernel_rfl)) ?_
  conv => whnf
  repeat' (first | ((first | refine Split.mk (fun h => ?_) (fun h => ?_) | refine CondG.mk (fun h => ?_) (fun h => ?_)) <;> (try simp only [decide_eq_true_eq, decide_eq_false_iff_not, Bool.not_eq_true', Bool.not_eq_false', beq_iff_eq, beq_eq_false_iff_ne, bne_iff_ne, bne_eq_false_iff_eq] at h) <;> (first | (exfalso; first | omega | exact h trivial) | (conv => whnf))) | (refine Ask.mk (by first | omega | (unfold roomOK; simp [cutRows]; done) | (unfold roomOK; simp [cutRows]; omega) | (simp [cutRows]; done) | (simp [cutRows]; omega)) ?_; conv => whnf) | (refine AskV.mk (by first | omega | (unfold roomOK; simp [cutRows]; done) | (unfold roomOK; simp [cutRows]; omega) | (simp [cutRows]; done) | (simp [cutRows]; omega)) ?_; conv => whnf) | (refine AppG.mk (by first | omega | (unfold roomOK; simp [cutRows]; done) | (unfold roomOK; simp [cutRows]; omega) | (simp [cutRows]; done) | (simp [cutRows]; omega)) ?_; conv => whnf) | (refine SliceG.fr ?_; conv => whnf) | (refine BuildG.fr ?_; conv => whnf) | (refine idx_at _ (by with_reducible rfl) (by first | assumption | omega) ?_; conv => whnf) | ((with_reducible refine row_map (by first | assumption | omega) ?_); conv => whnf) | ((with_reducible refine row_set (by first | assumption | omega | (simp only [List.length_set]; omega) | (simp; omega)) ?_); conv => whnf) | fail)
  · exact .mk ⟨by rw [decide_eq_true (strEqW.1 h), Bool.true_or]; rfl, rfl⟩
  · exact .mk ⟨by rw [decide_eq_false (fun q => h (strEqW.2 q)), Bool.false_or, ← beqL]; rfl, rfl⟩
set_option maxRecDepth 100000 in
set_option maxHeartbeats 4000000 in
theorem waysFault_pc (d : List Du) (hd : d.length ≤ 1000) (fr to : ByteArray) (outer : Int) : PCp 14 [.c (.lst 5 (d.map encDu)), .c (.str fr), .c (.str to), .c (.int .i64 outer)] [] (.c (.int .i64 (endsErr d fr to outer))) [] := by
  have c1 := fun s => ixDuKC_pc s 38 (fun x : Du => decide (x.a = s) || decide (x.b = s)) d (by omega) (fun x _ => wf1_pc x s)
  have hs : ∀ s, (d.any fun x => decide (x.a = s) || decide (x.b = s)) = siteB d s := fun s => rfl
  simp only [hs] at c1
  have w1 : IntKind.i64.wrap (0 + 1) = 1 := rfl
  have w2 : IntKind.i64.wrap (IntKind.i64.wrap (0 + 1) + 1) = 2 := rfl
  have hL2 : ([[V.str fr], [V.str to]] : List (List V)).length = 2 := rfl
  refine fn_sound (mt := mts) tab_fits tab_mixed Tryz.func14 (by rfl) (by kernel_rfl) (by kernel_rfl) Tryz.results14 (Nat.le_of_ble_eq_true (by kernel_rfl)) ?_
  conv => whnf
  repeat' (first | ((first | refine Split.mk (fun h => ?_) (fun h => ?_) | refine CondG.mk (fun h => ?_) (fun h => ?_)) <;> (try simp only [decide_eq_true_eq, decide_eq_false_iff_not, Bool.not_eq_true', Bool.not_eq_false', beq_iff_eq, beq_eq_false_iff_ne, bne_iff_ne, bne_eq_false_iff_eq] at h) <;> (first | (exfalso; first | omega | exact h trivial) | (conv => whnf))) | (refine Ask.mk (by first | omega | (unfold roomOK; simp [cutRows]; done) | (unfold roomOK; simp [cutRows]; omega) | (simp [cutRows]; done) | (simp [cutRows]; omega)) ?_; conv => whnf) | (refine AskV.mk (by first | omega | (unfold roomOK; simp [cutRows]; done) | (unfold roomOK; simp [cutRows]; omega) | (simp [cutRows]; done) | (simp [cutRows]; omega)) ?_; conv => whnf) | (refine AppG.mk (by first | omega | (unfold roomOK; simp [cutRows]; done) | (unfold roomOK; simp [cutRows]; omega) | (simp [cutRows]; done) | (simp [cutRows]; omega)) ?_; conv => whnf) | (refine SliceG.fr ?_; conv => whnf) | (refine BuildG.fr ?_; conv => whnf) | (refine idx_at _ (by with_reducible rfl) (by first | assumption | omega) ?_; conv => whnf) | ((with_reducible refine row_map (by first | assumption | omega) ?_); conv => whnf) | ((with_reducible refine row_set (by first | assumption | omega | (simp only [List.length_set]; omega) | (simp; omega)) ?_); conv => whnf) | fail)
  dsimp only [cutRows, takeN, dropN]
  refine .un 3 ?_
  conv => whnf
  repeat' (first | ((first | refine Split.mk (fun h => ?_) (fun h => ?_) | refine CondG.mk (fun h => ?_) (fun h => ?_)) <;> (try simp only [decide_eq_true_eq, decide_eq_false_iff_not, Bool.not_eq_true', Bool.not_eq_false', beq_iff_eq, beq_eq_false_iff_ne] at h) <;> (first | (exfalso; first | omega | exact h trivial) | (conv => whnf))) | (refine CallX.mk _ _ (by first | exact c1 fr | exact c1 to | exact dOuterFault_pc _) ?_; conv => whnf) | (refine CallG.mk _ _ (by first | exact c1 fr | exact c1 to | exact dOuterFault_pc _) ?_; conv => whnf) | (refine Ask.mk (by first | omega | (unfold roomOK; simp [cutRows]; done) | (unfold roomOK; simp [cutRows]; omega)) ?_; conv => whnf) | (refine AskV.mk (by first | omega | (unfold roomOK; simp [cutRows]; done) | (unfold roomOK; simp [cutRows]; omega)) ?_; conv => whnf) | (refine AppG.mk (by first | omega | (unfold roomOK; simp [cutRows]; done) | (unfold roomOK; simp [cutRows]; omega)) ?_; conv => whnf) | (refine SliceG.fr ?_; conv => whnf) | (refine BuildG.fr ?_; conv => whnf) | ((refine RowG.mk [.str fr] (by rfl) ?_); conv => whnf) | ((refine RowG.mk [.str to] (by rfl) ?_); conv => whnf) | fail)
  · exact .mk ⟨by rw [endsErr, if_pos (.inl (by assumption))]; rfl, rfl⟩
  · exact .mk ⟨by rw [endsErr, if_pos (.inr (by assumption))]; rfl, rfl⟩
  · have t1 : siteB d fr = true := by assumption
    have t2 : siteB d to = true := by assumption
    exact .mk ⟨by rw [endsErr, if_neg (by rw [t1, t2]; decide), if_pos (strEqW.1 h)]; rfl, rfl⟩
  · have t1 : siteB d fr = true := by assumption
    have t2 : siteB d to = true := by assumption
    have t3 : endsErr d fr to outer = if outer < 1 ∨ 1000 < outer then 1 else 0 := by
      unfold endsErr
      rw [if_neg (show ¬ (siteB d fr = false ∨ siteB d to = false) by rw [t1, t2]; decide), if_neg (show ¬ fr = to from fun q => h (strEqW.2 q))]
    exact .mk ⟨by rw [t3]; rfl, rfl⟩
set_option maxRecDepth 100000 in
set_option maxHeartbeats 4000000 in
theorem copied_pc (l : List Ly) (hl : l.length ≤ 1000000) (hx : ∀ x ∈ l, x.ducts.length ≤ 1000000) : PCp 21 [.c (.lst 3 (l.map encLy))] [] (.c (.row 0)) [.row 51 3 (l.map encLy)] := by
  have hlm : (l.map encLy).length = l.length := List.length_map ..
  refine fn_sound (mt := mts) tab_fits tab_mixed Tryz.func21 (by rfl) (by kernel_rfl) (by kernel_rfl) Tryz.results21 (Nat.le_of_ble_eq_true (by kernel_rfl)) ?_
  conv => whnf
  repeat' (first | ((first | refine Split.mk (fun h => ?_) (fun h => ?_) | refine CondG.mk (fun h => ?_) (fun h => ?_)) <;> (try simp only [decide_eq_true_eq, decide_eq_false_iff_not, Bool.not_eq_true', Bool.not_eq_false', beq_iff_eq, beq_eq_false_iff_ne, bne_iff_ne, bne_eq_false_iff_eq] at h) <;> (first | (exfalso; first | omega | exact h trivial) | (conv => whnf))) | (refine Ask.mk (by first | omega | (unfold roomOK; simp [cutRows]; done) | (unfold roomOK; simp [cutRows]; omega) | (simp [cutRows]; done) | (simp [cutRows]; omega)) ?_; conv => whnf) | (refine AskV.mk (by first | omega | (unfold roomOK; simp [cutRows]; done) | (unfold roomOK; simp [cutRows]; omega) | (simp [cutRows]; done) | (simp [cutRows]; omega)) ?_; conv => whnf) | (refine AppG.mk (by first | omega | (unfold roomOK; simp [cutRows]; done) | (unfold roomOK; simp [cutRows]; omega) | (simp [cutRows]; done) | (simp [cutRows]; omega)) ?_; conv => whnf) | (refine SliceG.fr ?_; conv => whnf) | (refine BuildG.fr ?_; conv => whnf) | (refine idx_at _ (by with_reducible rfl) (by first | assumption | omega) ?_; conv => whnf) | ((with_reducible refine row_map (by first | assumption | omega) ?_); conv => whnf) | ((with_reducible refine row_set (by first | assumption | omega | (simp only [List.length_set]; omega) | (simp; omega)) ?_); conv => whnf) | fail)
  refine loop_for (l.length) [.sl 3 51 3] [3, 6, 7, 8] (fun k (_ : Unit) => [(8, .c (.int .i64 (k : Int)))]) (fun k (_ : Unit) => [(0, .row 51 3 ((l.take k).map encLy))]) (fun k (_ : Unit) => True) (()) ?_
  conv => whnf
  refine ⟨?_, (by trivial), ?_, ?_⟩
  · rfl
  · intro k _ hk _
    have hxk := hx _ (List.getElem_mem hk)
    have htl : ((l.take k).map encLy).length = k := by rw [List.length_map, List.length_take]; omega
    have ht : l.take (k + 1) = l.take k ++ [l[k]] := List.take_succ_eq_append_getElem hk
    conv => whnf
    repeat' (first | ((first | refine Split.mk (fun h => ?_) (fun h => ?_) | refine CondG.mk (fun h => ?_) (fun h => ?_)) <;> (try simp only [decide_eq_true_eq, decide_eq_false_iff_not, Bool.not_eq_true', Bool.not_eq_false', beq_iff_eq, beq_eq_false_iff_ne, bne_iff_ne, bne_eq_false_iff_eq] at h) <;> (first | (exfalso; first | omega | exact h trivial) | (conv => whnf))) | (refine CallX.mk _ _ (by first | exact cloneS_pc l[k].ducts (by omega)) ?_; conv => whnf) | (refine CallG.mk _ _ (by first | exact cloneS_pc l[k].ducts (by omega)) ?_; conv => whnf) | (refine Ask.mk (by first | omega | (unfold roomOK; simp [cutRows]; done) | (unfold roomOK; simp [cutRows]; omega) | (simp [cutRows]; done) | (simp [cutRows]; omega)) ?_; conv => whnf) | (refine AskV.mk (by first | omega | (unfold roomOK; simp [cutRows]; done) | (unfold roomOK; simp [cutRows]; omega) | (simp [cutRows]; done) | (simp [cutRows]; omega)) ?_; conv => whnf) | (refine AppG.mk (by first | omega | (unfold roomOK; simp [cutRows]; done) | (unfold roomOK; simp [cutRows]; omega) | (simp [cutRows]; done) | (simp [cutRows]; omega)) ?_; conv => whnf) | (refine SliceG.fr ?_; conv => whnf) | (refine BuildG.fr ?_; conv => whnf) | (refine idx_at _ (by with_reducible rfl) (by first | assumption | omega) ?_; conv => whnf) | ((with_reducible refine row_map (by first | assumption | omega) ?_); conv => whnf) | ((with_reducible refine row_set (by first | assumption | omega | (simp only [List.length_set]; omega) | (simp; omega)) ?_); conv => whnf) | fail)
    exact count_next () hk (by rw [wrap_succ hk (by omega), ht, List.map_append]; rfl) trivial
  · intro _ _
    rw [List.take_length]
    conv => whnf
    repeat' (first | ((first | refine Split.mk (fun h => ?_) (fun h => ?_) | refine CondG.mk (fun h => ?_) (fun h => ?_)) <;> (try simp only [decide_eq_true_eq, decide_eq_false_iff_not, Bool.not_eq_true', Bool.not_eq_false', beq_iff_eq, beq_eq_false_iff_ne, bne_iff_ne, bne_eq_false_iff_eq] at h) <;> (first | (exfalso; first | omega | exact h trivial) | (conv => whnf))) | (refine Ask.mk (by first | omega | (unfold roomOK; simp [cutRows]; done) | (unfold roomOK; simp [cutRows]; omega) | (simp [cutRows]; done) | (simp [cutRows]; omega)) ?_; conv => whnf) | (refine AskV.mk (by first | omega | (unfold roomOK; simp [cutRows]; done) | (unfold roomOK; simp [cutRows]; omega) | (simp [cutRows]; done) | (simp [cutRows]; omega)) ?_; conv => whnf) | (refine AppG.mk (by first | omega | (unfold roomOK; simp [cutRows]; done) | (unfold roomOK; simp [cutRows]; omega) | (simp [cutRows]; done) | (simp [cutRows]; omega)) ?_; conv => whnf) | (refine SliceG.fr ?_; conv => whnf) | (refine BuildG.fr ?_; conv => whnf) | (refine idx_at _ (by with_reducible rfl) (by first | assumption | omega) ?_; conv => whnf) | ((with_reducible refine row_map (by first | assumption | omega) ?_); conv => whnf) | ((with_reducible refine row_set (by first | assumption | omega | (simp only [List.length_set]; omega) | (simp; omega)) ?_); conv => whnf) | fail)
    exact .mk ⟨rfl, rfl⟩
set_option maxRecDepth 100000 in
set_option maxHeartbeats 4000000 in
theorem insert_pc (l v : List Ly) (hl : l.length ≤ 1000) (hv : v.length ≤ 1000) (h1 : 1 ≤ v.length) :
    PCp 20 [.c (.row 0), .c (.int .i64 (l.length : Nat)), .c (.row 1)] [.row 51 3 (l.map encLy), .row 51 3 (v.map encLy)] (.c (.row 2)) [.dead, .row 51 3 (v.map encLy), .row 51 3 ((l ++ v).map encLy)] := by
  have hlm : (l.map encLy).length = l.length := List.length_map ..
  have hvm : (v.map encLy).length = v.length := List.length_map ..
  refine fn_sound (mt := mts) tab_fits tab_mixed Tryz.func20 (by rfl) (by kernel_rfl) (by kernel_rfl) Tryz.results20 (Nat.le_of_ble_eq_true (by kernel_rfl)) ?_
  conv => whnf
  refine .mk (by omega) ?_
  conv => whnf
  refine SliceG.vw ?_
  conv => whnf
  repeat' (first | ((first | refine Split.mk (fun h => ?_) (fun h => ?_) | refine CondG.mk (fun h => ?_) (fun h => ?_)) <;> (try simp only [decide_eq_true_eq, decide_eq_false_iff_not, Bool.not_eq_true', Bool.not_eq_false', beq_iff_eq, beq_eq_false_iff_ne, bne_iff_ne, bne_eq_false_iff_eq] at h) <;> (first | (exfalso; first | omega | exact h trivial) | (conv => whnf))) | (refine Ask.mk (by first | omega | (unfold roomOK; simp [cutRows]; done) | (unfold roomOK; simp [cutRows]; omega) | (simp [cutRows]; done) | (simp [cutRows]; omega)) ?_; conv => whnf) | (refine AskV.mk (by first | omega | (unfold roomOK; simp [cutRows]; done) | (unfold roomOK; simp [cutRows]; omega) | (simp [cutRows]; done) | (simp [cutRows]; omega)) ?_; conv => whnf) | (refine AppG.mk (by first | omega | (unfold roomOK; simp [cutRows]; done) | (unfold roomOK; simp [cutRows]; omega) | (simp [cutRows]; done) | (simp [cutRows]; omega)) ?_; conv => whnf) | (refine SliceG.fr ?_; conv => whnf) | (refine BuildG.fr ?_; conv => whnf) | (refine idx_at _ (by with_reducible rfl) (by first | assumption | omega) ?_; conv => whnf) | ((with_reducible refine row_map (by first | assumption | omega) ?_); conv => whnf) | ((with_reducible refine row_set (by first | assumption | omega | (simp only [List.length_set]; omega) | (simp; omega)) ?_); conv => whnf) | fail)
  exact .mk ⟨rfl, by rw [List.map_append]⟩
end Go.Proofs.YthdaejnepengeaaGreatDoor

/- A cable is laid: the walk of Laid. -/
namespace Go.Proofs.YthdaejnepengeaaGreatDoor
set_option linter.unusedVariables false
set_option linter.unusedSimpArgs false
open Abs

set_option maxRecDepth 100000 in
set_option maxHeartbeats 4000000 in
theorem bsLy_pc (g : Nat) (c : Ly → Int) (t : S) (l : List Ly) (hl : l.length ≤ 1000000) (hmono : ∀ i j (hj : j < l.length) (hij : i ≤ j), c l[j] < 0 → c (l[i]'(by omega)) < 0) (ht : isStr t) (hg : ∀ x ∈ l, PCp g [.agg (encLy x), t] [] (.c (.int .i64 (c x))) []) :
    PCp 17 [.c (.lst 3 (l.map encLy)), t, .c (.fn g [])] [] (.tup [.c (.int .i64 ((cntL c l : Nat) : Int)), .c (.bool (hitL c l))]) [] := by
  have hlm : (l.map encLy).length = l.length := List.length_map ..
  obtain ⟨key, rfl⟩ := ht
  refine fn_sound (mt := mts) tab_fits tab_mixed Tryz.func17 (by rfl) (by kernel_rfl) (by kernel_rfl) Tryz.results17 (Nat.le_of_ble_eq_true (by kernel_rfl)) ?_
  conv => whnf
  refine loop_meas2 (fun (i : Nat) (j : Nat) => j - i) [] [0, 1, 2, 8, 9, 10] (fun (i : Nat) (j : Nat) => ⟨[(0, .c (.lst 3 (l.map encLy))), (1, .c (.str key)), (2, .c (.fn g [])), (8, .c (.int .i64 (l.map encLy).length)), (9, .c (.int .i64 ((i : Nat) : Int))), (10, .c (.int .i64 ((j : Nat) : Int)))], [], 0⟩) (fun (i : Nat) (j : Nat) => i ≤ j ∧ j ≤ l.length ∧ (∀ k (h : k < l.length), k < i → c l[k] < 0) ∧ (∀ k (h : k < l.length), j ≤ k → ¬ c l[k] < 0)) (0) (l.length) ?_ ?_
  · conv => whnf
    exact ⟨by rw [hlm]; rfl, Nat.zero_le _, Nat.le_refl _, by intro k h h2; omega, by intro k h h2; omega⟩
  · intro i j ⟨h1, h2, h3, h4⟩
    have hmid := mid_eq (i := i) (j := j) (by omega)
    conv => whnf
    repeat' (first | ((first | refine Split.mk (fun h => ?_) (fun h => ?_) | refine CondG.mk (fun h => ?_) (fun h => ?_)) <;> (try simp only [decide_eq_true_eq, decide_eq_false_iff_not, Bool.not_eq_true', Bool.not_eq_false', beq_iff_eq, beq_eq_false_iff_ne, bne_iff_ne, bne_eq_false_iff_eq] at h) <;> (first | (exfalso; first | omega | exact h trivial) | (conv => whnf))) | (refine Ask.mk (by first | omega | (unfold roomOK; simp [cutRows]; done) | (unfold roomOK; simp [cutRows]; omega) | (simp [cutRows]; done) | (simp [cutRows]; omega)) ?_; conv => whnf) | (refine AskV.mk (by first | omega | (unfold roomOK; simp [cutRows]; done) | (unfold roomOK; simp [cutRows]; omega) | (simp [cutRows]; done) | (simp [cutRows]; omega)) ?_; conv => whnf) | (refine AppG.mk (by first | omega | (unfold roomOK; simp [cutRows]; done) | (unfold roomOK; simp [cutRows]; omega) | (simp [cutRows]; done) | (simp [cutRows]; omega)) ?_; conv => whnf) | (refine SliceG.fr ?_; conv => whnf) | (refine BuildG.fr ?_; conv => whnf) | (refine idx_at _ (by with_reducible rfl) (by first | assumption | omega) ?_; conv => whnf) | ((with_reducible refine row_map (by first | assumption | omega) ?_); conv => whnf) | ((with_reducible refine row_set (by first | assumption | omega | (simp only [List.length_set]; omega) | (simp; omega)) ?_); conv => whnf) | fail)
    · rw [hmid]
      refine idx_map ((i + j) / 2) (by omega) rfl ?_
      conv => whnf
      repeat' (first | ((first | refine Split.mk (fun h => ?_) (fun h => ?_) | refine CondG.mk (fun h => ?_) (fun h => ?_)) <;> (try simp only [decide_eq_true_eq, decide_eq_false_iff_not, Bool.not_eq_true', Bool.not_eq_false', beq_iff_eq, beq_eq_false_iff_ne] at h) <;> (first | (exfalso; first | omega | exact h trivial) | (conv => whnf))) | (refine CallX.mk _ _ (by first | exact hg (l[(i + j) / 2]'(by omega)) (List.getElem_mem _)) ?_; conv => whnf) | (refine CallG.mk _ _ (by first | exact hg (l[(i + j) / 2]'(by omega)) (List.getElem_mem _)) ?_; conv => whnf) | (refine Ask.mk (by first | omega | (unfold roomOK; simp [cutRows]; done) | (unfold roomOK; simp [cutRows]; omega)) ?_; conv => whnf) | (refine AskV.mk (by first | omega | (unfold roomOK; simp [cutRows]; done) | (unfold roomOK; simp [cutRows]; omega)) ?_; conv => whnf) | (refine AppG.mk (by first | omega | (unfold roomOK; simp [cutRows]; done) | (unfold roomOK; simp [cutRows]; omega)) ?_; conv => whnf) | (refine SliceG.fr ?_; conv => whnf) | (refine BuildG.fr ?_; conv => whnf) | fail)
      · exact meas_next ((i + j) / 2 + 1, j) (by simp only; omega) (by rw [wrap_succ (n := l.length) (by omega) (by omega)]; rfl) ⟨by simp only; omega, h2, fun k hk hki => hmono k ((i + j) / 2) (by omega) (by simp only at hki; omega) h, h4⟩
      · exact meas_next (i, (i + j) / 2) (by simp only; omega) rfl ⟨by simp only; omega, by simp only; omega, h3, fun k hk hki => fun hc => h (hmono ((i + j) / 2) k hk hki hc)⟩
    all_goals
      have hij : i = j := by omega
      subst hij
      have hci : cntL c l = i := cntL_at h2 h3 h4
    · repeat' (first
        | (refine Split.mk (fun h => ?_) (fun h => ?_) <;> (try simp only [decide_eq_true_eq, decide_eq_false_iff_not, Bool.not_eq_true', Bool.not_eq_false', beq_iff_eq, beq_eq_false_iff_ne, bne_iff_ne, bne_eq_false_iff_eq] at h) <;> (first | (exfalso; first | omega | exact h trivial) | (conv => whnf)))
        | (refine CondG.mk (fun h => ?_) (fun h => ?_) <;> (try simp only [decide_eq_true_eq, decide_eq_false_iff_not, Bool.not_eq_true', Bool.not_eq_false', beq_iff_eq, beq_eq_false_iff_ne, bne_iff_ne, bne_eq_false_iff_eq] at h) <;> (first | (exfalso; first | omega | exact h trivial) | (conv => whnf)))
        | (refine CallX.mk _ _ (by first | exact hg (l[i]'(by omega)) (List.getElem_mem _)) ?_; conv => whnf)
        | (refine CallG.mk _ _ (by first | exact hg (l[i]'(by omega)) (List.getElem_mem _)) ?_; conv => whnf)
        | (refine Ask.mk (by first | omega | (unfold roomOK; simp [cutRows]; done) | (unfold roomOK; simp [cutRows]; omega) | (simp [cutRows]; done) | (simp [cutRows]; omega)) ?_; conv => whnf)
        | (refine AskV.mk (by first | omega | (unfold roomOK; simp [cutRows]; done) | (unfold roomOK; simp [cutRows]; omega) | (simp [cutRows]; done) | (simp [cutRows]; omega)) ?_; conv => whnf)
        | (refine AppG.mk (by first | omega | (unfold roomOK; simp [cutRows]; done) | (unfold roomOK; simp [cutRows]; omega) | (simp [cutRows]; done) | (simp [cutRows]; omega)) ?_; conv => whnf)
        | (refine SliceG.fr ?_; conv => whnf)
        | (refine BuildG.fr ?_; conv => whnf)
        | (refine idx_at _ (by with_reducible rfl) (by first | assumption | omega) ?_; conv => whnf)
        | ((with_reducible refine row_map (by first | assumption | omega) ?_); conv => whnf)
        | ((with_reducible refine row_set (by first | assumption | omega | (simp only [List.length_set]; omega) | (simp; omega)) ?_); conv => whnf)
        | fail)
      exact .mk ⟨by rw [hitL, hci, List.getElem?_eq_getElem (show i < l.length by omega)]; rfl, rfl⟩
    · exact .mk ⟨by rw [hitL, hci, List.getElem?_eq_none (show l.length ≤ i by omega)]; rfl, rfl⟩
set_option maxRecDepth 100000 in
set_option maxHeartbeats 4000000 in
theorem laid1_pc (x : Ly) (k : ByteArray) : PCp 18 [.agg (encLy x), .c (.str k)] [] (.c (.int .i64 (cmpS x.cable k))) [] := by
  refine fn_sound (mt := mts) tab_fits tab_mixed Tryz.func18 (by rfl) (by kernel_rfl) (by kernel_rfl) Tryz.results18 (Nat.le_of_ble_eq_true (by kernel_rfl)) ?_
  conv => whnf
  repeat' (first | ((first | refine Split.mk (fun h => ?_) (fun h => ?_) | refine CondG.mk (fun h => ?_) (fun h => ?_)) <;> (try simp only [decide_eq_true_eq, decide_eq_false_iff_not, Bool.not_eq_true', Bool.not_eq_false', beq_iff_eq, beq_eq_false_iff_ne] at h) <;> (first | (exfalso; first | omega | exact h trivial) | (conv => whnf))) | (refine CallX.mk _ _ (by first | exact sCompare_pc _ _) ?_; conv => whnf) | (refine CallG.mk _ _ (by first | exact sCompare_pc _ _) ?_; conv => whnf) | (refine Ask.mk (by first | omega | (unfold roomOK; simp [cutRows]; done) | (unfold roomOK; simp [cutRows]; omega)) ?_; conv => whnf) | (refine AskV.mk (by first | omega | (unfold roomOK; simp [cutRows]; done) | (unfold roomOK; simp [cutRows]; omega)) ?_; conv => whnf) | (refine AppG.mk (by first | omega | (unfold roomOK; simp [cutRows]; done) | (unfold roomOK; simp [cutRows]; omega)) ?_; conv => whnf) | (refine SliceG.fr ?_; conv => whnf) | (refine BuildG.fr ?_; conv => whnf) | fail)
  exact fini rfl
theorem du_of {d : List Du} {l : List Ly} (h : lyFault d l = 0) : duFault d = 0 := by
  unfold lyFault at h
  split at h
  · exact absurd h (by assumption)
  · rename_i h1; exact Classical.not_not.1 h1
theorem site_size {d : List Du} (h : duFault d = 0) {s : ByteArray} (hs : siteB d s = true) : s.size ≠ 0 := by
  unfold siteB at hs
  obtain ⟨x, hx, h1⟩ := List.any_eq_true.1 hs
  have he := du_ends h x hx
  rw [Bool.or_eq_true, decide_eq_true_eq, decide_eq_true_eq] at h1
  rcases h1 with rfl | rfl
  · exact he.1
  · exact he.2.1
theorem ends_ok {d : List Du} {fr to : ByteArray} {outer : Int} (h : endsErr d fr to outer = 0) : siteB d fr = true ∧ siteB d to = true ∧ fr ≠ to ∧ 1 ≤ outer ∧ outer ≤ 1000 := by
  unfold endsErr at h
  split at h
  · omega
  · rename_i h1
    split at h
    · omega
    · rename_i h2
      split at h
      · omega
      · rename_i h3
        refine ⟨?_, ?_, h2, by omega, by omega⟩
        · cases q : siteB d fr with
          | true => rfl
          | false => exact absurd (.inl q) h1
        · cases q : siteB d to with
          | true => rfl
          | false => exact absurd (.inr q) h1
set_option maxRecDepth 100000 in
set_option maxHeartbeats 4000000 in
theorem laid_pc (d : List Du) (l : List Ly) (h0 : lyFault d l = 0) (cable : ByteArray) (hck : keyB cable = true) (hgt : ∀ x ∈ l, ltB x.cable cable = true) (fr to : ByteArray) (outer : Int) (he : endsErr d fr to outer = 0) (hll : l.length < 300) :
    PCq 6 [.c (.lst 5 (d.map encDu)), .c (.lst 3 (l.map encLy)), .c (.str cable), .c (.str fr), .c (.str to), .c (.int .i64 outer)] [] fun r os => os = [] ∧ ∃ g : CM, Costs (netE (fitCap l outer) d) to (sitesE (netE (fitCap l outer) d) to) g ∧
      ((g.get fr = none ∧ r = .tup [.c (.lst 3 []), .c (.int .i64 12)]) ∨ ∃ c P, FW (netE (fitCap l outer) d) g to fr to c P ∧ r = .tup [.c (.lst 3 ((l ++ [(⟨cable, outer, insSort cmpS (P.map Ed.key)⟩ : Ly)]).map encLy)), .c (.int .i64 0)]) := by
  have hdu := du_of h0
  have hok := lyFault_ok h0
  obtain ⟨e1, e2, e3, e4⟩ := ends_ok he
  have hx : ∀ x ∈ l, x.ducts.length ≤ 1000000 := fun x hm => (hok.rl x hm).2
  have hlm : (l.map encLy).length = l.length := List.length_map ..
  have c1 := checkLying_pc d l hx
  rw [h0] at c1
  have hcab : cabIx l cable = -1 := idxP_miss (fun i hi => by
    rw [decide_eq_false_iff_not]
    intro q
    have := hgt _ (List.getElem_mem hi)
    rw [q, ltB_irr] at this; cases this)
  have c2 := lying_pc l (by omega) cable
  rw [hcab] at c2
  have c3 := waysFault_pc d (by have := hok.du.len; omega) fr to outer
  rw [he] at c3
  have hcn : cntL (fun x : Ly => cmpS x.cable cable) l = l.length := cntL_at (Nat.le_refl _) (fun k h _ => cmp_lt.2 (hgt _ (List.getElem_mem h))) (fun k h hk => by omega)
  have c4 := bsLy_pc 18 (fun x : Ly => cmpS x.cable cable) (.c (.str cable)) l (by omega) (fun i j hj hij _ => cmp_lt.2 (hgt _ (List.getElem_mem _))) ⟨cable, rfl⟩ (fun x _ => laid1_pc x cable)
  rw [hcn] at c4
  have c5 := bKey_pc cable
  rw [hck] at c5
  refine fn_soundX (mt := mts) tab_fits tab_mixed Tryz.func6 (by rfl) (by kernel_rfl) (by kernel_rfl) Tryz.results6 (Nat.le_of_ble_eq_true (by kernel_rfl)) ?_
  conv => whnf
  repeat' (first | ((first | refine Split.mk (fun h => ?_) (fun h => ?_) | refine CondG.mk (fun h => ?_) (fun h => ?_)) <;> (try simp only [decide_eq_true_eq, decide_eq_false_iff_not, Bool.not_eq_true', Bool.not_eq_false', beq_iff_eq, beq_eq_false_iff_ne, bne_iff_ne, bne_eq_false_iff_eq] at h) <;> (first | (exfalso; first | omega | exact h trivial | contradiction | (simp_all [eqRes]; done)) | (conv => whnf))) | (refine CallX.mk _ _ (by first | exact c1 | exact c5 | exact c2 | exact c3) ?_; conv => whnf) | (refine CallG.mk _ _ (by first | exact c1 | exact c5 | exact c2 | exact c3) ?_; conv => whnf) | (refine Ask.mk (by first | omega | (unfold roomOK; simp [cutRows]; done) | (unfold roomOK; simp [cutRows]; omega) | (simp [cutRows]; done) | (simp [cutRows]; omega)) ?_; conv => whnf) | (refine AskV.mk (by first | omega | (unfold roomOK; simp [cutRows]; done) | (unfold roomOK; simp [cutRows]; omega) | (simp [cutRows]; done) | (simp [cutRows]; omega)) ?_; conv => whnf) | (refine AppG.mk (by first | omega | (unfold roomOK; simp [cutRows]; done) | (unfold roomOK; simp [cutRows]; omega) | (simp [cutRows]; done) | (simp [cutRows]; omega)) ?_; conv => whnf) | (refine SliceG.fr ?_; conv => whnf) | (refine BuildG.fr ?_; conv => whnf) | (refine idx_at _ (by with_reducible rfl) (by first | assumption | omega) ?_; conv => whnf) | ((with_reducible refine row_map (by first | assumption | omega) ?_); conv => whnf) | ((with_reducible refine row_set (by first | assumption | omega | (simp only [List.length_set]; omega) | (simp; omega)) ?_); conv => whnf) | fail)
  refine .ex _ (way_pc d l hdu hok fr to (site_size hdu e2) outer ⟨by omega, by omega⟩) ?_
  rintro _ _ ⟨g, hC, ⟨hn, rfl, rfl⟩ | ⟨c, P, hF, rfl, rfl⟩⟩
  · conv => whnf
    repeat' (first | ((first | refine Split.mk (fun h => ?_) (fun h => ?_) | refine CondG.mk (fun h => ?_) (fun h => ?_)) <;> (try simp only [decide_eq_true_eq, decide_eq_false_iff_not, Bool.not_eq_true', Bool.not_eq_false', beq_iff_eq, beq_eq_false_iff_ne, bne_iff_ne, bne_eq_false_iff_eq] at h) <;> (first | (exfalso; first | omega | exact h trivial | contradiction | (simp_all [eqRes]; done)) | (conv => whnf))) | (refine Ask.mk (by first | omega | (unfold roomOK; simp [cutRows]; done) | (unfold roomOK; simp [cutRows]; omega) | (simp [cutRows]; done) | (simp [cutRows]; omega)) ?_; conv => whnf) | (refine AskV.mk (by first | omega | (unfold roomOK; simp [cutRows]; done) | (unfold roomOK; simp [cutRows]; omega) | (simp [cutRows]; done) | (simp [cutRows]; omega)) ?_; conv => whnf) | (refine AppG.mk (by first | omega | (unfold roomOK; simp [cutRows]; done) | (unfold roomOK; simp [cutRows]; omega) | (simp [cutRows]; done) | (simp [cutRows]; omega)) ?_; conv => whnf) | (refine SliceG.fr ?_; conv => whnf) | (refine BuildG.fr ?_; conv => whnf) | (refine idx_at _ (by with_reducible rfl) (by first | assumption | omega) ?_; conv => whnf) | ((with_reducible refine row_map (by first | assumption | omega) ?_); conv => whnf) | ((with_reducible refine row_set (by first | assumption | omega | (simp only [List.length_set]; omega) | (simp; omega)) ?_); conv => whnf) | fail)
    refine .mk _ _ ⟨rfl, g, hC, .inl ⟨hn, rfl⟩⟩ (.weak [] (.tup _ _ rfl ?_) rfl (Nat.le_refl _))
    intro i x y hx hy
    match i with
    | 0 => cases hx; cases hy; exact .nil 3
    | 1 => cases hx; cases hy; exact .refl _
    | n + 2 => cases hx
  · have hPl := hF.few hC
    have hnl := net_len (fitCap l outer) d
    have hdl := hok.du.len
    rw [sitesE_len] at hPl
    have c6 := sortG_pc (P.map Ed.key) (by rw [List.length_map]; omega)
    have c7 := copied_pc l (by omega) hx
    have c8 := insert_pc l [(⟨cable, outer, insSort cmpS (P.map Ed.key)⟩ : Ly)] (by omega) (by simp) (by simp)
    conv => whnf
    repeat' (first | ((first | refine Split.mk (fun h => ?_) (fun h => ?_) | refine CondG.mk (fun h => ?_) (fun h => ?_)) <;> (try simp only [decide_eq_true_eq, decide_eq_false_iff_not, Bool.not_eq_true', Bool.not_eq_false', beq_iff_eq, beq_eq_false_iff_ne, bne_iff_ne, bne_eq_false_iff_eq] at h) <;> (first | (exfalso; first | omega | exact h trivial | contradiction | (simp_all [eqRes]; done)) | (conv => whnf))) | (refine CallX.mk _ _ (by first | exact c6 | exact c4 | exact c7 | exact c8) ?_; conv => whnf) | (refine CallG.mk _ _ (by first | exact c6 | exact c4 | exact c7 | exact c8) ?_; conv => whnf) | (refine Ask.mk (by first | omega | (unfold roomOK; simp [cutRows]; done) | (unfold roomOK; simp [cutRows]; omega) | (simp [cutRows]; done) | (simp [cutRows]; omega)) ?_; conv => whnf) | (refine AskV.mk (by first | omega | (unfold roomOK; simp [cutRows]; done) | (unfold roomOK; simp [cutRows]; omega) | (simp [cutRows]; done) | (simp [cutRows]; omega)) ?_; conv => whnf) | (refine AppG.mk (by first | omega | (unfold roomOK; simp [cutRows]; done) | (unfold roomOK; simp [cutRows]; omega) | (simp [cutRows]; done) | (simp [cutRows]; omega)) ?_; conv => whnf) | (refine SliceG.fr ?_; conv => whnf) | (refine BuildG.fr ?_; conv => whnf) | (refine idx_at _ (by with_reducible rfl) (by first | assumption | omega) ?_; conv => whnf) | ((with_reducible refine row_map (by first | assumption | omega) ?_); conv => whnf) | ((with_reducible refine row_set (by first | assumption | omega | (simp only [List.length_set]; omega) | (simp; omega)) ?_); conv => whnf) | fail)
    refine .mk _ _ ⟨rfl, g, hC, .inr ⟨c, P, hF, rfl⟩⟩ (.frz 0 _ _ _ rfl (.weak [_] (.tup _ _ rfl ?_) rfl (Nat.le_refl _)))
    intro i x y hx hy
    match i with
    | 0 => cases hx; cases hy; exact .fro 0 _ _ rfl
    | 1 => cases hx; cases hy; exact .refl _
    | n + 2 => cases hx
end Go.Proofs.YthdaejnepengeaaGreatDoor

/- Steps of a way, and the room of an edge. -/
namespace Go.Proofs.YthdaejnepengeaaGreatDoor
set_option linter.unusedVariables false
set_option linter.unusedSimpArgs false
open Abs

abbrev evSt : St2 → S := fun x => .agg [.int .i64 x.1, .str x.2]
def encSt (x : St2) : List V := [.int .i64 x.1, .str x.2]
set_option maxRecDepth 100000 in
set_option maxHeartbeats 4000000 in
theorem room_pc (e : Ed) (f : Int) (s : ByteArray) (h1 : -1000000000 ≤ f ∧ f ≤ 1000000000) (h2 : -1000000000 ≤ e.cap ∧ e.cap ≤ 1000000000) : PCp 57 [.agg (encEd e), .c (.int .i64 f), .c (.str s)] [] (.c (.int .i64 (roomE e f s))) [] := by
  have w1 : IntKind.i64.wrap (e.cap - f) = e.cap - f := wrap_in (by omega) (by omega)
  have w2 : IntKind.i64.wrap (e.cap + f) = e.cap + f := wrap_in (by omega) (by omega)
  refine fn_sound (mt := mts) tab_fits tab_mixed Tryz.func57 (by rfl) (by kernel_rfl) (by kernel_rfl) Tryz.results57 (Nat.le_of_ble_eq_true (by kernel_rfl)) ?_
  conv => whnf
  repeat' (first | ((first | refine Split.mk (fun h => ?_) (fun h => ?_) | refine CondG.mk (fun h => ?_) (fun h => ?_)) <;> (try simp only [decide_eq_true_eq, decide_eq_false_iff_not, Bool.not_eq_true', Bool.not_eq_false', beq_iff_eq, beq_eq_false_iff_ne, bne_iff_ne, bne_eq_false_iff_eq] at h) <;> (first | (exfalso; first | omega | exact h trivial) | (conv => whnf))) | (refine Ask.mk (by first | omega | (unfold roomOK; simp [cutRows]; done) | (unfold roomOK; simp [cutRows]; omega) | (simp [cutRows]; done) | (simp [cutRows]; omega)) ?_; conv => whnf) | (refine AskV.mk (by first | omega | (unfold roomOK; simp [cutRows]; done) | (unfold roomOK; simp [cutRows]; omega) | (simp [cutRows]; done) | (simp [cutRows]; omega)) ?_; conv => whnf) | (refine AppG.mk (by first | omega | (unfold roomOK; simp [cutRows]; done) | (unfold roomOK; simp [cutRows]; omega) | (simp [cutRows]; done) | (simp [cutRows]; omega)) ?_; conv => whnf) | (refine SliceG.fr ?_; conv => whnf) | (refine BuildG.fr ?_; conv => whnf) | (refine idx_at _ (by with_reducible rfl) (by first | assumption | omega) ?_; conv => whnf) | ((with_reducible refine row_map (by first | assumption | omega) ?_); conv => whnf) | ((with_reducible refine row_set (by first | assumption | omega | (simp only [List.length_set]; omega) | (simp; omega)) ?_); conv => whnf) | fail)
  · exact .mk ⟨by rw [roomE, if_pos (strEqW.1 h), w1]; rfl, rfl⟩
  · exact .mk ⟨by rw [roomE, if_neg (fun q => h (strEqW.2 q)), w2]; rfl, rfl⟩
end Go.Proofs.YthdaejnepengeaaGreatDoor

/- Waste of plans, and the document's answers, by the abstract walk. -/
namespace Go.Proofs.YthdaejnepengeaaGreatDoor
set_option linter.unusedVariables false
set_option linter.unusedSimpArgs false
open Abs

/-! the document's answers -/
end Go.Proofs.YthdaejnepengeaaGreatDoor

/- Rules and plans are made, lists compared. -/
namespace Go.Proofs.YthdaejnepengeaaGreatDoor
set_option linter.unusedVariables false
set_option linter.unusedSimpArgs false
open Abs

end Go.Proofs.YthdaejnepengeaaGreatDoor

/- Acts in a store, by the abstract walk. -/
namespace Go.Proofs.YthdaejnepengeaaGreatDoor
set_option linter.unusedVariables false
set_option linter.unusedSimpArgs false
open Abs

structure Ac where
  mo : Int
  kd : Int
  drum : ByteArray
  ty : ByteArray
  of : ByteArray
  long : Int
def cmpI (a b : Int) : Int := if a < b then -1 else if b < a then 1 else 0
set_option maxRecDepth 100000 in
set_option maxHeartbeats 4000000 in
theorem isNaNI_pc (a : Int) : PCp 104 [.c (.int .i64 a)] [] (.c (.bool false)) [] := by
  refine fn_sound (mt := mts) tab_fits tab_mixed Tryz.func104 (by rfl) (by kernel_rfl) (by kernel_rfl) Tryz.results104 (Nat.le_of_ble_eq_true (by kernel_rfl)) ?_
  conv => whnf
  exact finb (by simp)
set_option maxRecDepth 100000 in
set_option maxHeartbeats 4000000 in
theorem cmpI_pc (a b : Int) : PCp 56 [.c (.int .i64 a), .c (.int .i64 b)] [] (.c (.int .i64 (cmpI a b))) [] := by
  refine fn_sound (mt := mts) tab_fits tab_mixed Tryz.func56 (by rfl) (by kernel_rfl) (by kernel_rfl) Tryz.results56 (Nat.le_of_ble_eq_true (by kernel_rfl)) ?_
  conv => whnf
  repeat' (first | ((first | refine Split.mk (fun h => ?_) (fun h => ?_) | refine CondG.mk (fun h => ?_) (fun h => ?_)) <;> (try simp only [decide_eq_true_eq, decide_eq_false_iff_not, Bool.not_eq_true', Bool.not_eq_false', beq_iff_eq, beq_eq_false_iff_ne] at h) <;> (first | (exfalso; first | omega | exact h trivial) | (conv => whnf))) | (refine CallX.mk _ _ (by first | exact isNaNI_pc _) ?_; conv => whnf) | (refine CallG.mk _ _ (by first | exact isNaNI_pc _) ?_; conv => whnf) | (refine Ask.mk (by first | omega | (unfold roomOK; simp [cutRows]; done) | (unfold roomOK; simp [cutRows]; omega)) ?_; conv => whnf) | (refine AskV.mk (by first | omega | (unfold roomOK; simp [cutRows]; done) | (unfold roomOK; simp [cutRows]; omega)) ?_; conv => whnf) | (refine AppG.mk (by first | omega | (unfold roomOK; simp [cutRows]; done) | (unfold roomOK; simp [cutRows]; omega)) ?_; conv => whnf) | (refine SliceG.fr ?_; conv => whnf) | (refine BuildG.fr ?_; conv => whnf) | fail)
  all_goals exact fini (by simp_all [cmpI] <;> omega)
end Go.Proofs.YthdaejnepengeaaGreatDoor

/- The step with the least room: the walk. -/
namespace Go.Proofs.YthdaejnepengeaaGreatDoor
set_option linter.unusedVariables false
set_option linter.unusedSimpArgs false
open Abs

abbrev e0E : Ed := ⟨⟨#[]⟩, ⟨#[]⟩, ⟨#[]⟩, 0, 0⟩
def rmS (E : List Ed) (f : List Int) (x : St2) : Int := roomE (E.getD x.1.toNat e0E) (f.getD x.1.toNat 0) x.2
set_option maxRecDepth 100000 in
set_option maxHeartbeats 4000000 in
theorem flow1_pc (E : List Ed) (f : List Int) (pf : Nat) (a b : St2) (hf : f.length = E.length) (ha : 0 ≤ a.1 ∧ a.1 < E.length) (hb : 0 ≤ b.1 ∧ b.1 < E.length)
    (hE : ∀ i (hi : i < E.length), (-1000000 ≤ f.getD i 0 ∧ f.getD i 0 ≤ 1000000) ∧ 0 ≤ E[i].cap ∧ E[i].cap ≤ 1000000) :
    PCp 55 [.agg (encSt a), .agg (encSt b), .c (.ptr 0 0), .c (.ptr 1 0)] [.box [.lst 5 (E.map encEd), .fn pf []], .box [.row 2], .row 3 1 (f.map encI)] (.c (.int .i64 (cmpI (rmS E f a) (rmS E f b)))) [.box [.lst 5 (E.map encEd), .fn pf []], .box [.row 2], .row 3 1 (f.map encI)] := by
  obtain ⟨ai, sa⟩ := a
  obtain ⟨bi, sb⟩ := b
  obtain ⟨i, rfl⟩ := Int.eq_ofNat_of_zero_le ha.1
  obtain ⟨j, rfl⟩ := Int.eq_ofNat_of_zero_le hb.1
  have hi : i < E.length := by omega
  have hj : j < E.length := by omega
  have hfi : i < f.length := by omega
  have hfj : j < f.length := by omega
  have qi := hE i hi
  have qj := hE j hj
  have gi : f.getD i 0 = f[i] := by simp [hfi]
  have gj : f.getD j 0 = f[j] := by simp [hfj]
  rw [gi] at qi
  rw [gj] at qj
  have c1 := room_pc E[i] f[i] sa (by omega) (by omega)
  have c2 := room_pc E[j] f[j] sb (by omega) (by omega)
  have e1 : rmS E f ((i : Int), sa) = roomE E[i] f[i] sa := by simp [rmS, hi, hfi]
  have e2 : rmS E f ((j : Int), sb) = roomE E[j] f[j] sb := by simp [rmS, hj, hfj]
  rw [e1, e2]
  refine fn_sound (mt := mts) tab_fits tab_mixed Tryz.func55 (by rfl) (by kernel_rfl) (by kernel_rfl) Tryz.results55 (Nat.le_of_ble_eq_true (by kernel_rfl)) ?_
  conv => whnf
  repeat' (first | ((first | refine Split.mk (fun h => ?_) (fun h => ?_) | refine CondG.mk (fun h => ?_) (fun h => ?_)) <;> (try simp only [decide_eq_true_eq, decide_eq_false_iff_not, Bool.not_eq_true', Bool.not_eq_false', beq_iff_eq, beq_eq_false_iff_ne, bne_iff_ne, bne_eq_false_iff_eq] at h) <;> (first | (exfalso; first | omega | exact h trivial) | (conv => whnf))) | (refine CallX.mk _ _ (by first | exact c1 | exact c2 | exact cmpI_pc _ _) ?_; conv => whnf) | (refine CallG.mk _ _ (by first | exact c1 | exact c2 | exact cmpI_pc _ _) ?_; conv => whnf) | (refine Ask.mk (by first | omega | (unfold roomOK; simp [cutRows]; done) | (unfold roomOK; simp [cutRows]; omega) | (simp [cutRows]; done) | (simp [cutRows]; omega)) ?_; conv => whnf) | (refine AskV.mk (by first | omega | (unfold roomOK; simp [cutRows]; done) | (unfold roomOK; simp [cutRows]; omega) | (simp [cutRows]; done) | (simp [cutRows]; omega)) ?_; conv => whnf) | (refine AppG.mk (by first | omega | (unfold roomOK; simp [cutRows]; done) | (unfold roomOK; simp [cutRows]; omega) | (simp [cutRows]; done) | (simp [cutRows]; omega)) ?_; conv => whnf) | (refine SliceG.fr ?_; conv => whnf) | (refine BuildG.fr ?_; conv => whnf) | (refine idx_at _ (by with_reducible rfl) (by first | assumption | omega) ?_; conv => whnf) | ((with_reducible refine row_map (by first | assumption | omega) ?_); conv => whnf) | ((with_reducible refine row_set (by first | assumption | omega | (simp only [List.length_set]; omega) | (simp; omega)) ?_); conv => whnf) | fail)
  exact fini rfl
def minS (c : St2 → Int) : St2 → List St2 → St2
  | m, [] => m
  | m, y :: r => minS c (if c y < c m then y else m) r
theorem minS_mem (c : St2 → Int) : ∀ (l : List St2) (m : St2), minS c m l ∈ m :: l
  | [], m => by simp [minS]
  | y :: r, m => by
    have h := minS_mem c r (if c y < c m then y else m)
    rw [minS]
    split at h
    · rename_i q
      rw [if_pos q]
      exact List.mem_cons_of_mem _ h
    · rename_i q
      rw [if_neg q]
      rcases List.mem_cons.1 h with e | e
      · rw [e]; exact List.mem_cons_self ..
      · exact List.mem_cons_of_mem _ (List.mem_cons_of_mem _ e)
theorem minS_le (c : St2 → Int) : ∀ (l : List St2) (m : St2), ∀ y ∈ m :: l, c (minS c m l) ≤ c y
  | [], m, y, hy => by
    rw [List.mem_singleton] at hy
    subst hy
    exact Int.le_refl _
  | z :: r, m, y, hy => by
    have h := minS_le c r (if c z < c m then z else m)
    rw [minS]
    have h0 := h _ (List.mem_cons_self ..)
    rcases List.mem_cons.1 hy with rfl | hy
    · split at h0 <;> rename_i q
      · rw [if_pos q] at *; omega
      · rw [if_neg q] at *; exact h0
    · rcases List.mem_cons.1 hy with rfl | hy
      · split at h0 <;> rename_i q
        · rw [if_pos q] at *; exact h0
        · rw [if_neg q] at *; omega
      · exact h y (List.mem_cons_of_mem _ hy)
theorem cmpI_neg {a b : Int} : cmpI a b < 0 ↔ a < b := by unfold cmpI; split <;> (try split) <;> omega
set_option maxRecDepth 100000 in
set_option maxHeartbeats 4000000 in
theorem minF_pc (E : List Ed) (f : List Int) (pf : Nat) (P : List St2) (hf : f.length = E.length) (h0 : 0 < P.length) (hl : P.length ≤ 100000) (hv : ∀ x ∈ P, 0 ≤ x.1 ∧ x.1 < E.length)
    (hE : ∀ i (hi : i < E.length), (-1000000 ≤ f.getD i 0 ∧ f.getD i 0 ≤ 1000000) ∧ 0 ≤ E[i].cap ∧ E[i].cap ≤ 1000000) :
    PCp 54 [.c (.lst 2 (P.map encSt)), .c (.fn 55 [.ptr 0 0, .ptr 1 0])] [.box [.lst 5 (E.map encEd), .fn pf []], .box [.row 2], .row 3 1 (f.map encI)] (.agg (encSt (minS (rmS E f) P[0] (P.drop 1)))) [.box [.lst 5 (E.map encEd), .fn pf []], .box [.row 2], .row 3 1 (f.map encI)] := by
  have hPm : (P.map encSt).length = P.length := List.length_map ..
  refine fn_sound (mt := mts) tab_fits tab_mixed Tryz.func54 (by rfl) (by kernel_rfl) (by kernel_rfl) Tryz.results54 (Nat.le_of_ble_eq_true (by kernel_rfl)) ?_
  conv => whnf
  repeat' (first | ((first | refine Split.mk (fun h => ?_) (fun h => ?_) | refine CondG.mk (fun h => ?_) (fun h => ?_)) <;> (try simp only [decide_eq_true_eq, decide_eq_false_iff_not, Bool.not_eq_true', Bool.not_eq_false', beq_iff_eq, beq_eq_false_iff_ne, bne_iff_ne, bne_eq_false_iff_eq] at h) <;> (first | (exfalso; first | omega | exact h trivial) | (conv => whnf))) | (refine Ask.mk (by first | omega | (unfold roomOK; simp [cutRows]; done) | (unfold roomOK; simp [cutRows]; omega) | (simp [cutRows]; done) | (simp [cutRows]; omega)) ?_; conv => whnf) | (refine AskV.mk (by first | omega | (unfold roomOK; simp [cutRows]; done) | (unfold roomOK; simp [cutRows]; omega) | (simp [cutRows]; done) | (simp [cutRows]; omega)) ?_; conv => whnf) | (refine AppG.mk (by first | omega | (unfold roomOK; simp [cutRows]; done) | (unfold roomOK; simp [cutRows]; omega) | (simp [cutRows]; done) | (simp [cutRows]; omega)) ?_; conv => whnf) | (refine SliceG.fr ?_; conv => whnf) | (refine BuildG.fr ?_; conv => whnf) | (refine idx_at _ (by with_reducible rfl) (by first | assumption | omega) ?_; conv => whnf) | ((with_reducible refine row_map (by first | assumption | omega) ?_); conv => whnf) | ((with_reducible refine row_set (by first | assumption | omega | (simp only [List.length_set]; omega) | (simp; omega)) ?_); conv => whnf) | fail)
  refine idx_at 0 rfl h0 ?_
  conv => whnf
  repeat' (first | ((first | refine Split.mk (fun h => ?_) (fun h => ?_) | refine CondG.mk (fun h => ?_) (fun h => ?_)) <;> (try simp only [decide_eq_true_eq, decide_eq_false_iff_not, Bool.not_eq_true', Bool.not_eq_false', beq_iff_eq, beq_eq_false_iff_ne, bne_iff_ne, bne_eq_false_iff_eq] at h) <;> (first | (exfalso; first | omega | exact h trivial) | (conv => whnf))) | (refine Ask.mk (by first | omega | (unfold roomOK; simp [cutRows]; done) | (unfold roomOK; simp [cutRows]; omega) | (simp [cutRows]; done) | (simp [cutRows]; omega)) ?_; conv => whnf) | (refine AskV.mk (by first | omega | (unfold roomOK; simp [cutRows]; done) | (unfold roomOK; simp [cutRows]; omega) | (simp [cutRows]; done) | (simp [cutRows]; omega)) ?_; conv => whnf) | (refine AppG.mk (by first | omega | (unfold roomOK; simp [cutRows]; done) | (unfold roomOK; simp [cutRows]; omega) | (simp [cutRows]; done) | (simp [cutRows]; omega)) ?_; conv => whnf) | (refine SliceG.fr ?_; conv => whnf) | (refine BuildG.fr ?_; conv => whnf) | (refine idx_at _ (by with_reducible rfl) (by first | assumption | omega) ?_; conv => whnf) | ((with_reducible refine row_map (by first | assumption | omega) ?_); conv => whnf) | ((with_reducible refine row_set (by first | assumption | omega | (simp only [List.length_set]; omega) | (simp; omega)) ?_); conv => whnf) | fail)
  refine loop_for (P.length - 1) [] [0, 1, 4, 5, 6] (fun k (m : St2) => [(6, .c (.int .i64 ((k : Int) + 1)))]) (fun k (m : St2) => [(4, .box (encSt m))]) (fun k (m : St2) => m ∈ P ∧ minS (rmS E f) m (P.drop (k + 1)) = minS (rmS E f) P[0] (P.drop 1)) (P[0]) ?_
  conv => whnf
  refine ⟨?_, ?_, ?_, ?_⟩
  · rfl
  · exact ⟨List.getElem_mem _, rfl⟩
  · intro k m hk ⟨hm, hi⟩
    have c1 := flow1_pc E f pf P[k + 1] m hf (hv _ (List.getElem_mem _)) (hv _ hm) hE
    have hk1 : k + 1 < P.length := by omega
    have hd : P.drop (k + 1) = P[k + 1] :: P.drop (k + 1 + 1) := (List.getElem_cons_drop ..).symm
    have hw : IntKind.i64.wrap ((k : Int) + 1 + 1) = ((k + 1 : Nat) : Int) + 1 := by rw [wrap_in (by omega) (by omega)]; push_cast; rfl
    rw [hd, minS] at hi
    conv => whnf
    repeat' (first | ((first | refine Split.mk (fun h => ?_) (fun h => ?_) | refine CondG.mk (fun h => ?_) (fun h => ?_)) <;> (try simp only [decide_eq_true_eq, decide_eq_false_iff_not, Bool.not_eq_true', Bool.not_eq_false', beq_iff_eq, beq_eq_false_iff_ne, bne_iff_ne, bne_eq_false_iff_eq] at h) <;> (first | (exfalso; first | omega | exact h trivial) | (conv => whnf))) | (refine Ask.mk (by first | omega | (unfold roomOK; simp [cutRows]; done) | (unfold roomOK; simp [cutRows]; omega) | (simp [cutRows]; done) | (simp [cutRows]; omega)) ?_; conv => whnf) | (refine AskV.mk (by first | omega | (unfold roomOK; simp [cutRows]; done) | (unfold roomOK; simp [cutRows]; omega) | (simp [cutRows]; done) | (simp [cutRows]; omega)) ?_; conv => whnf) | (refine AppG.mk (by first | omega | (unfold roomOK; simp [cutRows]; done) | (unfold roomOK; simp [cutRows]; omega) | (simp [cutRows]; done) | (simp [cutRows]; omega)) ?_; conv => whnf) | (refine SliceG.fr ?_; conv => whnf) | (refine BuildG.fr ?_; conv => whnf) | (refine idx_at _ (by with_reducible rfl) (by first | assumption | omega) ?_; conv => whnf) | ((with_reducible refine row_map (by first | assumption | omega) ?_); conv => whnf) | ((with_reducible refine row_set (by first | assumption | omega | (simp only [List.length_set]; omega) | (simp; omega)) ?_); conv => whnf) | fail)
    refine idx_at (k + 1) rfl hk1 ?_
    conv => whnf
    repeat' (first | ((first | refine Split.mk (fun h => ?_) (fun h => ?_) | refine CondG.mk (fun h => ?_) (fun h => ?_)) <;> (try simp only [decide_eq_true_eq, decide_eq_false_iff_not, Bool.not_eq_true', Bool.not_eq_false', beq_iff_eq, beq_eq_false_iff_ne, bne_iff_ne, bne_eq_false_iff_eq] at h) <;> (first | (exfalso; first | omega | exact h trivial) | (conv => whnf))) | (refine CallX.mk _ _ (by first | exact c1) ?_; conv => whnf) | (refine CallG.mk _ _ (by first | exact c1) ?_; conv => whnf) | (refine Ask.mk (by first | omega | (unfold roomOK; simp [cutRows]; done) | (unfold roomOK; simp [cutRows]; omega) | (simp [cutRows]; done) | (simp [cutRows]; omega)) ?_; conv => whnf) | (refine AskV.mk (by first | omega | (unfold roomOK; simp [cutRows]; done) | (unfold roomOK; simp [cutRows]; omega) | (simp [cutRows]; done) | (simp [cutRows]; omega)) ?_; conv => whnf) | (refine AppG.mk (by first | omega | (unfold roomOK; simp [cutRows]; done) | (unfold roomOK; simp [cutRows]; omega) | (simp [cutRows]; done) | (simp [cutRows]; omega)) ?_; conv => whnf) | (refine SliceG.fr ?_; conv => whnf) | (refine BuildG.fr ?_; conv => whnf) | (refine idx_at _ (by with_reducible rfl) (by first | assumption | omega) ?_; conv => whnf) | ((with_reducible refine row_map (by first | assumption | omega) ?_); conv => whnf) | ((with_reducible refine row_set (by first | assumption | omega | (simp only [List.length_set]; omega) | (simp; omega)) ?_); conv => whnf) | fail)
    · refine idx_at (k + 1) rfl hk1 ?_
      conv => whnf
      repeat' (first | ((first | refine Split.mk (fun h => ?_) (fun h => ?_) | refine CondG.mk (fun h => ?_) (fun h => ?_)) <;> (try simp only [decide_eq_true_eq, decide_eq_false_iff_not, Bool.not_eq_true', Bool.not_eq_false', beq_iff_eq, beq_eq_false_iff_ne, bne_iff_ne, bne_eq_false_iff_eq] at h) <;> (first | (exfalso; first | omega | exact h trivial) | (conv => whnf))) | (refine Ask.mk (by first | omega | (unfold roomOK; simp [cutRows]; done) | (unfold roomOK; simp [cutRows]; omega) | (simp [cutRows]; done) | (simp [cutRows]; omega)) ?_; conv => whnf) | (refine AskV.mk (by first | omega | (unfold roomOK; simp [cutRows]; done) | (unfold roomOK; simp [cutRows]; omega) | (simp [cutRows]; done) | (simp [cutRows]; omega)) ?_; conv => whnf) | (refine AppG.mk (by first | omega | (unfold roomOK; simp [cutRows]; done) | (unfold roomOK; simp [cutRows]; omega) | (simp [cutRows]; done) | (simp [cutRows]; omega)) ?_; conv => whnf) | (refine SliceG.fr ?_; conv => whnf) | (refine BuildG.fr ?_; conv => whnf) | (refine idx_at _ (by with_reducible rfl) (by first | assumption | omega) ?_; conv => whnf) | ((with_reducible refine row_map (by first | assumption | omega) ?_); conv => whnf) | ((with_reducible refine row_set (by first | assumption | omega | (simp only [List.length_set]; omega) | (simp; omega)) ?_); conv => whnf) | fail)
      have h9 : rmS E f P[k + 1] < rmS E f m := cmpI_neg.1 (by assumption)
      rw [if_pos h9] at hi
      exact count_next P[k + 1] hk (by rw [hw]; rfl) ⟨List.getElem_mem _, hi⟩
    · have h9 : ¬ rmS E f P[k + 1] < rmS E f m := fun q => absurd (cmpI_neg.2 q) (by assumption)
      rw [if_neg h9] at hi
      exact count_next m hk (by rw [hw]; rfl) ⟨hm, hi⟩
  · intro m ⟨hm, hi⟩
    rw [show P.length - 1 + 1 = P.length by omega, List.drop_length, minS] at hi
    have hlw : ((P.length - 1 : Nat) : Int) + 1 = (P.length : Int) := by omega
    conv => whnf
    repeat' (first | ((first | refine Split.mk (fun h => ?_) (fun h => ?_) | refine CondG.mk (fun h => ?_) (fun h => ?_)) <;> (try simp only [decide_eq_true_eq, decide_eq_false_iff_not, Bool.not_eq_true', Bool.not_eq_false', beq_iff_eq, beq_eq_false_iff_ne, bne_iff_ne, bne_eq_false_iff_eq] at h) <;> (first | (exfalso; first | omega | exact h trivial) | (conv => whnf))) | (refine Ask.mk (by first | omega | (unfold roomOK; simp [cutRows]; done) | (unfold roomOK; simp [cutRows]; omega) | (simp [cutRows]; done) | (simp [cutRows]; omega)) ?_; conv => whnf) | (refine AskV.mk (by first | omega | (unfold roomOK; simp [cutRows]; done) | (unfold roomOK; simp [cutRows]; omega) | (simp [cutRows]; done) | (simp [cutRows]; omega)) ?_; conv => whnf) | (refine AppG.mk (by first | omega | (unfold roomOK; simp [cutRows]; done) | (unfold roomOK; simp [cutRows]; omega) | (simp [cutRows]; done) | (simp [cutRows]; omega)) ?_; conv => whnf) | (refine SliceG.fr ?_; conv => whnf) | (refine BuildG.fr ?_; conv => whnf) | (refine idx_at _ (by with_reducible rfl) (by first | assumption | omega) ?_; conv => whnf) | ((with_reducible refine row_map (by first | assumption | omega) ?_); conv => whnf) | ((with_reducible refine row_set (by first | assumption | omega | (simp only [List.length_set]; omega) | (simp; omega)) ?_); conv => whnf) | fail)
    exact .mk ⟨by rw [← hi]; rfl, rfl⟩
end Go.Proofs.YthdaejnepengeaaGreatDoor

/- The search for a way on which more can flow: the walk. -/
namespace Go.Proofs.YthdaejnepengeaaGreatDoor
set_option linter.unusedVariables false
set_option linter.unusedSimpArgs false
open Abs

/-- the queue: a row, or a part of one up to its end -/
def TodoV (x : V) (R : List (List V)) (L : List ByteArray) : Prop := (x = .row 3 ∧ R = L.map encS) ∨ ∃ o, x = .vw 3 1 o (R.length - o) ∧ o ≤ R.length ∧ R.drop o = L.map encS
theorem Bfs.len {E : List Ed} {f : List Int} {fr : ByteArray} {Q : List ByteArray} {came : SMt} (h : Bfs E f fr Q came) : Q.length ≤ 2 * E.length + 1 := by
  rw [← sitesE_len E fr]
  refine nodup_sub_len h.nd fun x hx => ?_
  obtain ⟨j, hj, rfl⟩ := List.mem_iff_getElem.1 hx
  rcases Nat.eq_zero_or_pos j with rfl | h0
  · have := h.hd
    rw [List.getElem?_eq_getElem hj] at this
    rw [Option.some.inj this]
    exact List.mem_cons_self ..
  · obtain ⟨i, hi, q, hq, _, h2, h3, _⟩ := h.step j hj h0
    have hm := sitesE_mem (to := fr) E[i] (List.getElem_mem hi)
    rw [← h3]
    unfold Ed.oth
    split
    · exact hm.2
    · exact hm.1
/-- of the site at p the first k edges are looked through -/
structure BfsE (E : List Ed) (f : List Int) (fr a : ByteArray) (p k : Nat) (came : SMt) (Q : List ByteArray) (R : List (List V)) (o : Nat) : Prop where
  b : Bfs E f fr Q came
  seen : Seen E f Q p
  here : ∃ hp : p < Q.length, Q[p] = a
  part : ∀ i (hi : i < E.length), i < k → E[i].at a → roomE E[i] (f.getD i 0) a ≠ 0 → E[i].oth a ∈ Q
  ho : o ≤ R.length
  hR : R.drop o = (Q.drop (p + 1)).map encS
  h1 : 1 ≤ R.length
  h2 : R.length ≤ Q.length
section
variable {E : List Ed} {f : List Int} {fr a : ByteArray} {p k : Nat} {came : SMt} {Q : List ByteArray} {R : List (List V)} {o : Nat}
theorem BfsE.skip (h : BfsE E f fr a p k came Q R o) (hk : k < E.length) (hs : E[k].at a → roomE E[k] (f.getD k 0) a ≠ 0 → E[k].oth a ∈ Q) : BfsE E f fr a p (k + 1) came Q R o :=
  ⟨h.b, h.seen, h.here, fun i hi hik h1 h2 => by
    rcases Nat.lt_succ_iff_lt_or_eq.1 hik with q | rfl
    · exact h.part i hi q h1 h2
    · exact hs h1 h2, h.ho, h.hR, h.h1, h.h2⟩
theorem BfsE.add (h : BfsE E f fr a p k came Q R o) (hk : k < E.length) (hat : E[k].at a) (hr : roomE E[k] (f.getD k 0) a ≠ 0) (hn : E[k].oth a ∉ Q) {R' : List (List V)} {o' : Nat} (ho : o' ≤ R'.length) (hR : R'.drop o' = R.drop o) (hl : R'.length ≤ R.length) :
    BfsE E f fr a p (k + 1) (came.put (E[k].oth a) ((k : Int), a)) (Q ++ [E[k].oth a]) (R' ++ [encS (E[k].oth a)]) o' := by
  obtain ⟨hp, rfl⟩ := h.here
  have h2 := h.h2
  refine ⟨h.b.more hp hk hat hr hn, ?_, ⟨by simp; omega, by rw [List.getElem_append_left hp]⟩, ?_, by simp; omega, ?_, by simp, by simp; omega⟩
  · intro j hj hjp i hi q1 q2
    rw [List.getElem_append_left (by omega)] at q1 q2 ⊢
    exact List.mem_append_left _ (h.seen j (by omega) hjp i hi q1 q2)
  · intro i hi hik q1 q2
    rcases Nat.lt_succ_iff_lt_or_eq.1 hik with q | rfl
    · exact List.mem_append_left _ (h.part i hi q q1 q2)
    · exact List.mem_append_right _ (by simp)
  · rw [List.drop_append_of_le_length ho, hR, h.hR, List.drop_append_of_le_length (by omega), List.map_append]; rfl
theorem BfsE.over (h : BfsE E f fr a p E.length came Q R o) : Bfs E f fr Q came ∧ Seen E f Q (p + 1) ∧ p + 1 ≤ Q.length ∧ 1 ≤ R.length ∧ R.length ≤ Q.length ∧ TodoV (.vw 3 1 o (R.length - o)) R (Q.drop (p + 1)) := by
  obtain ⟨hp, rfl⟩ := h.here
  refine ⟨h.b, ?_, hp, h.h1, h.h2, .inr ⟨o, rfl, h.ho, h.hR⟩⟩
  intro j hj hjp i hi q1 q2
  rcases Nat.lt_succ_iff_lt_or_eq.1 hjp with q | rfl
  · exact h.seen j hj q i hi q1 q2
  · exact h.part i hi hi q1 q2
end
set_option maxRecDepth 100000 in
set_option maxHeartbeats 4000000 in
theorem gMore_pc (E : List Ed) (f : List Int) (fr to : ByteArray) (pf : Nat) (hpf : ∀ s : ByteArray, PCp pf [.c (.str s)] [] (.c (.bool true)) []) (hE : EdsOk E) (hl : E.length ≤ 1000) (hf : f.length = E.length)
    (hb : ∀ i (hi : i < E.length), (-1000000 ≤ f.getD i 0 ∧ f.getD i 0 ≤ 1000000) ∧ 0 ≤ E[i].cap ∧ E[i].cap ≤ 1000000) :
    PCq 53 [gphS E pf, .c (.row 0), .c (.str fr), .c (.str to)] [.row 3 1 (f.map encI)] fun r os => os = [.row 3 1 (f.map encI)] ∧ ∃ Q came, Bfs E f fr Q came ∧ Seen E f Q Q.length ∧ ((to ∉ Q ∧ r = .c .nils) ∨ (to ∈ Q ∧ ∃ P, Bk came fr to P ∧ r = .c (.lst 2 (P.map encSt)))) := by
  have hEm : (E.map encEd).length = E.length := List.length_map ..
  have hfm : (f.map encI).length = E.length := by rw [List.length_map, hf]
  have hb0 := Bfs.begin E f fr (0, ⟨#[]⟩)
  refine fn_soundX (mt := mts) tab_fits tab_mixed Tryz.func53 (by rfl) (by kernel_rfl) (by kernel_rfl) Tryz.results53 (Nat.le_of_ble_eq_true (by kernel_rfl)) ?_
  conv => whnf
  repeat' (first | ((first | refine Split.mk (fun h => ?_) (fun h => ?_) | refine CondG.mk (fun h => ?_) (fun h => ?_)) <;> (try simp only [decide_eq_true_eq, decide_eq_false_iff_not, Bool.not_eq_true', Bool.not_eq_false', beq_iff_eq, beq_eq_false_iff_ne, bne_iff_ne, bne_eq_false_iff_eq] at h) <;> (first | (exfalso; first | omega | exact h trivial) | (conv => whnf))) | (refine Ask.mk (by first | omega | (unfold roomOK; simp [cutRows]; done) | (unfold roomOK; simp [cutRows]; omega) | (simp [cutRows]; done) | (simp [cutRows]; omega)) ?_; conv => whnf) | (refine AskV.mk (by first | omega | (unfold roomOK; simp [cutRows]; done) | (unfold roomOK; simp [cutRows]; omega) | (simp [cutRows]; done) | (simp [cutRows]; omega)) ?_; conv => whnf) | (refine AppG.mk (by first | omega | (unfold roomOK; simp [cutRows]; done) | (unfold roomOK; simp [cutRows]; omega) | (simp [cutRows]; done) | (simp [cutRows]; omega)) ?_; conv => whnf) | (refine SliceG.fr ?_; conv => whnf) | (refine BuildG.fr ?_; conv => whnf) | (refine idx_at _ (by with_reducible rfl) (by first | assumption | omega) ?_; conv => whnf) | ((with_reducible refine row_map (by first | assumption | omega) ?_); conv => whnf) | ((with_reducible refine row_set (by first | assumption | omega | (simp only [List.length_set]; omega) | (simp; omega)) ?_); conv => whnf) | fail)
  refine sm_upd (ek := ekS) (ev := evSt) keyStr SM.nil fr (0, ⟨#[]⟩) ?_
  conv => whnf
  repeat' (first | ((first | refine Split.mk (fun h => ?_) (fun h => ?_) | refine CondG.mk (fun h => ?_) (fun h => ?_)) <;> (try simp only [decide_eq_true_eq, decide_eq_false_iff_not, Bool.not_eq_true', Bool.not_eq_false', beq_iff_eq, beq_eq_false_iff_ne, bne_iff_ne, bne_eq_false_iff_eq] at h) <;> (first | (exfalso; first | omega | exact h trivial) | (conv => whnf))) | (refine Ask.mk (by first | omega | (unfold roomOK; simp [cutRows]; done) | (unfold roomOK; simp [cutRows]; omega) | (simp [cutRows]; done) | (simp [cutRows]; omega)) ?_; conv => whnf) | (refine AskV.mk (by first | omega | (unfold roomOK; simp [cutRows]; done) | (unfold roomOK; simp [cutRows]; omega) | (simp [cutRows]; done) | (simp [cutRows]; omega)) ?_; conv => whnf) | (refine AppG.mk (by first | omega | (unfold roomOK; simp [cutRows]; done) | (unfold roomOK; simp [cutRows]; omega) | (simp [cutRows]; done) | (simp [cutRows]; omega)) ?_; conv => whnf) | (refine SliceG.fr ?_; conv => whnf) | (refine BuildG.fr ?_; conv => whnf) | (refine idx_at _ (by with_reducible rfl) (by first | assumption | omega) ?_; conv => whnf) | ((with_reducible refine row_map (by first | assumption | omega) ?_); conv => whnf) | ((with_reducible refine row_set (by first | assumption | omega | (simp only [List.length_set]; omega) | (simp; omega)) ?_); conv => whnf) | fail)
  refine loop_while4 (fun (came : SMt) (Q : List ByteArray) (p : Nat) (y : V × List (List V)) => 2 * E.length + 2 - p) [] [1, 2, 3, 4, 9, 10] (fun (came : SMt) (Q : List ByteArray) (p : Nat) (y : V × List (List V)) => [(10, .c y.1)]) (fun (came : SMt) (Q : List ByteArray) (p : Nat) (y : V × List (List V)) => [(2, smO ekS evSt came), (3, .row 9 1 y.2)]) (fun (came : SMt) (Q : List ByteArray) (p : Nat) (y : V × List (List V)) => Bfs E f fr Q came ∧ Seen E f Q p ∧ p ≤ Q.length ∧ 1 ≤ y.2.length ∧ y.2.length ≤ Q.length ∧ TodoV y.1 y.2 (Q.drop p)) (SM.nil.put fr (0, ⟨#[]⟩)) ([fr]) (0) ((.row 3, [encS fr])) ?_
  conv => whnf
  refine ⟨?_, ?_, ?_⟩
  · rfl
  · exact ⟨hb0, fun j hj h => by omega, Nat.zero_le _, Nat.le_refl _, Nat.le_refl _, .inl ⟨rfl, rfl⟩⟩
  · intro came Q p ⟨x, R⟩ ⟨h1, h2, h3, h5, h6, h4⟩
    simp only at h4 h5 h6
    have hdl : (Q.drop p).length = Q.length - p := List.length_drop ..
    have hQl := h1.len
    rcases h4 with ⟨rfl, rfl⟩ | ⟨o, rfl, ho, hR⟩
    · skip
      as_aux_lemma =>
       have hRm : ((Q.drop p).map encS).length = Q.length - p := by rw [List.length_map, hdl]
       dsimp only
       conv => whnf
       repeat' (first | ((first | refine Split.mk (fun h => ?_) (fun h => ?_) | refine CondG.mk (fun h => ?_) (fun h => ?_)) <;> (try simp only [decide_eq_true_eq, decide_eq_false_iff_not, Bool.not_eq_true', Bool.not_eq_false', beq_iff_eq, beq_eq_false_iff_ne] at h) <;> (first | (exfalso; first | omega | exact h trivial) | (conv => whnf))) | (refine Ask.mk (by first | omega | (unfold roomOK; simp [cutRows]; done) | (unfold roomOK; simp [cutRows]; omega)) ?_; conv => whnf) | (refine AskV.mk (by first | omega | (unfold roomOK; simp [cutRows]; done) | (unfold roomOK; simp [cutRows]; omega)) ?_; conv => whnf) | (refine AppG.mk (by first | omega | (unfold roomOK; simp [cutRows]; done) | (unfold roomOK; simp [cutRows]; omega)) ?_; conv => whnf) | (refine SliceG.fr ?_; conv => whnf) | (refine BuildG.fr ?_; conv => whnf) | fail)
       · have hp : p < Q.length := by omega
         have hg0 : (Q.drop p)[0]? = some Q[p] := by rw [List.getElem?_drop]; simp [hp]
         refine RowG.mk (encS Q[p]) (by rw [List.getElem?_map]; exact congrArg (Option.map encS) hg0) ?_
         conv => whnf
         refine .mk (by first | omega | (simp; done) | (simp; omega)) ?_
         conv => whnf
         refine .vw ?_
         conv => whnf
         have hini : BfsE E f fr Q[p] p 0 came Q ((Q.drop p).map encS) 1 := ⟨h1, h2, ⟨hp, rfl⟩, fun i hi h => by omega, by omega, by rw [← List.map_drop, List.drop_drop], by omega, by omega⟩
         repeat' (first | ((first | refine Split.mk (fun h => ?_) (fun h => ?_) | refine CondG.mk (fun h => ?_) (fun h => ?_)) <;> (try simp only [decide_eq_true_eq, decide_eq_false_iff_not, Bool.not_eq_true', Bool.not_eq_false', beq_iff_eq, beq_eq_false_iff_ne, bne_iff_ne, bne_eq_false_iff_eq] at h) <;> (first | (exfalso; first | omega | exact h trivial) | (conv => whnf))) | (refine CallX.mk _ _ (by first | exact hpf _) ?_; conv => whnf) | (refine CallG.mk _ _ (by first | exact hpf _) ?_; conv => whnf) | (refine Ask.mk (by first | omega | (unfold roomOK; simp [cutRows]; done) | (unfold roomOK; simp [cutRows]; omega) | (simp [cutRows]; done) | (simp [cutRows]; omega)) ?_; conv => whnf) | (refine AskV.mk (by first | omega | (unfold roomOK; simp [cutRows]; done) | (unfold roomOK; simp [cutRows]; omega) | (simp [cutRows]; done) | (simp [cutRows]; omega)) ?_; conv => whnf) | (refine AppG.mk (by first | omega | (unfold roomOK; simp [cutRows]; done) | (unfold roomOK; simp [cutRows]; omega) | (simp [cutRows]; done) | (simp [cutRows]; omega)) ?_; conv => whnf) | (refine SliceG.fr ?_; conv => whnf) | (refine BuildG.fr ?_; conv => whnf) | (refine idx_at _ (by with_reducible rfl) (by first | assumption | omega) ?_; conv => whnf) | ((with_reducible refine row_map (by first | assumption | omega) ?_); conv => whnf) | ((with_reducible refine row_set (by first | assumption | omega | (simp only [List.length_set]; omega) | (simp; omega)) ?_); conv => whnf) | fail)
         · rename_i h; cases h
         all_goals
           refine loop_for4 (E.length) [] [1, 2, 3, 4, 9, 10, 11, 46, 47, 48] (fun k (came : SMt) (Q' : List ByteArray) (R : List (List V)) (o : Nat) => [(10, .c (.vw 3 1 o (R.length - o))), (48, .c (.int .i64 (k : Int)))]) (fun k (came : SMt) (Q' : List ByteArray) (R : List (List V)) (o : Nat) => [(2, smO ekS evSt came), (3, .row 9 1 R)]) (fun k (came : SMt) (Q' : List ByteArray) (R : List (List V)) (o : Nat) => BfsE E f fr Q[p] p k came Q' R o) (came) (Q) ((Q.drop p).map encS) (1) ?_
           conv => whnf
           refine ⟨?_, ?_, ?_, ?_⟩
           · rfl
           · exact hini
           · intro k came Q' R o hk hBE
             as_aux_lemma =>
              have hbk := hb k hk
              have hkf : k < f.length := by omega
              have hgf : f.getD k 0 = f[k] := by simp [hkf]
              have hrc := room_pc E[k] f[k] Q[p] (by omega) (by omega)
              have hho := hBE.ho
              have hh2 := hBE.h2
              have hhl := hBE.b.len
              have n1 : E[k].a.toList ≠ Q[p].toList → E[k].b.toList ≠ Q[p].toList → BfsE E f fr Q[p] p (k + 1) came Q' R o := fun q1 q2 => hBE.skip hk fun h => by
                rcases h with h | h
                · exact absurd (strEqW.2 h) q1
                · exact absurd (strEqW.2 h) q2
              have n2 : roomE E[k] f[k] Q[p] = 0 → BfsE E f fr Q[p] p (k + 1) came Q' R o := fun q => hBE.skip hk fun _ h => absurd (by rw [hgf]; exact q) h
              have n3 : (came.get (E[k].oth Q[p])).isSome = true → BfsE E f fr Q[p] p (k + 1) came Q' R o := fun q => hBE.skip hk fun _ _ => (hBE.b.mem _).1 q
              have n4 : E[k].at Q[p] → roomE E[k] f[k] Q[p] ≠ 0 → (came.get (E[k].oth Q[p])).isSome = false → ∀ (R' : List (List V)) (o' : Nat), o' ≤ R'.length → R'.drop o' = R.drop o → R'.length ≤ R.length → BfsE E f fr Q[p] p (k + 1) (came.put (E[k].oth Q[p]) ((k : Int), Q[p])) (Q' ++ [E[k].oth Q[p]]) (R' ++ [encS (E[k].oth Q[p])]) o' :=
                fun q1 q2 q3 R' o' g1 g2 g3 => hBE.add hk q1 (by rw [hgf]; exact q2) (fun hm => by rw [(hBE.b.mem _).2 hm] at q3; cases q3) g1 g2 g3
              conv => whnf
              repeat' (first | ((first | refine Split.mk (fun h => ?_) (fun h => ?_) | refine CondG.mk (fun h => ?_) (fun h => ?_)) <;> (try simp only [decide_eq_true_eq, decide_eq_false_iff_not, Bool.not_eq_true', Bool.not_eq_false', beq_iff_eq, beq_eq_false_iff_ne, bne_iff_ne, bne_eq_false_iff_eq] at h) <;> (first | (exfalso; first | omega | exact h trivial) | (conv => whnf))) | (refine CallX.mk _ _ (by first | exact other_pc _ _ | exact hrc) ?_; conv => whnf) | (refine CallG.mk _ _ (by first | exact other_pc _ _ | exact hrc) ?_; conv => whnf) | (refine Ask.mk (by first | omega | (unfold roomOK; simp [cutRows]; done) | (unfold roomOK; simp [cutRows]; omega) | (simp [cutRows]; done) | (simp [cutRows]; omega)) ?_; conv => whnf) | (refine AskV.mk (by first | omega | (unfold roomOK; simp [cutRows]; done) | (unfold roomOK; simp [cutRows]; omega) | (simp [cutRows]; done) | (simp [cutRows]; omega)) ?_; conv => whnf) | (refine AppG.mk (by first | omega | (unfold roomOK; simp [cutRows]; done) | (unfold roomOK; simp [cutRows]; omega) | (simp [cutRows]; done) | (simp [cutRows]; omega)) ?_; conv => whnf) | (refine SliceG.fr ?_; conv => whnf) | (refine BuildG.fr ?_; conv => whnf) | (refine idx_at _ (by with_reducible rfl) (by first | assumption | omega) ?_; conv => whnf) | ((with_reducible refine row_map (by first | assumption | omega) ?_); conv => whnf) | ((with_reducible refine row_set (by first | assumption | omega | (simp only [List.length_set]; omega) | (simp; omega)) ?_); conv => whnf) | ((refine sm_look (ek := ekS) (ev := evSt) keyStr came (E[k].oth Q[p]) ((0, ⟨#[]⟩) : St2) rfl ?_); conv => whnf) | ((refine sm_upd (ek := ekS) (ev := evSt) keyStr came (E[k].oth Q[p]) ((k : Int), Q[p]) ?_); conv => whnf) | fail)
              all_goals first
                | exact count_next (came, Q', R, o) hk (by rw [wrap_succ hk (by omega)]; rfl) (by first | exact n1 (by assumption) (by assumption) | exact n2 (by assumption) | exact n3 (by assumption))
                | skip
              all_goals
                refine .out ⟨⟨by omega, rfl, ⟨hBE.h1, Nat.le_refl _⟩, by unfold roomOK; simp [cutRows]; omega⟩, fun o' R' q1 q2 q3 => ?_⟩
                conv => whnf
                have hq := n4 (by first | exact .inl (strEqW.1 (by assumption)) | exact .inr (strEqW.1 (by assumption))) (by assumption) (by assumption) R' o' q1 q2 q3.2
                have hle : (R' ++ [encS (E[k].oth Q[p])]).length - o' = R.length - o + 1 := by rw [List.length_append]; simp only [List.length_cons, List.length_nil]; omega
                exact count_next (came.put (E[k].oth Q[p]) ((k : Int), Q[p]), Q' ++ [E[k].oth Q[p]], R' ++ [encS (E[k].oth Q[p])], o') hk (by rw [wrap_succ hk (by omega)]; simp only [hle]; rfl) hq
           · intro came Q' R o hBE
             have hov := hBE.over
             have hql := hov.1.len
             conv => whnf
             repeat' (first | ((first | refine Split.mk (fun h => ?_) (fun h => ?_) | refine CondG.mk (fun h => ?_) (fun h => ?_)) <;> (try simp only [decide_eq_true_eq, decide_eq_false_iff_not, Bool.not_eq_true', Bool.not_eq_false', beq_iff_eq, beq_eq_false_iff_ne, bne_iff_ne, bne_eq_false_iff_eq] at h) <;> (first | (exfalso; first | omega | exact h trivial) | (conv => whnf))) | (refine Ask.mk (by first | omega | (unfold roomOK; simp [cutRows]; done) | (unfold roomOK; simp [cutRows]; omega) | (simp [cutRows]; done) | (simp [cutRows]; omega)) ?_; conv => whnf) | (refine AskV.mk (by first | omega | (unfold roomOK; simp [cutRows]; done) | (unfold roomOK; simp [cutRows]; omega) | (simp [cutRows]; done) | (simp [cutRows]; omega)) ?_; conv => whnf) | (refine AppG.mk (by first | omega | (unfold roomOK; simp [cutRows]; done) | (unfold roomOK; simp [cutRows]; omega) | (simp [cutRows]; done) | (simp [cutRows]; omega)) ?_; conv => whnf) | (refine SliceG.fr ?_; conv => whnf) | (refine BuildG.fr ?_; conv => whnf) | (refine idx_at _ (by with_reducible rfl) (by first | assumption | omega) ?_; conv => whnf) | ((with_reducible refine row_map (by first | assumption | omega) ?_); conv => whnf) | ((with_reducible refine row_set (by first | assumption | omega | (simp only [List.length_set]; omega) | (simp; omega)) ?_); conv => whnf) | fail)
             exact meas_next (came, Q', p + 1, (.vw 3 1 o (R.length - o), R)) (by show 2 * E.length + 2 - (p + 1) < 2 * E.length + 2 - p; omega) rfl hov
    · skip
      as_aux_lemma =>
       dsimp only
       have hRl : R.length - o = Q.length - p := by
         have h8 := congrArg List.length hR
         rw [List.length_drop, List.length_map, hdl] at h8
         exact h8
       conv => whnf
       repeat' (first | ((first | refine Split.mk (fun h => ?_) (fun h => ?_) | refine CondG.mk (fun h => ?_) (fun h => ?_)) <;> (try simp only [decide_eq_true_eq, decide_eq_false_iff_not, Bool.not_eq_true', Bool.not_eq_false', beq_iff_eq, beq_eq_false_iff_ne] at h) <;> (first | (exfalso; first | omega | exact h trivial) | (conv => whnf))) | (refine Ask.mk (by first | omega | (unfold roomOK; simp [cutRows]; done) | (unfold roomOK; simp [cutRows]; omega)) ?_; conv => whnf) | (refine AskV.mk (by first | omega | (unfold roomOK; simp [cutRows]; done) | (unfold roomOK; simp [cutRows]; omega)) ?_; conv => whnf) | (refine AppG.mk (by first | omega | (unfold roomOK; simp [cutRows]; done) | (unfold roomOK; simp [cutRows]; omega)) ?_; conv => whnf) | (refine SliceG.fr ?_; conv => whnf) | (refine BuildG.fr ?_; conv => whnf) | fail)
       · have hp : p < Q.length := by omega
         have hg0 : R[o]? = some (encS Q[p]) := by
           have h8 : (R.drop o)[0]? = ((Q.drop p).map encS)[0]? := by rw [hR]
           rw [List.getElem?_drop, List.getElem?_map, List.getElem?_drop] at h8
           simpa [hp] using h8
         refine RowG.mk (encS Q[p]) hg0 ?_
         conv => whnf
         refine .mk (by first | omega | (simp; done) | (simp; omega)) ?_
         conv => whnf
         rw [show R.length - o - Int.toNat 1 = R.length - (o + 1) by show R.length - o - 1 = _; omega, show o + Int.toNat 1 = o + 1 from rfl]
         have hini : BfsE E f fr Q[p] p 0 came Q R (o + 1) := ⟨h1, h2, ⟨hp, rfl⟩, fun i hi h => by omega, by omega, by rw [← List.drop_drop, hR, ← List.map_drop, List.drop_drop], by omega, by omega⟩
         repeat' (first | ((first | refine Split.mk (fun h => ?_) (fun h => ?_) | refine CondG.mk (fun h => ?_) (fun h => ?_)) <;> (try simp only [decide_eq_true_eq, decide_eq_false_iff_not, Bool.not_eq_true', Bool.not_eq_false', beq_iff_eq, beq_eq_false_iff_ne, bne_iff_ne, bne_eq_false_iff_eq] at h) <;> (first | (exfalso; first | omega | exact h trivial) | (conv => whnf))) | (refine CallX.mk _ _ (by first | exact hpf _) ?_; conv => whnf) | (refine CallG.mk _ _ (by first | exact hpf _) ?_; conv => whnf) | (refine Ask.mk (by first | omega | (unfold roomOK; simp [cutRows]; done) | (unfold roomOK; simp [cutRows]; omega) | (simp [cutRows]; done) | (simp [cutRows]; omega)) ?_; conv => whnf) | (refine AskV.mk (by first | omega | (unfold roomOK; simp [cutRows]; done) | (unfold roomOK; simp [cutRows]; omega) | (simp [cutRows]; done) | (simp [cutRows]; omega)) ?_; conv => whnf) | (refine AppG.mk (by first | omega | (unfold roomOK; simp [cutRows]; done) | (unfold roomOK; simp [cutRows]; omega) | (simp [cutRows]; done) | (simp [cutRows]; omega)) ?_; conv => whnf) | (refine SliceG.fr ?_; conv => whnf) | (refine BuildG.fr ?_; conv => whnf) | (refine idx_at _ (by with_reducible rfl) (by first | assumption | omega) ?_; conv => whnf) | ((with_reducible refine row_map (by first | assumption | omega) ?_); conv => whnf) | ((with_reducible refine row_set (by first | assumption | omega | (simp only [List.length_set]; omega) | (simp; omega)) ?_); conv => whnf) | fail)
         · rename_i h; cases h
         all_goals
           refine loop_for4 (E.length) [] [1, 2, 3, 4, 9, 10, 11, 46, 47, 48] (fun k (came : SMt) (Q' : List ByteArray) (R : List (List V)) (o : Nat) => [(10, .c (.vw 3 1 o (R.length - o))), (48, .c (.int .i64 (k : Int)))]) (fun k (came : SMt) (Q' : List ByteArray) (R : List (List V)) (o : Nat) => [(2, smO ekS evSt came), (3, .row 9 1 R)]) (fun k (came : SMt) (Q' : List ByteArray) (R : List (List V)) (o : Nat) => BfsE E f fr Q[p] p k came Q' R o) (came) (Q) (R) (o + 1) ?_
           conv => whnf
           refine ⟨?_, ?_, ?_, ?_⟩
           · rfl
           · exact hini
           · intro k came Q' R o hk hBE
             as_aux_lemma =>
              have hbk := hb k hk
              have hkf : k < f.length := by omega
              have hgf : f.getD k 0 = f[k] := by simp [hkf]
              have hrc := room_pc E[k] f[k] Q[p] (by omega) (by omega)
              have hho := hBE.ho
              have hh2 := hBE.h2
              have hhl := hBE.b.len
              have n1 : E[k].a.toList ≠ Q[p].toList → E[k].b.toList ≠ Q[p].toList → BfsE E f fr Q[p] p (k + 1) came Q' R o := fun q1 q2 => hBE.skip hk fun h => by
                rcases h with h | h
                · exact absurd (strEqW.2 h) q1
                · exact absurd (strEqW.2 h) q2
              have n2 : roomE E[k] f[k] Q[p] = 0 → BfsE E f fr Q[p] p (k + 1) came Q' R o := fun q => hBE.skip hk fun _ h => absurd (by rw [hgf]; exact q) h
              have n3 : (came.get (E[k].oth Q[p])).isSome = true → BfsE E f fr Q[p] p (k + 1) came Q' R o := fun q => hBE.skip hk fun _ _ => (hBE.b.mem _).1 q
              have n4 : E[k].at Q[p] → roomE E[k] f[k] Q[p] ≠ 0 → (came.get (E[k].oth Q[p])).isSome = false → ∀ (R' : List (List V)) (o' : Nat), o' ≤ R'.length → R'.drop o' = R.drop o → R'.length ≤ R.length → BfsE E f fr Q[p] p (k + 1) (came.put (E[k].oth Q[p]) ((k : Int), Q[p])) (Q' ++ [E[k].oth Q[p]]) (R' ++ [encS (E[k].oth Q[p])]) o' :=
                fun q1 q2 q3 R' o' g1 g2 g3 => hBE.add hk q1 (by rw [hgf]; exact q2) (fun hm => by rw [(hBE.b.mem _).2 hm] at q3; cases q3) g1 g2 g3
              conv => whnf
              repeat' (first | ((first | refine Split.mk (fun h => ?_) (fun h => ?_) | refine CondG.mk (fun h => ?_) (fun h => ?_)) <;> (try simp only [decide_eq_true_eq, decide_eq_false_iff_not, Bool.not_eq_true', Bool.not_eq_false', beq_iff_eq, beq_eq_false_iff_ne, bne_iff_ne, bne_eq_false_iff_eq] at h) <;> (first | (exfalso; first | omega | exact h trivial) | (conv => whnf))) | (refine CallX.mk _ _ (by first | exact other_pc _ _ | exact hrc) ?_; conv => whnf) | (refine CallG.mk _ _ (by first | exact other_pc _ _ | exact hrc) ?_; conv => whnf) | (refine Ask.mk (by first | omega | (unfold roomOK; simp [cutRows]; done) | (unfold roomOK; simp [cutRows]; omega) | (simp [cutRows]; done) | (simp [cutRows]; omega)) ?_; conv => whnf) | (refine AskV.mk (by first | omega | (unfold roomOK; simp [cutRows]; done) | (unfold roomOK; simp [cutRows]; omega) | (simp [cutRows]; done) | (simp [cutRows]; omega)) ?_; conv => whnf) | (refine AppG.mk (by first | omega | (unfold roomOK; simp [cutRows]; done) | (unfold roomOK; simp [cutRows]; omega) | (simp [cutRows]; done) | (simp [cutRows]; omega)) ?_; conv => whnf) | (refine SliceG.fr ?_; conv => whnf) | (refine BuildG.fr ?_; conv => whnf) | (refine idx_at _ (by with_reducible rfl) (by first | assumption | omega) ?_; conv => whnf) | ((with_reducible refine row_map (by first | assumption | omega) ?_); conv => whnf) | ((with_reducible refine row_set (by first | assumption | omega | (simp only [List.length_set]; omega) | (simp; omega)) ?_); conv => whnf) | ((refine sm_look (ek := ekS) (ev := evSt) keyStr came (E[k].oth Q[p]) ((0, ⟨#[]⟩) : St2) rfl ?_); conv => whnf) | ((refine sm_upd (ek := ekS) (ev := evSt) keyStr came (E[k].oth Q[p]) ((k : Int), Q[p]) ?_); conv => whnf) | fail)
              all_goals first
                | exact count_next (came, Q', R, o) hk (by rw [wrap_succ hk (by omega)]; rfl) (by first | exact n1 (by assumption) (by assumption) | exact n2 (by assumption) | exact n3 (by assumption))
                | skip
              all_goals
                refine .out ⟨⟨by omega, rfl, ⟨hBE.h1, Nat.le_refl _⟩, by unfold roomOK; simp [cutRows]; omega⟩, fun o' R' q1 q2 q3 => ?_⟩
                conv => whnf
                have hq := n4 (by first | exact .inl (strEqW.1 (by assumption)) | exact .inr (strEqW.1 (by assumption))) (by assumption) (by assumption) R' o' q1 q2 q3.2
                have hle : (R' ++ [encS (E[k].oth Q[p])]).length - o' = R.length - o + 1 := by rw [List.length_append]; simp only [List.length_cons, List.length_nil]; omega
                exact count_next (came.put (E[k].oth Q[p]) ((k : Int), Q[p]), Q' ++ [E[k].oth Q[p]], R' ++ [encS (E[k].oth Q[p])], o') hk (by rw [wrap_succ hk (by omega)]; simp only [hle]; rfl) hq
           · intro came Q' R o hBE
             have hov := hBE.over
             have hql := hov.1.len
             conv => whnf
             repeat' (first | ((first | refine Split.mk (fun h => ?_) (fun h => ?_) | refine CondG.mk (fun h => ?_) (fun h => ?_)) <;> (try simp only [decide_eq_true_eq, decide_eq_false_iff_not, Bool.not_eq_true', Bool.not_eq_false', beq_iff_eq, beq_eq_false_iff_ne, bne_iff_ne, bne_eq_false_iff_eq] at h) <;> (first | (exfalso; first | omega | exact h trivial) | (conv => whnf))) | (refine Ask.mk (by first | omega | (unfold roomOK; simp [cutRows]; done) | (unfold roomOK; simp [cutRows]; omega) | (simp [cutRows]; done) | (simp [cutRows]; omega)) ?_; conv => whnf) | (refine AskV.mk (by first | omega | (unfold roomOK; simp [cutRows]; done) | (unfold roomOK; simp [cutRows]; omega) | (simp [cutRows]; done) | (simp [cutRows]; omega)) ?_; conv => whnf) | (refine AppG.mk (by first | omega | (unfold roomOK; simp [cutRows]; done) | (unfold roomOK; simp [cutRows]; omega) | (simp [cutRows]; done) | (simp [cutRows]; omega)) ?_; conv => whnf) | (refine SliceG.fr ?_; conv => whnf) | (refine BuildG.fr ?_; conv => whnf) | (refine idx_at _ (by with_reducible rfl) (by first | assumption | omega) ?_; conv => whnf) | ((with_reducible refine row_map (by first | assumption | omega) ?_); conv => whnf) | ((with_reducible refine row_set (by first | assumption | omega | (simp only [List.length_set]; omega) | (simp; omega)) ?_); conv => whnf) | fail)
             exact meas_next (came, Q', p + 1, (.vw 3 1 o (R.length - o), R)) (by show 2 * E.length + 2 - (p + 1) < 2 * E.length + 2 - p; omega) rfl hov
       · have hpe : p = Q.length := by omega
         subst hpe
         repeat' (first | ((first | refine Split.mk (fun h => ?_) (fun h => ?_) | refine CondG.mk (fun h => ?_) (fun h => ?_)) <;> (try simp only [decide_eq_true_eq, decide_eq_false_iff_not, Bool.not_eq_true', Bool.not_eq_false', beq_iff_eq, beq_eq_false_iff_ne, bne_iff_ne, bne_eq_false_iff_eq] at h) <;> (first | (exfalso; first | omega | exact h trivial) | (conv => whnf))) | (refine Ask.mk (by first | omega | (unfold roomOK; simp [cutRows]; done) | (unfold roomOK; simp [cutRows]; omega) | (simp [cutRows]; done) | (simp [cutRows]; omega)) ?_; conv => whnf) | (refine AskV.mk (by first | omega | (unfold roomOK; simp [cutRows]; done) | (unfold roomOK; simp [cutRows]; omega) | (simp [cutRows]; done) | (simp [cutRows]; omega)) ?_; conv => whnf) | (refine AppG.mk (by first | omega | (unfold roomOK; simp [cutRows]; done) | (unfold roomOK; simp [cutRows]; omega) | (simp [cutRows]; done) | (simp [cutRows]; omega)) ?_; conv => whnf) | (refine SliceG.fr ?_; conv => whnf) | (refine BuildG.fr ?_; conv => whnf) | (refine idx_at _ (by with_reducible rfl) (by first | assumption | omega) ?_; conv => whnf) | ((with_reducible refine row_map (by first | assumption | omega) ?_); conv => whnf) | ((with_reducible refine row_set (by first | assumption | omega | (simp only [List.length_set]; omega) | (simp; omega)) ?_); conv => whnf) | ((refine sm_look (ek := ekS) (ev := evSt) keyStr came to ((0, ⟨#[]⟩) : St2) rfl ?_); conv => whnf) | fail)
         · have hto : to ∉ Q := fun hm => by
             have h8 := (h1.mem to).2 hm
             have h9 : (came.get to).isSome = false := by assumption
             rw [h8] at h9; cases h9
           exact .mk _ _ ⟨rfl, Q, came, h1, h2, .inl ⟨hto, rfl⟩⟩ (.mk ⟨rfl, rfl⟩)
         · have hto : to ∈ Q := (h1.mem to).1 (by assumption)
           obtain ⟨j0, hj0, hjt⟩ := List.mem_iff_getElem.1 hto
           refine loop_while3 (fun (t : ByteArray) (j : Nat) (P : List St2) => j) [.sl 19 114 2] [2, 9, 19, 20] (fun (t : ByteArray) (j : Nat) (P : List St2) => [(20, .c (.str t))]) (fun (t : ByteArray) (j : Nat) (P : List St2) => [(2, .row 114 2 (P.map encSt))]) (fun (t : ByteArray) (j : Nat) (P : List St2) => Q[j]? = some t ∧ P.length + j ≤ Q.length ∧ (∀ P', Bk came fr t P' → Bk came fr to (P ++ P'))) (to) (j0) ([]) ?_
           conv => whnf
           refine ⟨?_, ?_, ?_⟩
           · rfl
           · exact ⟨by rw [List.getElem?_eq_getElem hj0, hjt], by simp; omega, fun P' h => h⟩
           · intro t j P ⟨ht, hPl, hbk⟩
             obtain ⟨hjl, htj⟩ := List.getElem?_eq_some_iff.1 ht
             have htm : (came.get t).isSome = true := (h1.mem t).2 (by rw [← htj]; exact List.getElem_mem hjl)
             obtain ⟨x, hx⟩ := Option.isSome_iff_exists.1 htm
             have hxd : (came.get t).getD (0, ⟨#[]⟩) = x := by rw [hx]; rfl
             have hPm : (P.map encSt).length = P.length := List.length_map ..
             conv => whnf
             repeat' (first | ((first | refine Split.mk (fun h => ?_) (fun h => ?_) | refine CondG.mk (fun h => ?_) (fun h => ?_)) <;> (try simp only [decide_eq_true_eq, decide_eq_false_iff_not, Bool.not_eq_true', Bool.not_eq_false', beq_iff_eq, beq_eq_false_iff_ne, bne_iff_ne, bne_eq_false_iff_eq] at h) <;> (first | (exfalso; first | omega | exact h trivial) | (conv => whnf))) | (refine Ask.mk (by first | omega | (unfold roomOK; simp [cutRows]; done) | (unfold roomOK; simp [cutRows]; omega) | (simp [cutRows]; done) | (simp [cutRows]; omega)) ?_; conv => whnf) | (refine AskV.mk (by first | omega | (unfold roomOK; simp [cutRows]; done) | (unfold roomOK; simp [cutRows]; omega) | (simp [cutRows]; done) | (simp [cutRows]; omega)) ?_; conv => whnf) | (refine AppG.mk (by first | omega | (unfold roomOK; simp [cutRows]; done) | (unfold roomOK; simp [cutRows]; omega) | (simp [cutRows]; done) | (simp [cutRows]; omega)) ?_; conv => whnf) | (refine SliceG.fr ?_; conv => whnf) | (refine BuildG.fr ?_; conv => whnf) | (refine idx_at _ (by with_reducible rfl) (by first | assumption | omega) ?_; conv => whnf) | ((with_reducible refine row_map (by first | assumption | omega) ?_); conv => whnf) | ((with_reducible refine row_set (by first | assumption | omega | (simp only [List.length_set]; omega) | (simp; omega)) ?_); conv => whnf) | ((refine sm_look (ek := ekS) (ev := evSt) keyStr came t ((0, ⟨#[]⟩) : St2) rfl ?_); conv => whnf) | fail)
             · have hne : t ≠ fr := fun q => absurd (strEqW.2 q) (by assumption)
               obtain ⟨j', q, hj', hq, e1, e2⟩ := h1.index hne hx
               have hjj : j' = j := (List.getElem_inj h1.nd).1 (e1.trans htj.symm)
               subst hjj
               have hql : q < Q.length := by omega
               have hPx : (P ++ [x]).length + q ≤ Q.length := by rw [List.length_append]; simp only [List.length_cons, List.length_nil]; omega
               have hQq : Q[q]? = some x.2 := by rw [List.getElem?_eq_getElem hql, e2]
               exact meas_next (x.2, q, P ++ [x]) (by show q < j'; omega) (by rw [hxd, List.map_append]; rfl) ⟨hQq, hPx, fun P' h => by rw [List.append_assoc]; exact hbk _ (.cons hne hx h)⟩
             · have hst : t = fr := strEqW.1 (by assumption)
               subst hst
               refine .mk _ _ ⟨rfl, Q, came, h1, h2, .inr ⟨hto, P, by have := hbk [] .nil; rwa [List.append_nil] at this, rfl⟩⟩ (.frz 1 _ _ _ rfl (.weak [_] (.fro 1 _ _ rfl) rfl (Nat.le_refl _)))
end Go.Proofs.YthdaejnepengeaaGreatDoor

/- A store with one drum, by the abstract walk. -/
namespace Go.Proofs.YthdaejnepengeaaGreatDoor
set_option linter.unusedVariables false
set_option linter.unusedSimpArgs false
open Abs

end Go.Proofs.YthdaejnepengeaaGreatDoor

/- A list of one drum is sorted. -/
namespace Go.Proofs.YthdaejnepengeaaGreatDoor
set_option linter.unusedVariables false
set_option linter.unusedSimpArgs false
open Abs

end Go.Proofs.YthdaejnepengeaaGreatDoor

/- The law PlansWeighed, by the abstract walk. -/
namespace Go.Proofs.YthdaejnepengeaaGreatDoor
set_option linter.unusedVariables false
set_option linter.unusedSimpArgs false
open Abs

end Go.Proofs.YthdaejnepengeaaGreatDoor

/- Lists of acts are sorted. -/
namespace Go.Proofs.YthdaejnepengeaaGreatDoor
set_option linter.unusedVariables false
set_option linter.unusedSimpArgs false
open Abs

/-! the length of a small number -/
deriving instance DecidableEq for Ac
end Go.Proofs.YthdaejnepengeaaGreatDoor

/- Strings sorted (a few), and what numbers look like: Itoa by the kit's contract. -/
namespace Go.Proofs.YthdaejnepengeaaGreatDoor
set_option linter.unusedVariables false
set_option linter.unusedSimpArgs false
open Abs

/-! what a function of the library gives that makes new memory of its own -/
theorem Nx.grown {F : Nat → Prop} {φ : Nat → Option Value} {w : World} {N : Nat → Prop} {h : Nat → Option Ob} (k : Nat) (os : Array Obj) : Nx F φ w h N [] F φ (Sort.grow (w.drewN k) os) where
  hF _ h := h
  hφ _ _ h := h
  nφ _ _ h := .inl h
  os := rfl
  tape := rfl
  output := rfl
  drawn _ := Nat.le_add_right _ _
  size := by simp [Sort.grow, World.drewN]
  keep b hb hne := (hne (by simp only [Sort.grow, World.drewN]; rw [Array.getElem?_append_left hb])).elim
  nF b h := .inl h
  objs l o h := by simp [chGet] at h
  own l o b h := by simp [chGet] at h
  inj l l' o o' b h := by simp [chGet] at h
theorem PCs.of_laid {P : Program} {f : Nat} {args : List S} {r : S} {cargs : Array Value} {c : Value} (hfn : ∃ fn, P.funcs[f]? = some fn ∧ (fn.name == "runtime.NumGoroutine") = false ∧ fn.body.isNone = false)
    (ha : ∀ (F : Nat → Prop) (φ : Nat → Option Value) (w : World) (cs : Array Value), P2 (RS F φ w) cs.toList args → cs = cargs) (hr : ∀ (F : Nat → Prop) (φ : Nat → Option Value) (w : World), RS F φ w c r) {g : Nat × (Array Value → Prop)} (hg : g ∈ globs)
    (h : ∀ w, (∃ cs t f, g.2 cs ∧ w.heap[g.1]? = some (.cells cs t f)) → Calls P f cargs w fun e w' => e = .returned c ∧ ∃ k os, w' = Sort.grow (w.drewN k) os) : PCs P f args [] r [] := by
  refine ⟨hfn, fun F φ w cs hp hrp hφ => ?_⟩
  have := ha F φ w cs hp
  subst this
  refine (h w (hrp.tb g hg).2).mono ?_
  rintro e w' ⟨rfl, k, os, rfl⟩
  exact ⟨c, F, φ, r, [], ⟨rfl, rfl⟩, rfl, hr F φ _, Nx.grown k os⟩
def itoaB (n : Int) : ByteArray := ⟨(Lib.itoa n).toArray⟩
theorem itoa_pc (n : Int) (h0 : -9223372036854775808 ≤ n) (h1 : n ≤ 9223372036854775807) : PCp 5 [.c (.int .i64 n)] [] (.c (.str (itoaB n))) [] :=
  PCs.of_laid ⟨_, Tryz.func5, by kernel_rfl, by kernel_rfl⟩ (cargs := #[.int .i64 n]) (fun F φ w cs hp => by
    obtain ⟨x, xs, e1, r1, hp⟩ := hp.cons_inv
    have := hp.nil_inv
    subst this
    apply Array.ext'
    rw [e1, r1.int_inv]) (fun F φ w => .c (.tree (.str _))) (g := (1, fun cs => cs = (Lib.pow10Tab.map fun z => Value.int .u64 z).toArray)) (by simp [globs])
    (fun w ⟨cs, t, fm, hcs, hc⟩ => Any.strconv_Itoa layItoa n h0 h1 w (by
      unfold Lib.TabIs World.var?
      rw [show (Tryz.prog).globalNamed "internal/strconv.uint64pow10" = some 1 from by kernel_rfl]
      simp only [Option.bind_some]
      rw [hc, show cs = _ from hcs]))
end Go.Proofs.YthdaejnepengeaaGreatDoor

/- Ducts between two sites, each for one cable: the plain law. -/
namespace Go.Proofs.YthdaejnepengeaaGreatDoor
set_option linter.unusedVariables false
set_option linter.unusedSimpArgs false
open Abs

def sA : ByteArray := ⟨#[97]⟩
def sB : ByteArray := ⟨#[98]⟩
def dK (i : Nat) : ByteArray := (⟨#[100]⟩ : ByteArray) ++ itoaB (i : Int)
def kK (i : Nat) : ByteArray := (⟨#[107]⟩ : ByteArray) ++ itoaB (i : Int)
def duL (g : Nat → Int) (n : Nat) : List Du := (List.range n).map fun i => ⟨dK i, sA, sB, g i, 50⟩
def cL (us : List ByteArray) : List Ly := (List.range us.length).map fun i => ⟨kK i, 36, [us.getD i ⟨#[]⟩]⟩
theorem duL_len (g : Nat → Int) (n : Nat) : (duL g n).length = n := by simp [duL]
theorem cL_len (us : List ByteArray) : (cL us).length = us.length := by simp [cL]
theorem duL_succ (g : Nat → Int) (n : Nat) : duL g (n + 1) = duL g n ++ [⟨dK n, sA, sB, g n, 50⟩] := by
  simp [duL, List.range_succ]
theorem cL_snoc (us : List ByteArray) (u : ByteArray) : cL (us ++ [u]) = cL us ++ [⟨kK us.length, 36, [u]⟩] := by
  unfold cL
  rw [List.length_append, List.length_singleton, List.range_succ, List.map_append]
  congr 1
  · refine List.map_congr_left fun i hi => ?_
    rw [List.mem_range] at hi
    rw [List.getD_eq_getElem?_getD, List.getElem?_append_left hi, ← List.getD_eq_getElem?_getD]
  · simp
theorem keys_f : (∀ i, i < 7 → keyB (dK i) = true ∧ keyB (kK i) = true) ∧ (∀ i, i < 7 → ∀ j, j < 7 → i < j → ltB (dK i) (dK j) = true ∧ ltB (kK i) (kK j) = true) := by
  decide +kernel
theorem seq_range {α : Type} {e : Bool → ByteArray → α → Int} {key : α → ByteArray} {f : Nat → α} {n : Nat} (h0 : ∀ b, 0 < n → e true b (f 0) = 0) (h1 : ∀ i, i + 1 < n → e false (key (f i)) (f (i + 1)) = 0) (b : ByteArray) : seqErr e key true b ((List.range n).map f) = 0 := by
  have go : ∀ m i, i + 1 + m = n → seqErr e key false (key (f i)) ((List.range' (i + 1) m).map f) = 0 := by
    intro m
    induction m with
    | zero => intro i _; rfl
    | succ m ih =>
      intro i hi
      rw [List.range'_succ, List.map_cons, seqErr, if_pos (h1 i (by omega))]
      exact ih (i + 1) (by omega)
  rcases n with _ | n
  · rfl
  · rw [List.range_eq_range', List.range'_succ, List.map_cons, seqErr, if_pos (h0 b (by omega))]
    exact go n 0 (by omega)
theorem dul_ok {g : Nat → Int} {n : Nat} (hn : n ≤ 6) (hg : ∀ i, i < n → 1 ≤ g i ∧ g i ≤ 30) : duFault (duL g n) = 0 := by
  unfold duFault
  rw [if_neg (by rw [duL_len]; omega)]
  have hA : keyB sA = true := by decide +kernel
  have hB : keyB sB = true := by decide +kernel
  have hne : sA ≠ sB := by decide +kernel
  refine seq_range (fun b h => ?_) (fun i h => ?_) _
  · have := hg 0 h
    have h2 := (keys_f.1 0 (by omega)).1
    simp only [duErr, h2, hA, hB]
    simp [hne]; omega
  · have := hg (i + 1) h
    have h2 := (keys_f.1 (i + 1) (by omega)).1
    have h3 := leB_not.2 (keys_f.2 i (by omega) (i + 1) (by omega) (by omega)).1
    simp only [duErr, h2, hA, hB, h3]
    simp [hne]; omega
theorem hasD_of {d : List Du} {k : ByteArray} (h : k ∈ d.map Du.key) : hasD d k = true := by
  unfold hasD duAt
  rw [List.find?_isSome]
  obtain ⟨x, hx, e⟩ := List.mem_map.1 h
  exact ⟨x, hx, by simpa using e⟩
theorem cl_ok {d : List Du} {us : List ByteArray} (hd : duFault d = 0) (hu : us.length ≤ 6) (hs : ∀ u ∈ us, u ∈ d.map Du.key) : lyFault d (cL us) = 0 := by
  unfold lyFault
  have hl := cL_len us
  have hc : ∀ i, i < us.length → cabErr d ⟨kK i, 36, [us.getD i ⟨#[]⟩]⟩ = 0 := by
    intro i hi
    have hm : us.getD i ⟨#[]⟩ ∈ us := by
      rw [List.getD_eq_getElem?_getD, List.getElem?_eq_getElem hi]; exact List.getElem_mem hi
    have := hasD_of (hs _ hm)
    unfold cabErr
    simp only [seqErr, keyErr, this]
    simp
  have h1 : lysErr d (cL us) = 0 := by
    unfold lysErr
    refine seq_range (fun b h => ?_) (fun i h => ?_) _
    · have h2 := (keys_f.1 0 (by omega)).2
      simp only [lyErr, h2, hc 0 h]
      simp
    · have h2 := (keys_f.1 (i + 1) (by omega)).2
      have h3 := leB_not.2 (keys_f.2 i (by omega) (i + 1) (by omega) (by omega)).2
      simp only [lyErr, h2, hc _ h, h3]
      simp
  have h2 : fullL d (cL us) = false := by
    unfold fullL
    rw [List.any_eq_false]
    intro x _
    have := inL_len (cL us) x.key
    simp; omega
  rw [if_neg (by simp [hd]), if_neg (by omega), if_neg (by simp [h1]), h2]
  rfl
theorem outV_rep (us : List ByteArray) (k : ByteArray) : ∃ m, outV (cL us) k = List.replicate m 36 ∧ m ≤ us.length ∧ (m = 0 ↔ k ∉ us) := by
  refine ⟨(inL (cL us) k).length, ?_, ?_, ?_⟩
  · unfold outV
    refine List.eq_replicate_iff.2 ⟨by simp, ?_⟩
    intro b hb
    obtain ⟨x, hx, rfl⟩ := List.mem_map.1 hb
    unfold inL cL at hx
    obtain ⟨i, _, rfl⟩ := List.mem_map.1 (List.mem_filter.1 hx).1
    rfl
  · rw [← cL_len us]; exact inL_len ..
  · rw [List.length_eq_zero_iff]
    unfold inL
    rw [List.filter_eq_nil_iff]
    constructor
    · intro h hk
      obtain ⟨i, hi, e⟩ := List.mem_iff_getElem.1 hk
      have := h ⟨kK i, 36, [us.getD i ⟨#[]⟩]⟩ (List.mem_map.2 ⟨i, List.mem_range.2 hi, rfl⟩)
      simp [hi, e] at this
    · intro h x hx
      unfold cL at hx
      obtain ⟨i, hi, rfl⟩ := List.mem_map.1 hx
      rw [List.mem_range] at hi
      simp [hi]
      intro e
      exact h (by rw [e]; exact List.getElem_mem hi)
theorem room_f : ∀ m, m < 7 → roomB 50 (List.replicate m 36 ++ [36]) = decide (m = 0) := by decide +kernel
theorem most_f : mostV 50 [] 36 20 = 1 := by decide +kernel
theorem fits_iff {x : Du} {us : List ByteArray} (hi : x.inner = 50) (hu : us.length ≤ 6) : fitsV x (cL us) 36 = true ↔ x.key ∉ us := by
  obtain ⟨m, h1, h2, h3⟩ := outV_rep us x.key
  unfold fitsV
  rw [h1, hi, room_f m (by omega), ← h3]
  simp
  omega
theorem fit_pos {x : Du} {us : List ByteArray} (hi : x.inner = 50) (hu : us.length ≤ 6) : 0 < fitCap (cL us) 36 x ↔ x.key ∉ us := by
  rw [← fits_iff hi hu]
  unfold fitCap
  split <;> simp_all
theorem duL_in {g : Nat → Int} {n : Nat} {x : Du} (h : x ∈ duL g n) : x.inner = 50 ∧ x.a = sA ∧ x.b = sB ∧ ∃ i, i < n ∧ x.key = dK i := by
  obtain ⟨i, hi, rfl⟩ := List.mem_map.1 h
  exact ⟨rfl, rfl, rfl, i, List.mem_range.1 hi, rfl⟩
theorem net_ends {cap : Du → Int} {g : Nat → Int} {n : Nat} : ∀ e ∈ netE cap (duL g n), e.a = sA ∧ e.b = sB := fun e he => by
  obtain ⟨x, hx, _, rfl⟩ := net_mem he
  have := duL_in hx
  exact ⟨this.2.1, this.2.2.1⟩
section
variable {gl : Nat → Int} {n : Nat} {us : List ByteArray} {g : CM} {S : List ByteArray}
theorem keys_len : ((duL gl n).map Du.key).length = n := by rw [List.length_map, duL_len]
/-- while a duct is empty, there is a way -/
theorem round_some (hu : us.length < n) (hn : n ≤ 6) (hg : ∀ i, i < n → 1 ≤ gl i ∧ gl i ≤ 30) (hC : Costs (netE (fitCap (cL us) 36) (duL gl n)) sB S g) : g.get sA ≠ none := by
  have hr : ((duL gl n).map Du.key).Nodup := rise_nodup (duFault_ok (dul_ok hn hg)).rise
  obtain ⟨x, hx, hk⟩ : ∃ x ∈ duL gl n, x.key ∉ us := Classical.byContradiction fun hc => by
    have := nodup_sub_len hr (m := us) (fun k hk => by
      obtain ⟨x, hx, rfl⟩ := List.mem_map.1 hk
      exact Classical.byContradiction fun q => hc ⟨x, hx, q⟩)
    rw [keys_len] at this
    omega
  have h9 := duL_in hx
  have hm : edOf (fitCap (cL us) 36) x ∈ netE (fitCap (cL us) 36) (duL gl n) := List.mem_map.2 ⟨x, List.mem_filter.2 ⟨hx, by simpa using (fit_pos h9.1 (by omega)).2 hk⟩, rfl⟩
  obtain ⟨c, hc⟩ := costs_reach hC hm (.inr h9.2.2.1)
  have : (edOf (fitCap (cL us) 36) x).oth sB = sA := by
    unfold Ed.oth edOf
    simp only
    rw [h9.2.1, if_neg (by decide +kernel)]
  rw [this] at hc
  rw [hc]; simp
/-- the way is one duct, an empty one -/
theorem round_way (hu : us.length ≤ 6) {c : Co} {P : List Ed} (hF : FW (netE (fitCap (cL us) 36) (duL gl n)) g sB sA sB c P) : ∃ u, u ∉ us ∧ u ∈ (duL gl n).map Du.key ∧ P.map Ed.key = [u] := by
  rcases fw_two net_ends hF with ⟨e, _⟩ | ⟨_, e, he, rfl⟩
  · exact absurd e (by decide +kernel)
  · obtain ⟨x, hx, hp, rfl⟩ := net_mem he
    exact ⟨x.key, (fit_pos (duL_in hx).1 hu).1 hp, List.mem_map.2 ⟨x, hx, rfl⟩, rfl⟩
end
theorem cl_new {us : List ByteArray} (hu : us.length ≤ 6) : ∀ x ∈ cL us, ltB x.cable (kK us.length) = true := by
  intro x hx
  obtain ⟨i, hi, rfl⟩ := List.mem_map.1 hx
  rw [List.mem_range] at hi
  exact (keys_f.2 i (by omega) us.length (by omega) hi).2
theorem ends_two {g : Nat → Int} {n : Nat} (hn : 0 < n) : endsErr (duL g n) sA sB 36 = 0 := by
  have hx : (⟨dK 0, sA, sB, g 0, 50⟩ : Du) ∈ duL g n := List.mem_map.2 ⟨0, List.mem_range.2 hn, rfl⟩
  have h1 : siteB (duL g n) sA = true := List.any_eq_true.2 ⟨_, hx, by simp⟩
  have h2 : siteB (duL g n) sB = true := List.any_eq_true.2 ⟨_, hx, by simp⟩
  unfold endsErr
  rw [if_neg (by simp [h1, h2]), if_neg (by decide +kernel), if_neg (by omega)]
def mostCap (l : List Ly) (outer : Int) (x : Du) : Int := ((mostV x.inner (outV l x.key) outer (20 - (outV l x.key).length) : Nat) : Int)
theorem cap_two {g : Nat → Int} {n : Nat} {m : Int} (h : MinCut (netE (mostCap [] 36) (duL g n)) sA sB m) : m = n := by
  have h1 := minCut_two h net_ends
  have hc : ∀ x ∈ duL g n, mostCap [] 36 x = 1 := fun x hx => by
    unfold mostCap
    rw [(duL_in hx).1]
    show ((mostV 50 [] 36 20 : Nat) : Int) = 1
    rw [most_f]; rfl
  have h2 : netE (mostCap [] 36) (duL g n) = (duL g n).map (edOf (mostCap [] 36)) := by
    unfold netE
    rw [List.filter_eq_self.2 (fun x hx => by rw [hc x hx]; rfl)]
  have h3 : ((duL g n).map (edOf (mostCap [] 36))).map Ed.cap = List.replicate n 1 := by
    refine List.eq_replicate_iff.2 ⟨by simp [duL_len], fun b hb => ?_⟩
    rw [List.map_map] at hb
    obtain ⟨x, hx, rfl⟩ := List.mem_map.1 hb
    exact hc x hx
  rw [h2, h3] at h1
  rw [h1]
  have : ∀ n : Nat, (List.replicate n (1 : Int)).sum = n := by
    intro n
    induction n with
    | zero => rfl
    | succ n ih => rw [List.replicate_succ, List.sum_cons, ih]; push_cast; omega
  exact this n
end Go.Proofs.YthdaejnepengeaaGreatDoor

/- How much can flow: the walk. -/
namespace Go.Proofs.YthdaejnepengeaaGreatDoor
set_option linter.unusedVariables false
set_option linter.unusedSimpArgs false
open Abs

theorem augS_app (E : List Ed) (n : Int) : ∀ (P P' : List St2) (f : List Int), augS E n (P ++ P') f = augS E n P' (augS E n P f)
  | [], _, _ => rfl
  | x :: P, P', f => by rw [List.cons_append, augS, augS_app E n P, augS]
theorem augS_step {E : List Ed} {n : Int} {P : List St2} {f : List Int} {i : Nat} {s : ByteArray} {k : Nat} (hk : k < P.length) (hP : P[k] = ((i : Int), s)) (hi : i < E.length) : augS E n (P.take (k + 1)) f = (augS E n (P.take k) f).set i ((augS E n (P.take k) f).getD i 0 + (if E[i].a = s then n else -n)) := by
  rw [List.take_succ_eq_append_getElem hk, augS_app, hP]
  have hEi : E.getD i ⟨⟨#[]⟩, ⟨#[]⟩, ⟨#[]⟩, 0, 0⟩ = E[i] := by simp [hi]
  simp only [augS, Int.toNat_natCast, hEi]
theorem augS_same {E : List Ed} {n : Int} {P : List St2} {f : List Int} {i k : Nat} {s : ByteArray} (hk : k < P.length) (hP : P[k] = ((i : Int), s)) (hnd : (P.map (·.1)).Nodup) (hp : ∀ x ∈ P, 0 ≤ x.1) : (augS E n (P.take k) f).getD i 0 = f.getD i 0 := by
  rw [List.getD_eq_getElem?_getD, List.getD_eq_getElem?_getD, augS_other E n (P.take k) f i ?_ (fun x hx => hp x (List.mem_of_mem_take hx))]
  intro hm
  rw [List.map_take] at hm
  obtain ⟨j, hj, e⟩ := List.mem_iff_getElem.1 hm
  rw [List.length_take, List.length_map] at hj
  rw [List.getElem_take] at e
  have hk2 : k < (P.map (·.1)).length := by simpa using hk
  have e2 : (P.map (·.1))[k] = (i : Int) := by rw [List.getElem_map, hP]
  have := (List.getElem_inj hnd).1 (e.trans e2.symm)
  omega
theorem cutC_le (C : ByteArray → Bool) : ∀ E : List Ed, (∀ e ∈ E, 0 ≤ e.cap ∧ e.cap ≤ 1000000) → cutC C E ≤ 1000000 * (E.length : Int)
  | [], _ => by simp [cutC]
  | e :: r, h => by
    have ih := cutC_le C r (fun x hx => h x (by simp [hx]))
    have he := h e (by simp)
    simp only [cutC, List.length_cons]
    push_cast
    split <;> omega
set_option maxRecDepth 100000 in
set_option maxHeartbeats 4000000 in
theorem gFlow_pc (E : List Ed) (fr to : ByteArray) (pf : Nat) (hpf : ∀ s : ByteArray, PCp pf [.c (.str s)] [] (.c (.bool true)) []) (hE : EdsOk E) (hl : E.length ≤ 1000) (hne : fr ≠ to) (hc : ∀ e ∈ E, 0 ≤ e.cap ∧ e.cap ≤ 1000000) :
    PCq 26 [gphS E pf, .c (.str fr), .c (.str to)] [] fun r os => os = [] ∧ ∃ n, MinCut E fr to n ∧ r = .c (.int .i64 n) := by
  have hc0 : ∀ e ∈ E, 0 ≤ e.cap := fun e he => (hc e he).1
  have hcut : ∀ f sum, Feas E fr to f sum → sum ≤ cutC (fun s => decide (s = fr)) E := fun f sum h => h.le hc0 _ (by simp) (by simp [Ne.symm hne])
  have hCb := cutC_le (fun s => decide (s = fr)) E hc
  generalize cutC (fun s => decide (s = fr)) E = C at *
  have hEm : (E.map encEd).length = E.length := List.length_map ..
  have hF0 := Feas.begin hc0 fr to
  refine fn_soundX (mt := mts) tab_fits tab_mixed Tryz.func26 (by rfl) (by kernel_rfl) (by kernel_rfl) Tryz.results26 (Nat.le_of_ble_eq_true (by kernel_rfl)) ?_
  conv => whnf
  repeat' (first | ((first | refine Split.mk (fun h => ?_) (fun h => ?_) | refine CondG.mk (fun h => ?_) (fun h => ?_)) <;> (try simp only [decide_eq_true_eq, decide_eq_false_iff_not, Bool.not_eq_true', Bool.not_eq_false', beq_iff_eq, beq_eq_false_iff_ne, bne_iff_ne, bne_eq_false_iff_eq] at h) <;> (first | (exfalso; first | omega | exact h trivial) | (conv => whnf))) | (refine Ask.mk (by first | omega | (unfold roomOK; simp [cutRows]; done) | (unfold roomOK; simp [cutRows]; omega) | (simp [cutRows]; done) | (simp [cutRows]; omega)) ?_; conv => whnf) | (refine AskV.mk (by first | omega | (unfold roomOK; simp [cutRows]; done) | (unfold roomOK; simp [cutRows]; omega) | (simp [cutRows]; done) | (simp [cutRows]; omega)) ?_; conv => whnf) | (refine AppG.mk (by first | omega | (unfold roomOK; simp [cutRows]; done) | (unfold roomOK; simp [cutRows]; omega) | (simp [cutRows]; done) | (simp [cutRows]; omega)) ?_; conv => whnf) | (refine SliceG.fr ?_; conv => whnf) | (refine BuildG.fr ?_; conv => whnf) | (refine idx_at _ (by with_reducible rfl) (by first | assumption | omega) ?_; conv => whnf) | ((with_reducible refine row_map (by first | assumption | omega) ?_); conv => whnf) | ((with_reducible refine row_set (by first | assumption | omega | (simp only [List.length_set]; omega) | (simp; omega)) ?_); conv => whnf) | fail)
  refine loop_while2 (fun (f : List Int) (sum : Int) => (C - sum).toNat) [] [1, 2, 3, 7, 8] (fun (f : List Int) (sum : Int) => [(8, .c (.int .i64 sum))]) (fun (f : List Int) (sum : Int) => [(2, .row 3 1 (f.map encI))]) (fun (f : List Int) (sum : Int) => Feas E fr to f sum ∧ 0 ≤ sum) (List.replicate E.length 0) (0) ?_
  conv => whnf
  refine ⟨?_, ?_, ?_⟩
  · simp only [List.map_replicate, hEm, Int.toNat_natCast]
    rfl
  · exact ⟨hF0, Int.le_refl _⟩
  · intro f sum ⟨hF, h0⟩
    have hs := hcut f sum hF
    have hfm : (f.map encI).length = E.length := by rw [List.length_map, hF.len]
    have hfl := hF.len
    have hb : ∀ i (hi : i < E.length), (-1000000 ≤ f.getD i 0 ∧ f.getD i 0 ≤ 1000000) ∧ 0 ≤ E[i].cap ∧ E[i].cap ≤ 1000000 := fun i hi => by
      have h1 := hF.in_ i hi (by omega)
      have h2 := hc _ (List.getElem_mem hi)
      have h3 : f.getD i 0 = f[i] := by simp [show i < f.length by omega]
      rw [h3]
      exact ⟨⟨by omega, by omega⟩, h2⟩
    conv => whnf
    refine .ex _ (gMore_pc E f fr to pf hpf hE hl hF.len hb) ?_
    rintro _ _ ⟨rfl, Q, came, hB, hS, ⟨hto, rfl⟩ | ⟨hto, P, hP, rfl⟩⟩
    · conv => whnf
      repeat' (first | ((first | refine Split.mk (fun h => ?_) (fun h => ?_) | refine CondG.mk (fun h => ?_) (fun h => ?_)) <;> (try simp only [decide_eq_true_eq, decide_eq_false_iff_not, Bool.not_eq_true', Bool.not_eq_false', beq_iff_eq, beq_eq_false_iff_ne, bne_iff_ne, bne_eq_false_iff_eq] at h) <;> (first | (exfalso; first | omega | exact h trivial) | (conv => whnf))) | (refine Ask.mk (by first | omega | (unfold roomOK; simp [cutRows]; done) | (unfold roomOK; simp [cutRows]; omega) | (simp [cutRows]; done) | (simp [cutRows]; omega)) ?_; conv => whnf) | (refine AskV.mk (by first | omega | (unfold roomOK; simp [cutRows]; done) | (unfold roomOK; simp [cutRows]; omega) | (simp [cutRows]; done) | (simp [cutRows]; omega)) ?_; conv => whnf) | (refine AppG.mk (by first | omega | (unfold roomOK; simp [cutRows]; done) | (unfold roomOK; simp [cutRows]; omega) | (simp [cutRows]; done) | (simp [cutRows]; omega)) ?_; conv => whnf) | (refine SliceG.fr ?_; conv => whnf) | (refine BuildG.fr ?_; conv => whnf) | (refine idx_at _ (by with_reducible rfl) (by first | assumption | omega) ?_; conv => whnf) | ((with_reducible refine row_map (by first | assumption | omega) ?_); conv => whnf) | ((with_reducible refine row_set (by first | assumption | omega | (simp only [List.length_set]; omega) | (simp; omega)) ?_); conv => whnf) | fail)
      exact .mk _ _ ⟨rfl, sum, flow_done hF hB hS hto hE hc0, rfl⟩ (.mk ⟨rfl, rfl⟩)
    · obtain ⟨hPl, hroom⟩ := way_room hF hB hE hP hto
      have hQl := hB.len
      have hP0 : 0 < P.length := by
        cases hP with
        | nil => exact absurd rfl hne
        | cons => simp
      have hv : ∀ x ∈ P, 0 ≤ x.1 ∧ x.1 < E.length := fun x hx => by obtain ⟨i, hi, e, _⟩ := hroom x hx; omega
      have cM := minF_pc E f pf P hF.len hP0 (by omega) hv hb
      have hmem := minS_mem (rmS E f) (P.drop 1) P[0]
      have hmin := minS_le (rmS E f) (P.drop 1) P[0]
      have hcons : P[0] :: P.drop 1 = P := by rw [List.getElem_cons_drop]; rfl
      rw [hcons] at hmem hmin
      generalize minS (rmS E f) P[0] (P.drop 1) = x at *
      obtain ⟨i, hi, e1, hat, hr1, hr2⟩ := hroom x hmem
      obtain ⟨xi, xs⟩ := x
      simp only at e1 hat hr1 hr2
      subst e1
      have hfi : i < f.length := by omega
      have hfd : f.getD i 0 = f[i] := by simp [hfi]
      have hbi := hb i hi
      have cR := room_pc E[i] f[i] xs (by omega) (by omega)
      rw [show roomE E[i] f[i] xs = roomE E[i] (f.getD i 0) xs by rw [hfd]] at cR
      have hrx : rmS E f ((i : Int), xs) = roomE E[i] (f.getD i 0) xs := by simp [rmS, hi]
      rw [hrx] at hmin
      have hgl : ∀ y ∈ P, ∀ j (hj : j < E.length), y.1 = (j : Int) → roomE E[i] (f.getD i 0) xs ≤ roomE E[j] (f.getD j 0) y.2 := fun y hy j hj e => by
        have h1 := hmin y hy
        have h2 : rmS E f y = roomE E[j] (f.getD j 0) y.2 := by simp [rmS, e, hj]
        rw [h2] at h1; exact h1
      generalize hn : roomE E[i] (f.getD i 0) xs = n at *
      have hF2 := feas_aug hF hB hE hP hto (by omega) hgl
      have hs2 := hcut _ _ hF2
      have hnd : (P.map (·.1)).Nodup := by
        obtain ⟨j, hj, e⟩ := List.mem_iff_getElem.1 hto
        subst e
        exact (hB.back hE (j + 1) j hj (Nat.lt_succ_self _) P hP).1.nd
      have hPm : (P.map encSt).length = P.length := List.length_map ..
      have hPz : P.map encSt ≠ [] := fun q => by rw [q] at hPm; simp at hPm; omega
      conv => whnf
      refine ⟨fun q => absurd q hPz, ?_⟩
      conv => whnf
      repeat' (first | ((first | refine Split.mk (fun h => ?_) (fun h => ?_) | refine CondG.mk (fun h => ?_) (fun h => ?_)) <;> (try simp only [decide_eq_true_eq, decide_eq_false_iff_not, Bool.not_eq_true', Bool.not_eq_false', beq_iff_eq, beq_eq_false_iff_ne, bne_iff_ne, bne_eq_false_iff_eq] at h) <;> (first | (exfalso; first | omega | exact h trivial) | (conv => whnf))) | (refine CallX.mk _ _ (by first | exact cM | exact cR) ?_; conv => whnf) | (refine CallG.mk _ _ (by first | exact cM | exact cR) ?_; conv => whnf) | (refine Ask.mk (by first | omega | (unfold roomOK; simp [cutRows]; done) | (unfold roomOK; simp [cutRows]; omega) | (simp [cutRows]; done) | (simp [cutRows]; omega)) ?_; conv => whnf) | (refine AskV.mk (by first | omega | (unfold roomOK; simp [cutRows]; done) | (unfold roomOK; simp [cutRows]; omega) | (simp [cutRows]; done) | (simp [cutRows]; omega)) ?_; conv => whnf) | (refine AppG.mk (by first | omega | (unfold roomOK; simp [cutRows]; done) | (unfold roomOK; simp [cutRows]; omega) | (simp [cutRows]; done) | (simp [cutRows]; omega)) ?_; conv => whnf) | (refine SliceG.fr ?_; conv => whnf) | (refine BuildG.fr ?_; conv => whnf) | (refine idx_at _ (by with_reducible rfl) (by first | assumption | omega) ?_; conv => whnf) | ((with_reducible refine row_map (by first | assumption | omega) ?_); conv => whnf) | ((with_reducible refine row_set (by first | assumption | omega | (simp only [List.length_set]; omega) | (simp; omega)) ?_); conv => whnf) | fail)
      refine loop_for (P.length) [] [1, 2, 3, 7, 8, 11, 43, 44, 45] (fun k (_ : Unit) => [(45, .c (.int .i64 (k : Int)))]) (fun k (_ : Unit) => [(2, .row 3 1 ((augS E n (P.take k) f).map encI))]) (fun k (_ : Unit) => True) (()) ?_
      conv => whnf
      refine ⟨?_, (by trivial), ?_, ?_⟩
      · rfl
      · intro k _ hk _
        obtain ⟨i', hi', q1, q2, q3, q4⟩ := hroom P[k] (List.getElem_mem hk)
        have hPk : P[k] = ((i' : Int), P[k].2) := Prod.ext q1 rfl
        generalize P[k].2 = s at *
        have hst := augS_step (n := n) (f := f) hk hPk hi'
        have hsm := augS_same (E := E) (n := n) (f := f) hk hPk hnd (fun x hx => (hv x hx).1)
        have hgl' := augS_len E n (P.take k) f
        have hbi' := (hb i' hi').1
        rw [← hsm] at hbi'
        generalize augS E n (P.take k) f = g at *
        have hgm : (g.map encI).length = g.length := List.length_map ..
        have hgi : i' < g.length := by omega
        have hgd : g.getD i' 0 = g[i'] := by simp [hgi]
        rw [hgd] at hbi' hst
        have hcE := (hc _ (List.getElem_mem hi)).2
        conv => whnf
        repeat' (first | ((first | refine Split.mk (fun h => ?_) (fun h => ?_) | refine CondG.mk (fun h => ?_) (fun h => ?_)) <;> (try simp only [decide_eq_true_eq, decide_eq_false_iff_not, Bool.not_eq_true', Bool.not_eq_false', beq_iff_eq, beq_eq_false_iff_ne, bne_iff_ne, bne_eq_false_iff_eq] at h) <;> (first | (exfalso; first | omega | exact h trivial) | (conv => whnf))) | (refine Ask.mk (by first | omega | (unfold roomOK; simp [cutRows]; done) | (unfold roomOK; simp [cutRows]; omega) | (simp [cutRows]; done) | (simp [cutRows]; omega)) ?_; conv => whnf) | (refine AskV.mk (by first | omega | (unfold roomOK; simp [cutRows]; done) | (unfold roomOK; simp [cutRows]; omega) | (simp [cutRows]; done) | (simp [cutRows]; omega)) ?_; conv => whnf) | (refine AppG.mk (by first | omega | (unfold roomOK; simp [cutRows]; done) | (unfold roomOK; simp [cutRows]; omega) | (simp [cutRows]; done) | (simp [cutRows]; omega)) ?_; conv => whnf) | (refine SliceG.fr ?_; conv => whnf) | (refine BuildG.fr ?_; conv => whnf) | (refine idx_at _ (by with_reducible rfl) (by first | assumption | omega) ?_; conv => whnf) | ((with_reducible refine row_map (by first | assumption | omega) ?_); conv => whnf) | ((with_reducible refine row_set (by first | assumption | omega | (simp only [List.length_set]; omega) | (simp; omega)) ?_); conv => whnf) | fail)
        rw [hPk]
        refine idx_at i' rfl hi' ?_
        conv => whnf
        repeat' (first | ((first | refine Split.mk (fun h => ?_) (fun h => ?_) | refine CondG.mk (fun h => ?_) (fun h => ?_)) <;> (try simp only [decide_eq_true_eq, decide_eq_false_iff_not, Bool.not_eq_true', Bool.not_eq_false', beq_iff_eq, beq_eq_false_iff_ne, bne_iff_ne, bne_eq_false_iff_eq] at h) <;> (first | (exfalso; first | omega | exact h trivial) | (conv => whnf))) | (refine Ask.mk (by first | omega | (unfold roomOK; simp [cutRows]; done) | (unfold roomOK; simp [cutRows]; omega) | (simp [cutRows]; done) | (simp [cutRows]; omega)) ?_; conv => whnf) | (refine AskV.mk (by first | omega | (unfold roomOK; simp [cutRows]; done) | (unfold roomOK; simp [cutRows]; omega) | (simp [cutRows]; done) | (simp [cutRows]; omega)) ?_; conv => whnf) | (refine AppG.mk (by first | omega | (unfold roomOK; simp [cutRows]; done) | (unfold roomOK; simp [cutRows]; omega) | (simp [cutRows]; done) | (simp [cutRows]; omega)) ?_; conv => whnf) | (refine SliceG.fr ?_; conv => whnf) | (refine BuildG.fr ?_; conv => whnf) | (refine idx_at _ (by with_reducible rfl) (by first | assumption | omega) ?_; conv => whnf) | ((with_reducible refine row_map (by first | assumption | omega) ?_); conv => whnf) | ((with_reducible refine row_set (by first | assumption | omega | (simp only [List.length_set]; omega) | (simp; omega)) ?_); conv => whnf) | fail)
        · have hA : E[i'].a = s := strEqW.1 (by assumption)
          have hw : IntKind.i64.wrap (g[i'] + n) = g[i'] + n := wrap_in (by omega) (by omega)
          rw [if_pos hA] at hst
          exact count_next () hk (by rw [wrap_succ hk (by omega), hst, List.map_set, ← hw]; rfl) trivial
        · have hA : ¬ E[i'].a = s := fun q => absurd (strEqW.2 q) (by assumption)
          have hw : IntKind.i64.wrap (g[i'] - n) = g[i'] + -n := by rw [wrap_in (by omega) (by omega)]; omega
          rw [if_neg hA] at hst
          exact count_next () hk (by rw [wrap_succ hk (by omega), hst, List.map_set, ← hw]; rfl) trivial
      · intro _ _
        rw [List.take_length]
        conv => whnf
        repeat' (first | ((first | refine Split.mk (fun h => ?_) (fun h => ?_) | refine CondG.mk (fun h => ?_) (fun h => ?_)) <;> (try simp only [decide_eq_true_eq, decide_eq_false_iff_not, Bool.not_eq_true', Bool.not_eq_false', beq_iff_eq, beq_eq_false_iff_ne, bne_iff_ne, bne_eq_false_iff_eq] at h) <;> (first | (exfalso; first | omega | exact h trivial) | (conv => whnf))) | (refine Ask.mk (by first | omega | (unfold roomOK; simp [cutRows]; done) | (unfold roomOK; simp [cutRows]; omega) | (simp [cutRows]; done) | (simp [cutRows]; omega)) ?_; conv => whnf) | (refine AskV.mk (by first | omega | (unfold roomOK; simp [cutRows]; done) | (unfold roomOK; simp [cutRows]; omega) | (simp [cutRows]; done) | (simp [cutRows]; omega)) ?_; conv => whnf) | (refine AppG.mk (by first | omega | (unfold roomOK; simp [cutRows]; done) | (unfold roomOK; simp [cutRows]; omega) | (simp [cutRows]; done) | (simp [cutRows]; omega)) ?_; conv => whnf) | (refine SliceG.fr ?_; conv => whnf) | (refine BuildG.fr ?_; conv => whnf) | (refine idx_at _ (by with_reducible rfl) (by first | assumption | omega) ?_; conv => whnf) | ((with_reducible refine row_map (by first | assumption | omega) ?_); conv => whnf) | ((with_reducible refine row_set (by first | assumption | omega | (simp only [List.length_set]; omega) | (simp; omega)) ?_); conv => whnf) | fail)
        exact meas_next (augS E n P f, sum + n) (by show (C - (sum + n)).toNat < (C - sum).toNat; omega) (by rw [wrap_in (by omega) (by omega)]; rfl) ⟨hF2, by omega⟩
set_option maxRecDepth 100000 in
set_option maxHeartbeats 4000000 in
theorem cap1_pc (d : List Du) (l : List Ly) (hok : LyOk d l) (outer : Int) (hq : 0 ≤ outer ∧ outer ≤ 1000) (x : Du) (hx : x ∈ d) : PCp 23 [.agg (encDu x), .c (.ptr 0 0), .c (.ptr 1 0)] [.box [.lst 3 (l.map encLy)], .box [.int .i64 outer]] (.c (.int .i64 (mostCap l outer x))) [.box [.lst 3 (l.map encLy)], .box [.int .i64 outer]] := by
  have hi := hok.du.each _ hx
  have hfew := hok.few _ hx
  have hol := outV_len l x.key
  have hll := hok.len
  refine fn_sound (mt := mts) tab_fits tab_mixed Tryz.func23 (by rfl) (by kernel_rfl) (by kernel_rfl) Tryz.results23 (Nat.le_of_ble_eq_true (by kernel_rfl)) ?_
  conv => whnf
  repeat' (first | ((first | refine Split.mk (fun h => ?_) (fun h => ?_) | refine CondG.mk (fun h => ?_) (fun h => ?_)) <;> (try simp only [decide_eq_true_eq, decide_eq_false_iff_not, Bool.not_eq_true', Bool.not_eq_false', beq_iff_eq, beq_eq_false_iff_ne, bne_iff_ne, bne_eq_false_iff_eq] at h) <;> (first | (exfalso; first | omega | exact h trivial) | (conv => whnf))) | (refine CallX.mk _ _ (by first | exact dOuters_pc l (by omega) hok.rl x.key | exact dMost_pc x (outV l x.key) outer (by omega) (by omega) (hok.o1000 x.key) hq) ?_; conv => whnf) | (refine CallG.mk _ _ (by first | exact dOuters_pc l (by omega) hok.rl x.key | exact dMost_pc x (outV l x.key) outer (by omega) (by omega) (hok.o1000 x.key) hq) ?_; conv => whnf) | (refine Ask.mk (by first | omega | (unfold roomOK; simp [cutRows]; done) | (unfold roomOK; simp [cutRows]; omega) | (simp [cutRows]; done) | (simp [cutRows]; omega)) ?_; conv => whnf) | (refine AskV.mk (by first | omega | (unfold roomOK; simp [cutRows]; done) | (unfold roomOK; simp [cutRows]; omega) | (simp [cutRows]; done) | (simp [cutRows]; omega)) ?_; conv => whnf) | (refine AppG.mk (by first | omega | (unfold roomOK; simp [cutRows]; done) | (unfold roomOK; simp [cutRows]; omega) | (simp [cutRows]; done) | (simp [cutRows]; omega)) ?_; conv => whnf) | (refine SliceG.fr ?_; conv => whnf) | (refine BuildG.fr ?_; conv => whnf) | (refine idx_at _ (by with_reducible rfl) (by first | assumption | omega) ?_; conv => whnf) | ((with_reducible refine row_map (by first | assumption | omega) ?_); conv => whnf) | ((with_reducible refine row_set (by first | assumption | omega | (simp only [List.length_set]; omega) | (simp; omega)) ?_); conv => whnf) | fail)
  exact .mk ⟨rfl, rfl⟩
theorem mostV_le (inner : Int) (all : List Int) (outer : Int) : ∀ n, mostV inner all outer n ≤ n
  | 0 => Nat.le_refl _
  | n + 1 => by
    have := mostV_le inner all outer n
    rw [mostV]; split <;> omega
set_option maxRecDepth 100000 in
set_option maxHeartbeats 4000000 in
theorem capacity_pc (d : List Du) (l : List Ly) (h0 : lyFault d l = 0) (fr to : ByteArray) (outer : Int) (he : endsErr d fr to outer = 0) :
    PCq 7 [.c (.lst 5 (d.map encDu)), .c (.lst 3 (l.map encLy)), .c (.str fr), .c (.str to), .c (.int .i64 outer)] [] fun r os => os = [] ∧ ∃ n, MinCut (netE (mostCap l outer) d) fr to n ∧ r = .tup [.c (.int .i64 n), .c (.int .i64 0)] := by
  have hdu := du_of h0
  have hok := lyFault_ok h0
  obtain ⟨e1, e2, e3, e4⟩ := ends_ok he
  have hx : ∀ x ∈ l, x.ducts.length ≤ 1000000 := fun x hm => (hok.rl x hm).2
  have hdl := hok.du.len
  have c1 := checkLying_pc d l hx
  rw [h0] at c1
  have c3 := waysFault_pc d (by omega) fr to outer
  rw [he] at c3
  obtain ⟨n1, n2, n3⟩ := net_ok hdu (mostCap l outer)
  have hnl := net_len (mostCap l outer) d
  have c4 := network_pc 23 (mostCap l outer) d l outer (by omega) (fun x hx => cap1_pc d l hok outer ⟨by omega, by omega⟩ x hx)
  have hcap : ∀ e ∈ netE (mostCap l outer) d, 0 ≤ e.cap ∧ e.cap ≤ 1000000 := fun e hm => by
    obtain ⟨x, _, hp, rfl⟩ := net_mem hm
    refine ⟨Int.le_of_lt hp, ?_⟩
    show mostCap l outer x ≤ _
    unfold mostCap
    have := mostV_le x.inner (outV l x.key) outer (20 - (outV l x.key).length)
    omega
  refine fn_soundX (mt := mts) tab_fits tab_mixed Tryz.func7 (by rfl) (by kernel_rfl) (by kernel_rfl) Tryz.results7 (Nat.le_of_ble_eq_true (by kernel_rfl)) ?_
  conv => whnf
  repeat' (first | ((first | refine Split.mk (fun h => ?_) (fun h => ?_) | refine CondG.mk (fun h => ?_) (fun h => ?_)) <;> (try simp only [decide_eq_true_eq, decide_eq_false_iff_not, Bool.not_eq_true', Bool.not_eq_false', beq_iff_eq, beq_eq_false_iff_ne, bne_iff_ne, bne_eq_false_iff_eq] at h) <;> (first | (exfalso; first | omega | exact h trivial | contradiction | (simp_all [eqRes]; done)) | (conv => whnf))) | (refine CallX.mk _ _ (by first | exact c1 | exact c3 | exact c4) ?_; conv => whnf) | (refine CallG.mk _ _ (by first | exact c1 | exact c3 | exact c4) ?_; conv => whnf) | (refine Ask.mk (by first | omega | (unfold roomOK; simp [cutRows]; done) | (unfold roomOK; simp [cutRows]; omega) | (simp [cutRows]; done) | (simp [cutRows]; omega)) ?_; conv => whnf) | (refine AskV.mk (by first | omega | (unfold roomOK; simp [cutRows]; done) | (unfold roomOK; simp [cutRows]; omega) | (simp [cutRows]; done) | (simp [cutRows]; omega)) ?_; conv => whnf) | (refine AppG.mk (by first | omega | (unfold roomOK; simp [cutRows]; done) | (unfold roomOK; simp [cutRows]; omega) | (simp [cutRows]; done) | (simp [cutRows]; omega)) ?_; conv => whnf) | (refine SliceG.fr ?_; conv => whnf) | (refine BuildG.fr ?_; conv => whnf) | (refine idx_at _ (by with_reducible rfl) (by first | assumption | omega) ?_; conv => whnf) | ((with_reducible refine row_map (by first | assumption | omega) ?_); conv => whnf) | ((with_reducible refine row_set (by first | assumption | omega | (simp only [List.length_set]; omega) | (simp; omega)) ?_); conv => whnf) | fail)
  refine .ex _ (gFlow_pc (netE (mostCap l outer) d) fr to 49 pass_pc n1 (by omega) e3 hcap) ?_
  rintro _ _ ⟨rfl, n, hM, rfl⟩
  conv => whnf
  repeat' (first | ((first | refine Split.mk (fun h => ?_) (fun h => ?_) | refine CondG.mk (fun h => ?_) (fun h => ?_)) <;> (try simp only [decide_eq_true_eq, decide_eq_false_iff_not, Bool.not_eq_true', Bool.not_eq_false', beq_iff_eq, beq_eq_false_iff_ne, bne_iff_ne, bne_eq_false_iff_eq] at h) <;> (first | (exfalso; first | omega | exact h trivial) | (conv => whnf))) | (refine Ask.mk (by first | omega | (unfold roomOK; simp [cutRows]; done) | (unfold roomOK; simp [cutRows]; omega) | (simp [cutRows]; done) | (simp [cutRows]; omega)) ?_; conv => whnf) | (refine AskV.mk (by first | omega | (unfold roomOK; simp [cutRows]; done) | (unfold roomOK; simp [cutRows]; omega) | (simp [cutRows]; done) | (simp [cutRows]; omega)) ?_; conv => whnf) | (refine AppG.mk (by first | omega | (unfold roomOK; simp [cutRows]; done) | (unfold roomOK; simp [cutRows]; omega) | (simp [cutRows]; done) | (simp [cutRows]; omega)) ?_; conv => whnf) | (refine SliceG.fr ?_; conv => whnf) | (refine BuildG.fr ?_; conv => whnf) | (refine idx_at _ (by with_reducible rfl) (by first | assumption | omega) ?_; conv => whnf) | ((with_reducible refine row_map (by first | assumption | omega) ?_); conv => whnf) | ((with_reducible refine row_set (by first | assumption | omega | (simp only [List.length_set]; omega) | (simp; omega)) ?_); conv => whnf) | fail)
  exact .mk _ _ ⟨rfl, n, hM, rfl⟩ (.mk ⟨rfl, rfl⟩)
end Go.Proofs.YthdaejnepengeaaGreatDoor

/- Services: what is computed, as functions on lists. -/
namespace Go.Proofs.YthdaejnepengeaaGreatDoor
set_option linter.unusedVariables false
set_option linter.unusedSimpArgs false
open Abs

structure Sv where
  key : ByteArray
  els : List ByteArray
  cust : Int
/-! what broken elements affect -/
end Go.Proofs.YthdaejnepengeaaGreatDoor

/- Lists of strings: searched, cut, sorted; what is cut out of a row that is written. -/
namespace Go.Proofs.YthdaejnepengeaaGreatDoor
set_option linter.unusedVariables false
set_option linter.unusedSimpArgs false
open Abs

end Go.Proofs.YthdaejnepengeaaGreatDoor

/- Services are checked; what is down and up is checked. -/
namespace Go.Proofs.YthdaejnepengeaaGreatDoor
set_option linter.unusedVariables false
set_option linter.unusedSimpArgs false
open Abs

/-! the number of a service -/
end Go.Proofs.YthdaejnepengeaaGreatDoor

/- Ducts and cables are made. -/
namespace Go.Proofs.YthdaejnepengeaaGreatDoor
set_option linter.unusedVariables false
set_option linter.unusedSimpArgs false
open Abs

end Go.Proofs.YthdaejnepengeaaGreatDoor

/- Cables in ducts are made. -/
namespace Go.Proofs.YthdaejnepengeaaGreatDoor
set_option linter.unusedVariables false
set_option linter.unusedSimpArgs false
open Abs

end Go.Proofs.YthdaejnepengeaaGreatDoor

/- Services and elements are made. -/
namespace Go.Proofs.YthdaejnepengeaaGreatDoor
set_option linter.unusedVariables false
set_option linter.unusedSimpArgs false
open Abs

end Go.Proofs.YthdaejnepengeaaGreatDoor

/- Maps told by lists: what is in them. -/
namespace Go.Proofs.YthdaejnepengeaaGreatDoor
set_option linter.unusedVariables false
set_option linter.unusedSimpArgs false
namespace Abs
section
variable {κ β : Type} [DecidableEq κ]
end
abbrev ekB : ByteArray → S := fun b => .c (.str b)
abbrev evT : Bool → S := fun b => .c (.bool b)
abbrev MB := SM ByteArray Bool
/-- the keys that are true -/
def ktL (es : List (Nat × ByteArray × Bool)) : List ByteArray := (es.filter fun e => e.2.2).map (·.2.1)
theorem ktL_len (es : List (Nat × ByteArray × Bool)) : (ktL es).length ≤ es.length := by unfold ktL; rw [List.length_map]; exact List.length_filter_le _ _
end Abs
end Go.Proofs.YthdaejnepengeaaGreatDoor

/- Suspects. -/
namespace Go.Proofs.YthdaejnepengeaaGreatDoor
set_option linter.unusedVariables false
set_option linter.unusedSimpArgs false
open Abs

/-- sorted, each once -/
theorem srt_one {a b : List ByteArray} (hp : a.Perm b) : insSort cmpS a = insSort cmpS b := by
  refine sorted_one (c := cmpS) (swo_key id) ?_ ((insSort_perm cmpS a).trans (hp.trans (insSort_perm cmpS b).symm)) (insSort_srt (swo_key id) a) (insSort_srt (swo_key id) b)
  intro x y h1 h2
  rw [cmp_lt] at h1 h2
  rcases ltB_tri x y with h | h | h
  · exact (h1 h).elim
  · exact h
  · exact (h2 h).elim
def risV (m : MB) : List ByteArray := insSort cmpS (ktL m.es)
set_option maxRecDepth 100000 in
set_option maxHeartbeats 4000000 in
theorem fRising_pc (m : MB) (hok : m.ok) (hl : m.es.length ≤ 1000000) : PCp 121 [.c (.mp 0)] [smO ekB evT m] (.c (.lst 1 ((risV m).map encS))) [smO ekB evT m] := by
  refine fn_sound (mt := mts) tab_fits tab_mixed Tryz.func121 (by rfl) (by kernel_rfl) (by kernel_rfl) Tryz.results121 (Nat.le_of_ble_eq_true (by kernel_rfl)) ?_
  conv => whnf
  refine loop_meas (fun (vis : List (Nat × ByteArray × Bool)) => m.es.length - vis.length) [.sl 3 9 1] [3, 7] (fun (vis : List (Nat × ByteArray × Bool)) => ⟨[(3, .c (.row 1)), (7, .c (.ptr 2 0))], [(0, smO ekB evT m), (1, .row 9 1 ((ktL vis.reverse).map encS)), (2, .iter 0 m.clock (vis.map (·.1)))], 3⟩) (fun (vis : List (Nat × ByteArray × Bool)) => Vis m vis) ([]) ?_ ?_
  · conv => whnf
    exact ⟨rfl, Vis.nil _⟩
  · intro vis hv
    have hvl := hv.len
    have hsl := ktL_len vis.reverse
    rw [List.length_reverse] at hsl
    have hslm : ((ktL vis.reverse).map encS).length = (ktL vis.reverse).length := List.length_map ..
    conv => whnf
    refine .mk rfl ?_
    conv => whnf
    refine sm_next hok hv (fun hp => ?_) (fun e he hn hv' hlt => ?_)
    · conv => whnf
      have hpr : (ktL vis.reverse).Perm (ktL m.es) := (((List.reverse_perm vis).trans hp).filter _).map _
      repeat' (first | ((first | refine Split.mk (fun h => ?_) (fun h => ?_) | refine CondG.mk (fun h => ?_) (fun h => ?_)) <;> (try simp only [decide_eq_true_eq, decide_eq_false_iff_not, Bool.not_eq_true', Bool.not_eq_false', beq_iff_eq, beq_eq_false_iff_ne, bne_iff_ne, bne_eq_false_iff_eq] at h) <;> (first | (exfalso; first | omega | exact h trivial) | (conv => whnf))) | (refine CallX.mk _ _ (by first | exact sortG_pc (ktL vis.reverse) (by omega)) ?_; conv => whnf) | (refine CallG.mk _ _ (by first | exact sortG_pc (ktL vis.reverse) (by omega)) ?_; conv => whnf) | (refine Ask.mk (by first | omega | (unfold roomOK; simp [cutRows]; done) | (unfold roomOK; simp [cutRows]; omega) | (simp [cutRows]; done) | (simp [cutRows]; omega)) ?_; conv => whnf) | (refine AskV.mk (by first | omega | (unfold roomOK; simp [cutRows]; done) | (unfold roomOK; simp [cutRows]; omega) | (simp [cutRows]; done) | (simp [cutRows]; omega)) ?_; conv => whnf) | (refine AppG.mk (by first | omega | (unfold roomOK; simp [cutRows]; done) | (unfold roomOK; simp [cutRows]; omega) | (simp [cutRows]; done) | (simp [cutRows]; omega)) ?_; conv => whnf) | (refine SliceG.fr ?_; conv => whnf) | (refine BuildG.fr ?_; conv => whnf) | (refine idx_at _ (by with_reducible rfl) (by first | assumption | omega) ?_; conv => whnf) | ((with_reducible refine row_map (by first | assumption | omega) ?_); conv => whnf) | ((with_reducible refine row_set (by first | assumption | omega | (simp only [List.length_set]; omega) | (simp; omega)) ?_); conv => whnf) | fail)
      have h1 : insSort cmpS (ktL vis.reverse) = risV m := srt_one hpr
      rw [h1]
      first
        | exact .frz 1 _ _ _ rfl (.weak [_, _] (.fro 1 _ _ rfl) rfl (Nat.le_refl _))
        | exact .frz 1 _ _ _ rfl (.weak [_] (.fro 1 _ _ rfl) rfl (Nat.le_refl _))
    · obtain ⟨en, ek, eb⟩ := e
      have h1 : ktL ((en, ek, eb) :: vis).reverse = ktL vis.reverse ++ (if eb then [ek] else []) := by
        cases eb <;> simp [ktL]
      conv => whnf
      refine .mk rfl ?_
      conv => whnf
      refine sm_at hok he ?_
      conv => whnf
      repeat' (first | ((first | refine Split.mk (fun h => ?_) (fun h => ?_) | refine CondG.mk (fun h => ?_) (fun h => ?_)) <;> (try simp only [decide_eq_true_eq, decide_eq_false_iff_not, Bool.not_eq_true', Bool.not_eq_false', beq_iff_eq, beq_eq_false_iff_ne, bne_iff_ne, bne_eq_false_iff_eq] at h) <;> (first | (exfalso; first | omega | exact h trivial) | (conv => whnf))) | (refine Ask.mk (by first | omega | (unfold roomOK; simp [cutRows]; done) | (unfold roomOK; simp [cutRows]; omega) | (simp [cutRows]; done) | (simp [cutRows]; omega)) ?_; conv => whnf) | (refine AskV.mk (by first | omega | (unfold roomOK; simp [cutRows]; done) | (unfold roomOK; simp [cutRows]; omega) | (simp [cutRows]; done) | (simp [cutRows]; omega)) ?_; conv => whnf) | (refine AppG.mk (by first | omega | (unfold roomOK; simp [cutRows]; done) | (unfold roomOK; simp [cutRows]; omega) | (simp [cutRows]; done) | (simp [cutRows]; omega)) ?_; conv => whnf) | (refine SliceG.fr ?_; conv => whnf) | (refine BuildG.fr ?_; conv => whnf) | (refine idx_at _ (by with_reducible rfl) (by first | assumption | omega) ?_; conv => whnf) | ((with_reducible refine row_map (by first | assumption | omega) ?_); conv => whnf) | ((with_reducible refine row_set (by first | assumption | omega | (simp only [List.length_set]; omega) | (simp; omega)) ?_); conv => whnf) | fail)
      · exact meas_next ((en, ek, eb) :: vis) (by simp only [List.length_cons]; omega) (by rw [h1, if_pos h, List.map_append]; rfl) hv'
      · exact meas_next ((en, ek, eb) :: vis) (by simp only [List.length_cons]; omega) (by rw [h1, if_neg (by rw [h]; decide), List.append_nil]; rfl) hv'
/-! what can be broken -/
end Go.Proofs.YthdaejnepengeaaGreatDoor

/- A plant of one cable, by constants. -/
namespace Go.Proofs.YthdaejnepengeaaGreatDoor
set_option linter.unusedVariables false
set_option linter.unusedSimpArgs false
open Abs

abbrev cA : V := .str ⟨#[97]⟩
abbrev cB : V := .str ⟨#[98]⟩
abbrev cC : V := .str ⟨#[99]⟩
abbrev n1 : V := .int .i64 1
abbrev tSites : V := .lst 2 [[cA, .int .i64 1], [cB, .int .i64 4]]
abbrev tCables : V := .lst 5 [[cC, cA, cB, .int .i64 5, .int .i64 1]]
abbrev tinyL : List V := [tSites, tCables, .nils]
abbrev kindsO : Ob := .map 2 [(0, .c cA, .c (.int .i64 1)), (1, .c cB, .c (.int .i64 4))]
abbrev cabsO : Ob := .map 1 [(0, .c cC, .agg [cC, cA, cB, .int .i64 5, .int .i64 1])]
abbrev webO : List Ob := [.box [tSites, tCables, .nils, .mp 1, .mp 2, .mp 3, .nilm], kindsO, cabsO, .map 0 []]
set_option maxRecDepth 100000 in
set_option maxHeartbeats 4000000 in
theorem siteF_c1 : PCp 145 [.agg [cA, .int .i64 1]] [] (.c (.int .i64 0)) [] := by
  refine fn_sound (mt := mts) tab_fits tab_mixed Tryz.func145 (by rfl) (by kernel_rfl) (by kernel_rfl) Tryz.results145 (Nat.le_of_ble_eq_true (by kernel_rfl)) ?_
  conv => whnf
  repeat' (first | (refine CondG.mk (fun h => ?_) (fun h => absurd h (by decide +kernel)); clear h; conv => whnf) | (refine CondG.mk (fun h => absurd h (by decide +kernel)) (fun h => ?_); clear h; conv => whnf) | (refine Split.mk (fun h => ?_) (fun h => absurd h (by decide +kernel)); clear h; conv => whnf) | (refine Split.mk (fun h => absurd h (by decide +kernel)) (fun h => ?_); clear h; conv => whnf) | (refine CallX.mk _ _ (by first | exact bKey_pc _ | exact bOut_pc _ _ _) ?_; conv => whnf) | (refine CallG.mk _ _ (by first | exact bKey_pc _ | exact bOut_pc _ _ _) ?_; conv => whnf) | (refine Ask.mk (by first | decide | (unfold roomOK; decide)) ?_; conv => whnf) | (refine AppG.mk (by first | decide | (unfold roomOK; decide)) ?_; conv => whnf) | (refine SliceG.fr ?_; conv => whnf) | (refine BuildG.fr ?_; conv => whnf) | (refine IdxG.mk _ ⟨by decide, by rfl⟩ ?_; conv => whnf) | (refine RowG.mk _ (by rfl) ?_; conv => whnf) | (refine look_no (by decide +kernel) ?_; conv => whnf) | (refine look_ix 0 (by rfl) (by decide +kernel) ?_; conv => whnf) | (refine look_ix 1 (by rfl) (by decide +kernel) ?_; conv => whnf) | (refine look_ix 2 (by rfl) (by decide +kernel) ?_; conv => whnf) | (refine upd_no (by decide +kernel) ?_; conv => whnf) | (refine LoopG.un 12 ?_; conv => whnf) | fail)
  all_goals first | exact .mk ⟨rfl, rfl⟩ | trace_state
set_option maxRecDepth 100000 in
set_option maxHeartbeats 4000000 in
theorem siteF_c2 : PCp 145 [.agg [cB, .int .i64 4]] [] (.c (.int .i64 0)) [] := by
  refine fn_sound (mt := mts) tab_fits tab_mixed Tryz.func145 (by rfl) (by kernel_rfl) (by kernel_rfl) Tryz.results145 (Nat.le_of_ble_eq_true (by kernel_rfl)) ?_
  conv => whnf
  repeat' (first | (refine CondG.mk (fun h => ?_) (fun h => absurd h (by decide +kernel)); clear h; conv => whnf) | (refine CondG.mk (fun h => absurd h (by decide +kernel)) (fun h => ?_); clear h; conv => whnf) | (refine Split.mk (fun h => ?_) (fun h => absurd h (by decide +kernel)); clear h; conv => whnf) | (refine Split.mk (fun h => absurd h (by decide +kernel)) (fun h => ?_); clear h; conv => whnf) | (refine CallX.mk _ _ (by first | exact bKey_pc _ | exact bOut_pc _ _ _) ?_; conv => whnf) | (refine CallG.mk _ _ (by first | exact bKey_pc _ | exact bOut_pc _ _ _) ?_; conv => whnf) | (refine Ask.mk (by first | decide | (unfold roomOK; decide)) ?_; conv => whnf) | (refine AppG.mk (by first | decide | (unfold roomOK; decide)) ?_; conv => whnf) | (refine SliceG.fr ?_; conv => whnf) | (refine BuildG.fr ?_; conv => whnf) | (refine IdxG.mk _ ⟨by decide, by rfl⟩ ?_; conv => whnf) | (refine RowG.mk _ (by rfl) ?_; conv => whnf) | (refine look_no (by decide +kernel) ?_; conv => whnf) | (refine look_ix 0 (by rfl) (by decide +kernel) ?_; conv => whnf) | (refine look_ix 1 (by rfl) (by decide +kernel) ?_; conv => whnf) | (refine look_ix 2 (by rfl) (by decide +kernel) ?_; conv => whnf) | (refine upd_no (by decide +kernel) ?_; conv => whnf) | (refine LoopG.un 12 ?_; conv => whnf) | fail)
  all_goals first | exact .mk ⟨rfl, rfl⟩ | trace_state
set_option maxRecDepth 100000 in
set_option maxHeartbeats 4000000 in
theorem sitesF_c : PCp 115 [.c tSites] [] (.c (.int .i64 0)) [] := by
  refine fn_sound (mt := mts) tab_fits tab_mixed Tryz.func115 (by rfl) (by kernel_rfl) (by kernel_rfl) Tryz.results115 (Nat.le_of_ble_eq_true (by kernel_rfl)) ?_
  conv => whnf
  repeat' (first | (refine CondG.mk (fun h => ?_) (fun h => absurd h (by decide +kernel)); clear h; conv => whnf) | (refine CondG.mk (fun h => absurd h (by decide +kernel)) (fun h => ?_); clear h; conv => whnf) | (refine Split.mk (fun h => ?_) (fun h => absurd h (by decide +kernel)); clear h; conv => whnf) | (refine Split.mk (fun h => absurd h (by decide +kernel)) (fun h => ?_); clear h; conv => whnf) | (refine CallX.mk _ _ (by first | exact siteF_c1 | exact siteF_c2) ?_; conv => whnf) | (refine CallG.mk _ _ (by first | exact siteF_c1 | exact siteF_c2) ?_; conv => whnf) | (refine Ask.mk (by first | decide | (unfold roomOK; decide)) ?_; conv => whnf) | (refine AppG.mk (by first | decide | (unfold roomOK; decide)) ?_; conv => whnf) | (refine SliceG.fr ?_; conv => whnf) | (refine BuildG.fr ?_; conv => whnf) | (refine IdxG.mk _ ⟨by decide, by rfl⟩ ?_; conv => whnf) | (refine RowG.mk _ (by rfl) ?_; conv => whnf) | (refine look_no (by decide +kernel) ?_; conv => whnf) | (refine look_ix 0 (by rfl) (by decide +kernel) ?_; conv => whnf) | (refine look_ix 1 (by rfl) (by decide +kernel) ?_; conv => whnf) | (refine look_ix 2 (by rfl) (by decide +kernel) ?_; conv => whnf) | (refine upd_no (by decide +kernel) ?_; conv => whnf) | (refine LoopG.un 12 ?_; conv => whnf) | fail)
  all_goals first | exact .mk ⟨rfl, rfl⟩ | trace_state
set_option maxRecDepth 100000 in
set_option maxHeartbeats 4000000 in
theorem cabF_c : PCp 146 [.agg [cC, cA, cB, .int .i64 5, .int .i64 1], .c (.mp 0)] [kindsO] (.c (.int .i64 0)) [kindsO] := by
  refine fn_sound (mt := mts) tab_fits tab_mixed Tryz.func146 (by rfl) (by kernel_rfl) (by kernel_rfl) Tryz.results146 (Nat.le_of_ble_eq_true (by kernel_rfl)) ?_
  conv => whnf
  repeat' (first | (refine CondG.mk (fun h => ?_) (fun h => absurd h (by decide +kernel)); clear h; conv => whnf) | (refine CondG.mk (fun h => absurd h (by decide +kernel)) (fun h => ?_); clear h; conv => whnf) | (refine Split.mk (fun h => ?_) (fun h => absurd h (by decide +kernel)); clear h; conv => whnf) | (refine Split.mk (fun h => absurd h (by decide +kernel)) (fun h => ?_); clear h; conv => whnf) | (refine CallX.mk _ _ (by first | exact bKey_pc _ | exact bOut_pc _ _ _) ?_; conv => whnf) | (refine CallG.mk _ _ (by first | exact bKey_pc _ | exact bOut_pc _ _ _) ?_; conv => whnf) | (refine Ask.mk (by first | decide | (unfold roomOK; decide)) ?_; conv => whnf) | (refine AppG.mk (by first | decide | (unfold roomOK; decide)) ?_; conv => whnf) | (refine SliceG.fr ?_; conv => whnf) | (refine BuildG.fr ?_; conv => whnf) | (refine IdxG.mk _ ⟨by decide, by rfl⟩ ?_; conv => whnf) | (refine RowG.mk _ (by rfl) ?_; conv => whnf) | (refine look_no (by decide +kernel) ?_; conv => whnf) | (refine look_ix 0 (by rfl) (by decide +kernel) ?_; conv => whnf) | (refine look_ix 1 (by rfl) (by decide +kernel) ?_; conv => whnf) | (refine look_ix 2 (by rfl) (by decide +kernel) ?_; conv => whnf) | (refine upd_no (by decide +kernel) ?_; conv => whnf) | (refine LoopG.un 12 ?_; conv => whnf) | fail)
  all_goals first | exact .mk ⟨rfl, rfl⟩ | trace_state
set_option maxRecDepth 100000 in
set_option maxHeartbeats 4000000 in
theorem cabsF_c : PCp 116 [.c tCables, .c (.mp 0)] [kindsO] (.c (.int .i64 0)) [kindsO] := by
  refine fn_sound (mt := mts) tab_fits tab_mixed Tryz.func116 (by rfl) (by kernel_rfl) (by kernel_rfl) Tryz.results116 (Nat.le_of_ble_eq_true (by kernel_rfl)) ?_
  conv => whnf
  repeat' (first | (refine CondG.mk (fun h => ?_) (fun h => absurd h (by decide +kernel)); clear h; conv => whnf) | (refine CondG.mk (fun h => absurd h (by decide +kernel)) (fun h => ?_); clear h; conv => whnf) | (refine Split.mk (fun h => ?_) (fun h => absurd h (by decide +kernel)); clear h; conv => whnf) | (refine Split.mk (fun h => absurd h (by decide +kernel)) (fun h => ?_); clear h; conv => whnf) | (refine CallX.mk _ _ (by first | exact cabF_c) ?_; conv => whnf) | (refine CallG.mk _ _ (by first | exact cabF_c) ?_; conv => whnf) | (refine Ask.mk (by first | decide | (unfold roomOK; decide)) ?_; conv => whnf) | (refine AppG.mk (by first | decide | (unfold roomOK; decide)) ?_; conv => whnf) | (refine SliceG.fr ?_; conv => whnf) | (refine BuildG.fr ?_; conv => whnf) | (refine IdxG.mk _ ⟨by decide, by rfl⟩ ?_; conv => whnf) | (refine RowG.mk _ (by rfl) ?_; conv => whnf) | (refine look_no (by decide +kernel) ?_; conv => whnf) | (refine look_ix 0 (by rfl) (by decide +kernel) ?_; conv => whnf) | (refine look_ix 1 (by rfl) (by decide +kernel) ?_; conv => whnf) | (refine look_ix 2 (by rfl) (by decide +kernel) ?_; conv => whnf) | (refine upd_no (by decide +kernel) ?_; conv => whnf) | (refine LoopG.un 12 ?_; conv => whnf) | fail)
  all_goals first | exact .mk ⟨rfl, rfl⟩ | trace_state
set_option maxRecDepth 100000 in
set_option maxHeartbeats 4000000 in
theorem splsF_c : PCp 117 [.agg tinyL, .c (.mp 0)] [kindsO] (.c (.int .i64 0)) [kindsO] := by
  refine fn_sound (mt := mts) tab_fits tab_mixed Tryz.func117 (by rfl) (by kernel_rfl) (by kernel_rfl) Tryz.results117 (Nat.le_of_ble_eq_true (by kernel_rfl)) ?_
  conv => whnf
  repeat' (first | (refine CondG.mk (fun h => ?_) (fun h => absurd h (by decide +kernel)); clear h; conv => whnf) | (refine CondG.mk (fun h => absurd h (by decide +kernel)) (fun h => ?_); clear h; conv => whnf) | (refine Split.mk (fun h => ?_) (fun h => absurd h (by decide +kernel)); clear h; conv => whnf) | (refine Split.mk (fun h => absurd h (by decide +kernel)) (fun h => ?_); clear h; conv => whnf) | (refine Ask.mk (by first | decide | (unfold roomOK; decide)) ?_; conv => whnf) | (refine AppG.mk (by first | decide | (unfold roomOK; decide)) ?_; conv => whnf) | (refine SliceG.fr ?_; conv => whnf) | (refine BuildG.fr ?_; conv => whnf) | (refine IdxG.mk _ ⟨by decide, by rfl⟩ ?_; conv => whnf) | (refine RowG.mk _ (by rfl) ?_; conv => whnf) | (refine look_no (by decide +kernel) ?_; conv => whnf) | (refine look_ix 0 (by rfl) (by decide +kernel) ?_; conv => whnf) | (refine look_ix 1 (by rfl) (by decide +kernel) ?_; conv => whnf) | (refine look_ix 2 (by rfl) (by decide +kernel) ?_; conv => whnf) | (refine upd_no (by decide +kernel) ?_; conv => whnf) | (refine LoopG.un 12 ?_; conv => whnf) | fail)
  all_goals first | exact .mk ⟨rfl, rfl⟩ | trace_state
set_option maxRecDepth 100000 in
set_option maxHeartbeats 4000000 in
theorem checkPlant_c : PCp 66 [.agg tinyL] [] (.c (.int .i64 0)) [] := by
  refine fn_sound (mt := mts) tab_fits tab_mixed Tryz.func66 (by rfl) (by kernel_rfl) (by kernel_rfl) Tryz.results66 (Nat.le_of_ble_eq_true (by kernel_rfl)) ?_
  conv => whnf
  repeat' (first | (refine CondG.mk (fun h => ?_) (fun h => absurd h (by decide +kernel)); clear h; conv => whnf) | (refine CondG.mk (fun h => absurd h (by decide +kernel)) (fun h => ?_); clear h; conv => whnf) | (refine Split.mk (fun h => ?_) (fun h => absurd h (by decide +kernel)); clear h; conv => whnf) | (refine Split.mk (fun h => absurd h (by decide +kernel)) (fun h => ?_); clear h; conv => whnf) | (refine CallX.mk _ _ (by first | exact sitesF_c | exact cabsF_c | exact splsF_c) ?_; conv => whnf) | (refine CallG.mk _ _ (by first | exact sitesF_c | exact cabsF_c | exact splsF_c) ?_; conv => whnf) | (refine Ask.mk (by first | decide | (unfold roomOK; decide)) ?_; conv => whnf) | (refine AppG.mk (by first | decide | (unfold roomOK; decide)) ?_; conv => whnf) | (refine SliceG.fr ?_; conv => whnf) | (refine BuildG.fr ?_; conv => whnf) | (refine IdxG.mk _ ⟨by decide, by rfl⟩ ?_; conv => whnf) | (refine RowG.mk _ (by rfl) ?_; conv => whnf) | (refine look_no (by decide +kernel) ?_; conv => whnf) | (refine look_ix 0 (by rfl) (by decide +kernel) ?_; conv => whnf) | (refine look_ix 1 (by rfl) (by decide +kernel) ?_; conv => whnf) | (refine look_ix 2 (by rfl) (by decide +kernel) ?_; conv => whnf) | (refine upd_no (by decide +kernel) ?_; conv => whnf) | (refine LoopG.un 12 ?_; conv => whnf) | fail)
  all_goals first | exact .mk ⟨rfl, rfl⟩ | trace_state
theorem sbool {a b : Bool} (h : a = b) : oneOf [S.c (.bool a)] = S.c (.bool b) := by rw [h]; rfl
set_option maxRecDepth 100000 in
set_option maxHeartbeats 4000000 in
theorem siteC1_c : PCp 140 [.agg [cA, .int .i64 1], .c (.ptr 0 0)] [.box [cB]] (.c (.bool false)) [.box [cB]] := by
  refine fn_sound (mt := mts) tab_fits tab_mixed Tryz.func140 (by rfl) (by kernel_rfl) (by kernel_rfl) Tryz.results140 (Nat.le_of_ble_eq_true (by kernel_rfl)) ?_
  conv => whnf
  repeat' (first | (refine CondG.mk (fun h => ?_) (fun h => absurd h (by decide +kernel)); clear h; conv => whnf) | (refine CondG.mk (fun h => absurd h (by decide +kernel)) (fun h => ?_); clear h; conv => whnf) | (refine Split.mk (fun h => ?_) (fun h => absurd h (by decide +kernel)); clear h; conv => whnf) | (refine Split.mk (fun h => absurd h (by decide +kernel)) (fun h => ?_); clear h; conv => whnf) | (refine Ask.mk (by first | decide | (unfold roomOK; decide)) ?_; conv => whnf) | (refine AppG.mk (by first | decide | (unfold roomOK; decide)) ?_; conv => whnf) | (refine SliceG.fr ?_; conv => whnf) | (refine BuildG.fr ?_; conv => whnf) | (refine IdxG.mk _ ⟨by decide, by rfl⟩ ?_; conv => whnf) | (refine RowG.mk _ (by rfl) ?_; conv => whnf) | (refine look_no (by decide +kernel) ?_; conv => whnf) | (refine look_ix 0 (by rfl) (by decide +kernel) ?_; conv => whnf) | (refine look_ix 1 (by rfl) (by decide +kernel) ?_; conv => whnf) | (refine look_ix 2 (by rfl) (by decide +kernel) ?_; conv => whnf) | (refine upd_no (by decide +kernel) ?_; conv => whnf) | (refine LoopG.un 12 ?_; conv => whnf) | fail)
  exact .mk ⟨sbool (by decide +kernel), rfl⟩
set_option maxRecDepth 100000 in
set_option maxHeartbeats 4000000 in
theorem siteC2_c : PCp 140 [.agg [cB, .int .i64 4], .c (.ptr 0 0)] [.box [cB]] (.c (.bool true)) [.box [cB]] := by
  refine fn_sound (mt := mts) tab_fits tab_mixed Tryz.func140 (by rfl) (by kernel_rfl) (by kernel_rfl) Tryz.results140 (Nat.le_of_ble_eq_true (by kernel_rfl)) ?_
  conv => whnf
  repeat' (first | (refine CondG.mk (fun h => ?_) (fun h => absurd h (by decide +kernel)); clear h; conv => whnf) | (refine CondG.mk (fun h => absurd h (by decide +kernel)) (fun h => ?_); clear h; conv => whnf) | (refine Split.mk (fun h => ?_) (fun h => absurd h (by decide +kernel)); clear h; conv => whnf) | (refine Split.mk (fun h => absurd h (by decide +kernel)) (fun h => ?_); clear h; conv => whnf) | (refine Ask.mk (by first | decide | (unfold roomOK; decide)) ?_; conv => whnf) | (refine AppG.mk (by first | decide | (unfold roomOK; decide)) ?_; conv => whnf) | (refine SliceG.fr ?_; conv => whnf) | (refine BuildG.fr ?_; conv => whnf) | (refine IdxG.mk _ ⟨by decide, by rfl⟩ ?_; conv => whnf) | (refine RowG.mk _ (by rfl) ?_; conv => whnf) | (refine look_no (by decide +kernel) ?_; conv => whnf) | (refine look_ix 0 (by rfl) (by decide +kernel) ?_; conv => whnf) | (refine look_ix 1 (by rfl) (by decide +kernel) ?_; conv => whnf) | (refine look_ix 2 (by rfl) (by decide +kernel) ?_; conv => whnf) | (refine upd_no (by decide +kernel) ?_; conv => whnf) | (refine LoopG.un 12 ?_; conv => whnf) | fail)
  exact .mk ⟨sbool (by decide +kernel), rfl⟩
set_option maxRecDepth 100000 in
set_option maxHeartbeats 4000000 in
theorem siteIx_c : PCp 161 [.c tSites, .c (.fn 140 [.ptr 0 0])] [.box [cB]] (.c (.int .i64 1)) [.box [cB]] := by
  refine fn_sound (mt := mts) tab_fits tab_mixed Tryz.func161 (by rfl) (by kernel_rfl) (by kernel_rfl) Tryz.results161 (Nat.le_of_ble_eq_true (by kernel_rfl)) ?_
  conv => whnf
  repeat' (first | (refine CondG.mk (fun h => ?_) (fun h => absurd h (by decide +kernel)); clear h; conv => whnf) | (refine CondG.mk (fun h => absurd h (by decide +kernel)) (fun h => ?_); clear h; conv => whnf) | (refine Split.mk (fun h => ?_) (fun h => absurd h (by decide +kernel)); clear h; conv => whnf) | (refine Split.mk (fun h => absurd h (by decide +kernel)) (fun h => ?_); clear h; conv => whnf) | (refine CallX.mk _ _ (by first | exact siteC1_c | exact siteC2_c) ?_; conv => whnf) | (refine CallG.mk _ _ (by first | exact siteC1_c | exact siteC2_c) ?_; conv => whnf) | (refine Ask.mk (by first | decide | (unfold roomOK; decide)) ?_; conv => whnf) | (refine AppG.mk (by first | decide | (unfold roomOK; decide)) ?_; conv => whnf) | (refine SliceG.fr ?_; conv => whnf) | (refine BuildG.fr ?_; conv => whnf) | (refine IdxG.mk _ ⟨by decide, by rfl⟩ ?_; conv => whnf) | (refine RowG.mk _ (by rfl) ?_; conv => whnf) | (refine look_no (by decide +kernel) ?_; conv => whnf) | (refine look_ix 0 (by rfl) (by decide +kernel) ?_; conv => whnf) | (refine look_ix 1 (by rfl) (by decide +kernel) ?_; conv => whnf) | (refine look_ix 2 (by rfl) (by decide +kernel) ?_; conv => whnf) | (refine upd_no (by decide +kernel) ?_; conv => whnf) | (refine LoopG.un 12 ?_; conv => whnf) | fail)
  all_goals first | exact .mk ⟨rfl, rfl⟩ | trace_state
set_option maxRecDepth 100000 in
set_option maxHeartbeats 4000000 in
theorem siteCt_c : PCp 139 [.c tSites, .c (.fn 140 [.ptr 0 0])] [.box [cB]] (.c (.bool true)) [.box [cB]] := by
  refine fn_sound (mt := mts) tab_fits tab_mixed Tryz.func139 (by rfl) (by kernel_rfl) (by kernel_rfl) Tryz.results139 (Nat.le_of_ble_eq_true (by kernel_rfl)) ?_
  conv => whnf
  repeat' (first | (refine CondG.mk (fun h => ?_) (fun h => absurd h (by decide +kernel)); clear h; conv => whnf) | (refine CondG.mk (fun h => absurd h (by decide +kernel)) (fun h => ?_); clear h; conv => whnf) | (refine Split.mk (fun h => ?_) (fun h => absurd h (by decide +kernel)); clear h; conv => whnf) | (refine Split.mk (fun h => absurd h (by decide +kernel)) (fun h => ?_); clear h; conv => whnf) | (refine CallX.mk _ _ (by first | exact siteIx_c) ?_; conv => whnf) | (refine CallG.mk _ _ (by first | exact siteIx_c) ?_; conv => whnf) | (refine Ask.mk (by first | decide | (unfold roomOK; decide)) ?_; conv => whnf) | (refine AppG.mk (by first | decide | (unfold roomOK; decide)) ?_; conv => whnf) | (refine SliceG.fr ?_; conv => whnf) | (refine BuildG.fr ?_; conv => whnf) | (refine IdxG.mk _ ⟨by decide, by rfl⟩ ?_; conv => whnf) | (refine RowG.mk _ (by rfl) ?_; conv => whnf) | (refine look_no (by decide +kernel) ?_; conv => whnf) | (refine look_ix 0 (by rfl) (by decide +kernel) ?_; conv => whnf) | (refine look_ix 1 (by rfl) (by decide +kernel) ?_; conv => whnf) | (refine look_ix 2 (by rfl) (by decide +kernel) ?_; conv => whnf) | (refine upd_no (by decide +kernel) ?_; conv => whnf) | (refine LoopG.un 12 ?_; conv => whnf) | fail)
  all_goals first | exact .mk ⟨rfl, rfl⟩ | trace_state
set_option maxRecDepth 100000 in
set_option maxHeartbeats 4000000 in
theorem siteFault_c : PCp 105 [.agg tinyL, .c cB] [] (.c (.int .i64 0)) [] := by
  refine fn_sound (mt := mts) tab_fits tab_mixed Tryz.func105 (by rfl) (by kernel_rfl) (by kernel_rfl) Tryz.results105 (Nat.le_of_ble_eq_true (by kernel_rfl)) ?_
  conv => whnf
  repeat' (first | (refine CondG.mk (fun h => ?_) (fun h => absurd h (by decide +kernel)); clear h; conv => whnf) | (refine CondG.mk (fun h => absurd h (by decide +kernel)) (fun h => ?_); clear h; conv => whnf) | (refine Split.mk (fun h => ?_) (fun h => absurd h (by decide +kernel)); clear h; conv => whnf) | (refine Split.mk (fun h => absurd h (by decide +kernel)) (fun h => ?_); clear h; conv => whnf) | (refine CallX.mk _ _ (by first | exact checkPlant_c | exact siteCt_c) ?_; conv => whnf) | (refine CallG.mk _ _ (by first | exact checkPlant_c | exact siteCt_c) ?_; conv => whnf) | (refine Ask.mk (by first | decide | (unfold roomOK; decide)) ?_; conv => whnf) | (refine AppG.mk (by first | decide | (unfold roomOK; decide)) ?_; conv => whnf) | (refine SliceG.fr ?_; conv => whnf) | (refine BuildG.fr ?_; conv => whnf) | (refine IdxG.mk _ ⟨by decide, by rfl⟩ ?_; conv => whnf) | (refine RowG.mk _ (by rfl) ?_; conv => whnf) | (refine look_no (by decide +kernel) ?_; conv => whnf) | (refine look_ix 0 (by rfl) (by decide +kernel) ?_; conv => whnf) | (refine look_ix 1 (by rfl) (by decide +kernel) ?_; conv => whnf) | (refine look_ix 2 (by rfl) (by decide +kernel) ?_; conv => whnf) | (refine upd_no (by decide +kernel) ?_; conv => whnf) | (refine LoopG.un 12 ?_; conv => whnf) | fail)
  all_goals first | exact .mk ⟨rfl, rfl⟩ | trace_state
set_option maxRecDepth 100000 in
set_option maxHeartbeats 4000000 in
theorem webNew_c : PCp 67 [.agg tinyL] [] (.c (.ptr 0 0)) webO := by
  refine fn_sound (mt := mts) tab_fits tab_mixed Tryz.func67 (by rfl) (by kernel_rfl) (by kernel_rfl) Tryz.results67 (Nat.le_of_ble_eq_true (by kernel_rfl)) ?_
  conv => whnf
  repeat' (first | (refine CondG.mk (fun h => ?_) (fun h => absurd h (by decide +kernel)); clear h; conv => whnf) | (refine CondG.mk (fun h => absurd h (by decide +kernel)) (fun h => ?_); clear h; conv => whnf) | (refine Split.mk (fun h => ?_) (fun h => absurd h (by decide +kernel)); clear h; conv => whnf) | (refine Split.mk (fun h => absurd h (by decide +kernel)) (fun h => ?_); clear h; conv => whnf) | (refine Ask.mk (by first | decide | (unfold roomOK; decide)) ?_; conv => whnf) | (refine AppG.mk (by first | decide | (unfold roomOK; decide)) ?_; conv => whnf) | (refine SliceG.fr ?_; conv => whnf) | (refine BuildG.fr ?_; conv => whnf) | (refine IdxG.mk _ ⟨by decide, by rfl⟩ ?_; conv => whnf) | (refine RowG.mk _ (by rfl) ?_; conv => whnf) | (refine look_no (by decide +kernel) ?_; conv => whnf) | (refine look_ix 0 (by rfl) (by decide +kernel) ?_; conv => whnf) | (refine look_ix 1 (by rfl) (by decide +kernel) ?_; conv => whnf) | (refine look_ix 2 (by rfl) (by decide +kernel) ?_; conv => whnf) | (refine upd_no (by decide +kernel) ?_; conv => whnf) | (refine LoopG.un 12 ?_; conv => whnf) | fail)
  all_goals first | exact .mk ⟨rfl, rfl⟩ | trace_state
set_option maxRecDepth 100000 in
set_option maxHeartbeats 4000000 in
theorem webHas_c : PCp 106 [.c (.ptr 0 0), .agg [cC, n1]] webO (.c (.bool true)) webO := by
  refine fn_sound (mt := mts) tab_fits tab_mixed Tryz.func106 (by rfl) (by kernel_rfl) (by kernel_rfl) Tryz.results106 (Nat.le_of_ble_eq_true (by kernel_rfl)) ?_
  conv => whnf
  repeat' (first | (refine CondG.mk (fun h => ?_) (fun h => absurd h (by decide +kernel)); clear h; conv => whnf) | (refine CondG.mk (fun h => absurd h (by decide +kernel)) (fun h => ?_); clear h; conv => whnf) | (refine Split.mk (fun h => ?_) (fun h => absurd h (by decide +kernel)); clear h; conv => whnf) | (refine Split.mk (fun h => absurd h (by decide +kernel)) (fun h => ?_); clear h; conv => whnf) | (refine CallX.mk _ _ (by first | exact bOut_pc _ _ _) ?_; conv => whnf) | (refine CallG.mk _ _ (by first | exact bOut_pc _ _ _) ?_; conv => whnf) | (refine Ask.mk (by first | decide | (unfold roomOK; decide)) ?_; conv => whnf) | (refine AppG.mk (by first | decide | (unfold roomOK; decide)) ?_; conv => whnf) | (refine SliceG.fr ?_; conv => whnf) | (refine BuildG.fr ?_; conv => whnf) | (refine IdxG.mk _ ⟨by decide, by rfl⟩ ?_; conv => whnf) | (refine RowG.mk _ (by rfl) ?_; conv => whnf) | (refine look_no (by decide +kernel) ?_; conv => whnf) | (refine look_ix 0 (by rfl) (by decide +kernel) ?_; conv => whnf) | (refine look_ix 1 (by rfl) (by decide +kernel) ?_; conv => whnf) | (refine look_ix 2 (by rfl) (by decide +kernel) ?_; conv => whnf) | (refine upd_no (by decide +kernel) ?_; conv => whnf) | (refine LoopG.un 12 ?_; conv => whnf) | fail)
  all_goals first | exact .mk ⟨rfl, rfl⟩ | exact .mk ⟨sbool (by decide +kernel), rfl⟩ | trace_state
set_option maxRecDepth 100000 in
set_option maxHeartbeats 4000000 in
theorem webTouches_c : PCp 107 [.c (.ptr 0 0), .agg [cC, n1], .c cB] webO (.c (.bool true)) webO := by
  refine fn_sound (mt := mts) tab_fits tab_mixed Tryz.func107 (by rfl) (by kernel_rfl) (by kernel_rfl) Tryz.results107 (Nat.le_of_ble_eq_true (by kernel_rfl)) ?_
  conv => whnf
  repeat' (first | (refine CondG.mk (fun h => ?_) (fun h => absurd h (by decide +kernel)); clear h; conv => whnf) | (refine CondG.mk (fun h => absurd h (by decide +kernel)) (fun h => ?_); clear h; conv => whnf) | (refine Split.mk (fun h => ?_) (fun h => absurd h (by decide +kernel)); clear h; conv => whnf) | (refine Split.mk (fun h => absurd h (by decide +kernel)) (fun h => ?_); clear h; conv => whnf) | (refine Ask.mk (by first | decide | (unfold roomOK; decide)) ?_; conv => whnf) | (refine AppG.mk (by first | decide | (unfold roomOK; decide)) ?_; conv => whnf) | (refine SliceG.fr ?_; conv => whnf) | (refine BuildG.fr ?_; conv => whnf) | (refine IdxG.mk _ ⟨by decide, by rfl⟩ ?_; conv => whnf) | (refine RowG.mk _ (by rfl) ?_; conv => whnf) | (refine look_no (by decide +kernel) ?_; conv => whnf) | (refine look_ix 0 (by rfl) (by decide +kernel) ?_; conv => whnf) | (refine look_ix 1 (by rfl) (by decide +kernel) ?_; conv => whnf) | (refine look_ix 2 (by rfl) (by decide +kernel) ?_; conv => whnf) | (refine upd_no (by decide +kernel) ?_; conv => whnf) | (refine LoopG.un 12 ?_; conv => whnf) | fail)
  all_goals first | exact .mk ⟨rfl, rfl⟩ | exact .mk ⟨sbool (by decide +kernel), rfl⟩ | trace_state
set_option maxRecDepth 100000 in
set_option maxHeartbeats 4000000 in
theorem endOf_c : PCp 58 [.agg tinyL, .agg [cC, n1], .c cB] [] (.tup [.c (.ptr 0 0), .c (.int .i64 0)]) webO := by
  refine fn_sound (mt := mts) tab_fits tab_mixed Tryz.func58 (by rfl) (by kernel_rfl) (by kernel_rfl) Tryz.results58 (Nat.le_of_ble_eq_true (by kernel_rfl)) ?_
  conv => whnf
  repeat' (first | (refine CondG.mk (fun h => ?_) (fun h => absurd h (by decide +kernel)); clear h; conv => whnf) | (refine CondG.mk (fun h => absurd h (by decide +kernel)) (fun h => ?_); clear h; conv => whnf) | (refine Split.mk (fun h => ?_) (fun h => absurd h (by decide +kernel)); clear h; conv => whnf) | (refine Split.mk (fun h => absurd h (by decide +kernel)) (fun h => ?_); clear h; conv => whnf) | (refine CallX.mk _ _ (by first | exact siteFault_c | exact webNew_c | exact webHas_c | exact webTouches_c) ?_; conv => whnf) | (refine CallG.mk _ _ (by first | exact siteFault_c | exact webNew_c | exact webHas_c | exact webTouches_c) ?_; conv => whnf) | (refine Ask.mk (by first | decide | (unfold roomOK; decide)) ?_; conv => whnf) | (refine AppG.mk (by first | decide | (unfold roomOK; decide)) ?_; conv => whnf) | (refine SliceG.fr ?_; conv => whnf) | (refine BuildG.fr ?_; conv => whnf) | (refine IdxG.mk _ ⟨by decide, by rfl⟩ ?_; conv => whnf) | (refine RowG.mk _ (by rfl) ?_; conv => whnf) | (refine look_no (by decide +kernel) ?_; conv => whnf) | (refine look_ix 0 (by rfl) (by decide +kernel) ?_; conv => whnf) | (refine look_ix 1 (by rfl) (by decide +kernel) ?_; conv => whnf) | (refine look_ix 2 (by rfl) (by decide +kernel) ?_; conv => whnf) | (refine upd_no (by decide +kernel) ?_; conv => whnf) | (refine LoopG.un 12 ?_; conv => whnf) | fail)
  all_goals first | exact .mk ⟨rfl, rfl⟩ | trace_state
abbrev spl0 : List V := [.str ⟨#[]⟩, .str ⟨#[]⟩, .int .i64 0, .str ⟨#[]⟩, .int .i64 0, .int .i64 0]
set_option maxRecDepth 100000 in
set_option maxHeartbeats 4000000 in
theorem webAt_c (s : V) (hs : s = cA ∨ s = cB) : PCp 59 [.c (.ptr 0 0), .agg [s, cC, n1]] webO (.tup [.agg spl0, .c (.bool false)]) webO := by
  rcases hs with rfl | rfl
  · refine fn_sound (mt := mts) tab_fits tab_mixed Tryz.func59 (by rfl) (by kernel_rfl) (by kernel_rfl) Tryz.results59 (Nat.le_of_ble_eq_true (by kernel_rfl)) ?_
    conv => whnf
    repeat' (first | (refine CondG.mk (fun h => ?_) (fun h => absurd h (by decide +kernel)); clear h; conv => whnf) | (refine CondG.mk (fun h => absurd h (by decide +kernel)) (fun h => ?_); clear h; conv => whnf) | (refine Split.mk (fun h => ?_) (fun h => absurd h (by decide +kernel)); clear h; conv => whnf) | (refine Split.mk (fun h => absurd h (by decide +kernel)) (fun h => ?_); clear h; conv => whnf) | (refine Ask.mk (by first | decide | (unfold roomOK; decide)) ?_; conv => whnf) | (refine AppG.mk (by first | decide | (unfold roomOK; decide)) ?_; conv => whnf) | (refine SliceG.fr ?_; conv => whnf) | (refine BuildG.fr ?_; conv => whnf) | (refine IdxG.mk _ ⟨by decide, by rfl⟩ ?_; conv => whnf) | (refine RowG.mk _ (by rfl) ?_; conv => whnf) | (refine look_no (by decide +kernel) ?_; conv => whnf) | (refine look_ix 0 (by rfl) (by decide +kernel) ?_; conv => whnf) | (refine look_ix 1 (by rfl) (by decide +kernel) ?_; conv => whnf) | (refine look_ix 2 (by rfl) (by decide +kernel) ?_; conv => whnf) | (refine upd_no (by decide +kernel) ?_; conv => whnf) | (refine LoopG.un 12 ?_; conv => whnf) | fail)
    all_goals first | exact .mk ⟨rfl, rfl⟩ | trace_state
  · refine fn_sound (mt := mts) tab_fits tab_mixed Tryz.func59 (by rfl) (by kernel_rfl) (by kernel_rfl) Tryz.results59 (Nat.le_of_ble_eq_true (by kernel_rfl)) ?_
    conv => whnf
    repeat' (first | (refine CondG.mk (fun h => ?_) (fun h => absurd h (by decide +kernel)); clear h; conv => whnf) | (refine CondG.mk (fun h => absurd h (by decide +kernel)) (fun h => ?_); clear h; conv => whnf) | (refine Split.mk (fun h => ?_) (fun h => absurd h (by decide +kernel)); clear h; conv => whnf) | (refine Split.mk (fun h => absurd h (by decide +kernel)) (fun h => ?_); clear h; conv => whnf) | (refine Ask.mk (by first | decide | (unfold roomOK; decide)) ?_; conv => whnf) | (refine AppG.mk (by first | decide | (unfold roomOK; decide)) ?_; conv => whnf) | (refine SliceG.fr ?_; conv => whnf) | (refine BuildG.fr ?_; conv => whnf) | (refine IdxG.mk _ ⟨by decide, by rfl⟩ ?_; conv => whnf) | (refine RowG.mk _ (by rfl) ?_; conv => whnf) | (refine look_no (by decide +kernel) ?_; conv => whnf) | (refine look_ix 0 (by rfl) (by decide +kernel) ?_; conv => whnf) | (refine look_ix 1 (by rfl) (by decide +kernel) ?_; conv => whnf) | (refine look_ix 2 (by rfl) (by decide +kernel) ?_; conv => whnf) | (refine upd_no (by decide +kernel) ?_; conv => whnf) | (refine LoopG.un 12 ?_; conv => whnf) | fail)
    all_goals first | exact .mk ⟨rfl, rfl⟩ | trace_state
set_option maxRecDepth 100000 in
set_option maxHeartbeats 4000000 in
theorem webHop_c : PCp 108 [.c (.ptr 0 0), .agg [cB, cC, n1]] webO (.agg [cC, n1, cB, cA]) webO := by
  refine fn_sound (mt := mts) tab_fits tab_mixed Tryz.func108 (by rfl) (by kernel_rfl) (by kernel_rfl) Tryz.results108 (Nat.le_of_ble_eq_true (by kernel_rfl)) ?_
  conv => whnf
  repeat' (first | (refine CondG.mk (fun h => ?_) (fun h => absurd h (by decide +kernel)); clear h; conv => whnf) | (refine CondG.mk (fun h => absurd h (by decide +kernel)) (fun h => ?_); clear h; conv => whnf) | (refine Split.mk (fun h => ?_) (fun h => absurd h (by decide +kernel)); clear h; conv => whnf) | (refine Split.mk (fun h => absurd h (by decide +kernel)) (fun h => ?_); clear h; conv => whnf) | (refine Ask.mk (by first | decide | (unfold roomOK; decide)) ?_; conv => whnf) | (refine AppG.mk (by first | decide | (unfold roomOK; decide)) ?_; conv => whnf) | (refine SliceG.fr ?_; conv => whnf) | (refine BuildG.fr ?_; conv => whnf) | (refine IdxG.mk _ ⟨by decide, by rfl⟩ ?_; conv => whnf) | (refine RowG.mk _ (by rfl) ?_; conv => whnf) | (refine look_no (by decide +kernel) ?_; conv => whnf) | (refine look_ix 0 (by rfl) (by decide +kernel) ?_; conv => whnf) | (refine look_ix 1 (by rfl) (by decide +kernel) ?_; conv => whnf) | (refine look_ix 2 (by rfl) (by decide +kernel) ?_; conv => whnf) | (refine upd_no (by decide +kernel) ?_; conv => whnf) | (refine LoopG.un 12 ?_; conv => whnf) | fail)
  all_goals first | exact .mk ⟨rfl, rfl⟩ | trace_state
set_option maxRecDepth 100000 in
set_option maxHeartbeats 4000000 in
theorem webNext_c : PCp 109 [.c (.ptr 0 0), .agg [cC, n1, cB, cA]] webO (.tup [.agg [.str ⟨#[]⟩, .str ⟨#[]⟩, .int .i64 0], .c (.bool false)]) webO := by
  refine fn_sound (mt := mts) tab_fits tab_mixed Tryz.func109 (by rfl) (by kernel_rfl) (by kernel_rfl) Tryz.results109 (Nat.le_of_ble_eq_true (by kernel_rfl)) ?_
  conv => whnf
  repeat' (first | (refine CondG.mk (fun h => ?_) (fun h => absurd h (by decide +kernel)); clear h; conv => whnf) | (refine CondG.mk (fun h => absurd h (by decide +kernel)) (fun h => ?_); clear h; conv => whnf) | (refine Split.mk (fun h => ?_) (fun h => absurd h (by decide +kernel)); clear h; conv => whnf) | (refine Split.mk (fun h => absurd h (by decide +kernel)) (fun h => ?_); clear h; conv => whnf) | (refine CallX.mk _ _ (by first | exact webAt_c cA (.inl rfl)) ?_; conv => whnf) | (refine CallG.mk _ _ (by first | exact webAt_c cA (.inl rfl)) ?_; conv => whnf) | (refine Ask.mk (by first | decide | (unfold roomOK; decide)) ?_; conv => whnf) | (refine AppG.mk (by first | decide | (unfold roomOK; decide)) ?_; conv => whnf) | (refine SliceG.fr ?_; conv => whnf) | (refine BuildG.fr ?_; conv => whnf) | (refine IdxG.mk _ ⟨by decide, by rfl⟩ ?_; conv => whnf) | (refine RowG.mk _ (by rfl) ?_; conv => whnf) | (refine look_no (by decide +kernel) ?_; conv => whnf) | (refine look_ix 0 (by rfl) (by decide +kernel) ?_; conv => whnf) | (refine look_ix 1 (by rfl) (by decide +kernel) ?_; conv => whnf) | (refine look_ix 2 (by rfl) (by decide +kernel) ?_; conv => whnf) | (refine upd_no (by decide +kernel) ?_; conv => whnf) | (refine LoopG.un 12 ?_; conv => whnf) | fail)
  all_goals first | exact .mk ⟨rfl, rfl⟩ | trace_state
set_option maxRecDepth 100000 in
set_option maxHeartbeats 4000000 in
theorem webPath_c : PCp 60 [.c (.ptr 0 0), .agg [cB, cC, n1]] webO (.tup [.c (.row 4), .c (.bool false)]) (webO ++ [.row 190 4 [[cC, n1, cB, cA]]]) := by
  refine fn_sound (mt := mts) tab_fits tab_mixed Tryz.func60 (by rfl) (by kernel_rfl) (by kernel_rfl) Tryz.results60 (Nat.le_of_ble_eq_true (by kernel_rfl)) ?_
  conv => whnf
  repeat' (first | (refine CondG.mk (fun h => ?_) (fun h => absurd h (by decide +kernel)); clear h; conv => whnf) | (refine CondG.mk (fun h => absurd h (by decide +kernel)) (fun h => ?_); clear h; conv => whnf) | (refine Split.mk (fun h => ?_) (fun h => absurd h (by decide +kernel)); clear h; conv => whnf) | (refine Split.mk (fun h => absurd h (by decide +kernel)) (fun h => ?_); clear h; conv => whnf) | (refine CallX.mk _ _ (by first | exact webHop_c | exact webNext_c) ?_; conv => whnf) | (refine CallG.mk _ _ (by first | exact webHop_c | exact webNext_c) ?_; conv => whnf) | (refine Ask.mk (by first | decide | (unfold roomOK; decide)) ?_; conv => whnf) | (refine AppG.mk (by first | decide | (unfold roomOK; decide)) ?_; conv => whnf) | (refine SliceG.fr ?_; conv => whnf) | (refine BuildG.fr ?_; conv => whnf) | (refine IdxG.mk _ ⟨by decide, by rfl⟩ ?_; conv => whnf) | (refine RowG.mk _ (by rfl) ?_; conv => whnf) | (refine look_no (by decide +kernel) ?_; conv => whnf) | (refine look_ix 0 (by rfl) (by decide +kernel) ?_; conv => whnf) | (refine look_ix 1 (by rfl) (by decide +kernel) ?_; conv => whnf) | (refine look_ix 2 (by rfl) (by decide +kernel) ?_; conv => whnf) | (refine upd_no (by decide +kernel) ?_; conv => whnf) | (refine LoopG.un 12 ?_; conv => whnf) | fail)
  all_goals first | exact .mk ⟨rfl, rfl⟩ | trace_state
set_option maxRecDepth 100000 in
set_option maxHeartbeats 4000000 in
theorem path_c : PCp 27 [.agg tinyL, .agg [cC, n1], .c cB] [] (.tup [.c (.row 0), .c (.int .i64 0)]) [.row 190 4 [[cC, n1, cB, cA]]] := by
  refine fn_sound (mt := mts) tab_fits tab_mixed Tryz.func27 (by rfl) (by kernel_rfl) (by kernel_rfl) Tryz.results27 (Nat.le_of_ble_eq_true (by kernel_rfl)) ?_
  conv => whnf
  repeat' (first | (refine CondG.mk (fun h => ?_) (fun h => absurd h (by decide +kernel)); clear h; conv => whnf) | (refine CondG.mk (fun h => absurd h (by decide +kernel)) (fun h => ?_); clear h; conv => whnf) | (refine Split.mk (fun h => ?_) (fun h => absurd h (by decide +kernel)); clear h; conv => whnf) | (refine Split.mk (fun h => absurd h (by decide +kernel)) (fun h => ?_); clear h; conv => whnf) | (refine CallX.mk _ _ (by first | exact endOf_c | exact webAt_c cB (.inr rfl) | exact webPath_c) ?_; conv => whnf) | (refine CallG.mk _ _ (by first | exact endOf_c | exact webAt_c cB (.inr rfl) | exact webPath_c) ?_; conv => whnf) | (refine Ask.mk (by first | decide | (unfold roomOK; decide)) ?_; conv => whnf) | (refine AppG.mk (by first | decide | (unfold roomOK; decide)) ?_; conv => whnf) | (refine SliceG.fr ?_; conv => whnf) | (refine BuildG.fr ?_; conv => whnf) | (refine IdxG.mk _ ⟨by decide, by rfl⟩ ?_; conv => whnf) | (refine RowG.mk _ (by rfl) ?_; conv => whnf) | (refine look_no (by decide +kernel) ?_; conv => whnf) | (refine look_ix 0 (by rfl) (by decide +kernel) ?_; conv => whnf) | (refine look_ix 1 (by rfl) (by decide +kernel) ?_; conv => whnf) | (refine look_ix 2 (by rfl) (by decide +kernel) ?_; conv => whnf) | (refine upd_no (by decide +kernel) ?_; conv => whnf) | (refine LoopG.un 12 ?_; conv => whnf) | fail)
  all_goals first | exact .mk ⟨rfl, rfl⟩ | trace_state
end Go.Proofs.YthdaejnepengeaaGreatDoor

/- A trace of one step, by constants. -/
namespace Go.Proofs.YthdaejnepengeaaGreatDoor
set_option linter.unusedVariables false
set_option linter.unusedSimpArgs false
open Abs

abbrev trP : V := .lst 1 [[.int .i64 10], [.int .i64 10], [.int .i64 4], [.int .i64 4]]
abbrev trR : List V := [.int .i64 5, .int .i64 2, .int .i64 3, .int .i64 0, .int .i64 1]
set_option maxRecDepth 100000 in
set_option maxHeartbeats 4000000 in
theorem isReading_c (n : Int) (h : -10000 ≤ n ∧ n ≤ 10000) : PCp 141 [.c (.int .i64 n)] [] (.c (.bool true)) [] := by
  refine fn_sound (mt := mts) tab_fits tab_mixed Tryz.func141 (by rfl) (by kernel_rfl) (by kernel_rfl) Tryz.results141 (Nat.le_of_ble_eq_true (by kernel_rfl)) ?_
  conv => whnf
  repeat' (first | ((first | refine Split.mk (fun h => ?_) (fun h => ?_) | refine CondG.mk (fun h => ?_) (fun h => ?_)) <;> (try simp only [decide_eq_true_eq, decide_eq_false_iff_not, Bool.not_eq_true', Bool.not_eq_false', beq_iff_eq, beq_eq_false_iff_ne, bne_iff_ne, bne_eq_false_iff_eq] at h) <;> (first | (exfalso; first | omega | exact h trivial) | (conv => whnf))) | (refine CallX.mk _ _ (by first | exact bOut_pc _ _ _) ?_; conv => whnf) | (refine CallG.mk _ _ (by first | exact bOut_pc _ _ _) ?_; conv => whnf) | (refine Ask.mk (by first | omega | (unfold roomOK; simp [cutRows]; done) | (unfold roomOK; simp [cutRows]; omega) | (simp [cutRows]; done) | (simp [cutRows]; omega)) ?_; conv => whnf) | (refine AskV.mk (by first | omega | (unfold roomOK; simp [cutRows]; done) | (unfold roomOK; simp [cutRows]; omega) | (simp [cutRows]; done) | (simp [cutRows]; omega)) ?_; conv => whnf) | (refine AppG.mk (by first | omega | (unfold roomOK; simp [cutRows]; done) | (unfold roomOK; simp [cutRows]; omega) | (simp [cutRows]; done) | (simp [cutRows]; omega)) ?_; conv => whnf) | (refine SliceG.fr ?_; conv => whnf) | (refine BuildG.fr ?_; conv => whnf) | (refine idx_at _ (by with_reducible rfl) (by first | assumption | omega) ?_; conv => whnf) | ((with_reducible refine row_map (by first | assumption | omega) ?_); conv => whnf) | ((with_reducible refine row_set (by first | assumption | omega | (simp only [List.length_set]; omega) | (simp; omega)) ?_); conv => whnf) | fail)
  exact finb (by simp; omega)
set_option maxRecDepth 100000 in
set_option maxHeartbeats 4000000 in
theorem checkTrace_c : PCp 110 [.c trP] [] (.c (.int .i64 0)) [] := by
  refine fn_sound (mt := mts) tab_fits tab_mixed Tryz.func110 (by rfl) (by kernel_rfl) (by kernel_rfl) Tryz.results110 (Nat.le_of_ble_eq_true (by kernel_rfl)) ?_
  conv => whnf
  repeat' (first | (refine CondG.mk (fun h => ?_) (fun h => absurd h (by decide +kernel)); clear h; conv => whnf) | (refine CondG.mk (fun h => absurd h (by decide +kernel)) (fun h => ?_); clear h; conv => whnf) | (refine Split.mk (fun h => ?_) (fun h => absurd h (by decide +kernel)); clear h; conv => whnf) | (refine Split.mk (fun h => absurd h (by decide +kernel)) (fun h => ?_); clear h; conv => whnf) | (refine CallX.mk _ _ (by first | exact isReading_c _ (by decide)) ?_; conv => whnf) | (refine CallG.mk _ _ (by first | exact isReading_c _ (by decide)) ?_; conv => whnf) | (refine Ask.mk (by first | decide | (unfold roomOK; decide)) ?_; conv => whnf) | (refine AppG.mk (by first | decide | (unfold roomOK; decide)) ?_; conv => whnf) | (refine SliceG.fr ?_; conv => whnf) | (refine BuildG.fr ?_; conv => whnf) | (refine IdxG.mk _ ⟨by decide, by rfl⟩ ?_; conv => whnf) | (refine RowG.mk _ (by rfl) ?_; conv => whnf) | (refine look_no (by decide +kernel) ?_; conv => whnf) | (refine look_ix 0 (by rfl) (by decide +kernel) ?_; conv => whnf) | (refine look_ix 1 (by rfl) (by decide +kernel) ?_; conv => whnf) | (refine look_ix 2 (by rfl) (by decide +kernel) ?_; conv => whnf) | (refine upd_no (by decide +kernel) ?_; conv => whnf) | (refine LoopG.un 12 ?_; conv => whnf) | fail)
  all_goals first | exact .mk ⟨rfl, rfl⟩ | trace_state
theorem sboolT {a b : Bool} (h : a = b) : oneOf [S.c (.bool a)] = S.c (.bool b) := by rw [h]; rfl
set_option maxRecDepth 100000 in
set_option maxHeartbeats 4000000 in
theorem bLowest_c : PCp 142 [.agg [.int .i64 0, .int .i64 1]] [] (.c (.bool true)) [] := by
  refine fn_sound (mt := mts) tab_fits tab_mixed Tryz.func142 (by rfl) (by kernel_rfl) (by kernel_rfl) Tryz.results142 (Nat.le_of_ble_eq_true (by kernel_rfl)) ?_
  conv => whnf
  repeat' (first | (refine CondG.mk (fun h => ?_) (fun h => absurd h (by decide +kernel)); clear h; conv => whnf) | (refine CondG.mk (fun h => absurd h (by decide +kernel)) (fun h => ?_); clear h; conv => whnf) | (refine Split.mk (fun h => ?_) (fun h => absurd h (by decide +kernel)); clear h; conv => whnf) | (refine Split.mk (fun h => absurd h (by decide +kernel)) (fun h => ?_); clear h; conv => whnf) | (refine Ask.mk (by first | decide | (unfold roomOK; decide)) ?_; conv => whnf) | (refine AppG.mk (by first | decide | (unfold roomOK; decide)) ?_; conv => whnf) | (refine SliceG.fr ?_; conv => whnf) | (refine BuildG.fr ?_; conv => whnf) | (refine IdxG.mk _ ⟨by decide, by rfl⟩ ?_; conv => whnf) | (refine RowG.mk _ (by rfl) ?_; conv => whnf) | (refine look_no (by decide +kernel) ?_; conv => whnf) | (refine look_ix 0 (by rfl) (by decide +kernel) ?_; conv => whnf) | (refine look_ix 1 (by rfl) (by decide +kernel) ?_; conv => whnf) | (refine look_ix 2 (by rfl) (by decide +kernel) ?_; conv => whnf) | (refine upd_no (by decide +kernel) ?_; conv => whnf) | (refine LoopG.un 12 ?_; conv => whnf) | fail)
  all_goals first | exact .mk ⟨rfl, rfl⟩ | exact .mk ⟨sboolT (by decide +kernel), rfl⟩ | trace_state
set_option maxRecDepth 100000 in
set_option maxHeartbeats 4000000 in
theorem checkRules_c : PCp 111 [.agg trR] [] (.c (.int .i64 0)) [] := by
  refine fn_sound (mt := mts) tab_fits tab_mixed Tryz.func111 (by rfl) (by kernel_rfl) (by kernel_rfl) Tryz.results111 (Nat.le_of_ble_eq_true (by kernel_rfl)) ?_
  conv => whnf
  repeat' (first | (refine CondG.mk (fun h => ?_) (fun h => absurd h (by decide +kernel)); clear h; conv => whnf) | (refine CondG.mk (fun h => absurd h (by decide +kernel)) (fun h => ?_); clear h; conv => whnf) | (refine Split.mk (fun h => ?_) (fun h => absurd h (by decide +kernel)); clear h; conv => whnf) | (refine Split.mk (fun h => absurd h (by decide +kernel)) (fun h => ?_); clear h; conv => whnf) | (refine CallX.mk _ _ (by first | exact bOut_pc _ _ _ | exact bLowest_c) ?_; conv => whnf) | (refine CallG.mk _ _ (by first | exact bOut_pc _ _ _ | exact bLowest_c) ?_; conv => whnf) | (refine Ask.mk (by first | decide | (unfold roomOK; decide)) ?_; conv => whnf) | (refine AppG.mk (by first | decide | (unfold roomOK; decide)) ?_; conv => whnf) | (refine SliceG.fr ?_; conv => whnf) | (refine BuildG.fr ?_; conv => whnf) | (refine IdxG.mk _ ⟨by decide, by rfl⟩ ?_; conv => whnf) | (refine RowG.mk _ (by rfl) ?_; conv => whnf) | (refine look_no (by decide +kernel) ?_; conv => whnf) | (refine look_ix 0 (by rfl) (by decide +kernel) ?_; conv => whnf) | (refine look_ix 1 (by rfl) (by decide +kernel) ?_; conv => whnf) | (refine look_ix 2 (by rfl) (by decide +kernel) ?_; conv => whnf) | (refine upd_no (by decide +kernel) ?_; conv => whnf) | (refine LoopG.un 12 ?_; conv => whnf) | fail)
  all_goals first | exact .mk ⟨rfl, rfl⟩ | trace_state
set_option maxRecDepth 100000 in
set_option maxHeartbeats 4000000 in
theorem traceFault_c : PCp 61 [.c trP, .agg trR] [] (.c (.int .i64 0)) [] := by
  refine fn_sound (mt := mts) tab_fits tab_mixed Tryz.func61 (by rfl) (by kernel_rfl) (by kernel_rfl) Tryz.results61 (Nat.le_of_ble_eq_true (by kernel_rfl)) ?_
  conv => whnf
  repeat' (first | (refine CondG.mk (fun h => ?_) (fun h => absurd h (by decide +kernel)); clear h; conv => whnf) | (refine CondG.mk (fun h => absurd h (by decide +kernel)) (fun h => ?_); clear h; conv => whnf) | (refine Split.mk (fun h => ?_) (fun h => absurd h (by decide +kernel)); clear h; conv => whnf) | (refine Split.mk (fun h => absurd h (by decide +kernel)) (fun h => ?_); clear h; conv => whnf) | (refine CallX.mk _ _ (by first | exact checkTrace_c | exact checkRules_c | exact first_pc [0, 0] (by decide)) ?_; conv => whnf) | (refine CallG.mk _ _ (by first | exact checkTrace_c | exact checkRules_c | exact first_pc [0, 0] (by decide)) ?_; conv => whnf) | (refine Ask.mk (by first | decide | (unfold roomOK; decide)) ?_; conv => whnf) | (refine AppG.mk (by first | decide | (unfold roomOK; decide)) ?_; conv => whnf) | (refine SliceG.fr ?_; conv => whnf) | (refine BuildG.fr ?_; conv => whnf) | (refine IdxG.mk _ ⟨by decide, by rfl⟩ ?_; conv => whnf) | (refine RowG.mk _ (by rfl) ?_; conv => whnf) | (refine look_no (by decide +kernel) ?_; conv => whnf) | (refine look_ix 0 (by rfl) (by decide +kernel) ?_; conv => whnf) | (refine look_ix 1 (by rfl) (by decide +kernel) ?_; conv => whnf) | (refine look_ix 2 (by rfl) (by decide +kernel) ?_; conv => whnf) | (refine upd_no (by decide +kernel) ?_; conv => whnf) | (refine LoopG.un 12 ?_; conv => whnf) | fail)
  all_goals first | exact .mk ⟨rfl, rfl⟩ | trace_state
set_option maxRecDepth 100000 in
set_option maxHeartbeats 4000000 in
theorem sum_c1 : PCp 112 [.c (.lst 1 [[.int .i64 10], [.int .i64 10]])] [] (.c (.int .i64 20)) [] := by
  refine fn_sound (mt := mts) tab_fits tab_mixed Tryz.func112 (by rfl) (by kernel_rfl) (by kernel_rfl) Tryz.results112 (Nat.le_of_ble_eq_true (by kernel_rfl)) ?_
  conv => whnf
  repeat' (first | (refine CondG.mk (fun h => ?_) (fun h => absurd h (by decide +kernel)); clear h; conv => whnf) | (refine CondG.mk (fun h => absurd h (by decide +kernel)) (fun h => ?_); clear h; conv => whnf) | (refine Split.mk (fun h => ?_) (fun h => absurd h (by decide +kernel)); clear h; conv => whnf) | (refine Split.mk (fun h => absurd h (by decide +kernel)) (fun h => ?_); clear h; conv => whnf) | (refine Ask.mk (by first | decide | (unfold roomOK; decide)) ?_; conv => whnf) | (refine AppG.mk (by first | decide | (unfold roomOK; decide)) ?_; conv => whnf) | (refine SliceG.fr ?_; conv => whnf) | (refine BuildG.fr ?_; conv => whnf) | (refine IdxG.mk _ ⟨by decide, by rfl⟩ ?_; conv => whnf) | (refine RowG.mk _ (by rfl) ?_; conv => whnf) | (refine look_no (by decide +kernel) ?_; conv => whnf) | (refine look_ix 0 (by rfl) (by decide +kernel) ?_; conv => whnf) | (refine look_ix 1 (by rfl) (by decide +kernel) ?_; conv => whnf) | (refine look_ix 2 (by rfl) (by decide +kernel) ?_; conv => whnf) | (refine upd_no (by decide +kernel) ?_; conv => whnf) | (refine LoopG.un 12 ?_; conv => whnf) | fail)
  all_goals first | exact .mk ⟨rfl, rfl⟩ | trace_state
set_option maxRecDepth 100000 in
set_option maxHeartbeats 4000000 in
theorem sum_c2 : PCp 112 [.c (.lst 1 [[.int .i64 4], [.int .i64 4]])] [] (.c (.int .i64 8)) [] := by
  refine fn_sound (mt := mts) tab_fits tab_mixed Tryz.func112 (by rfl) (by kernel_rfl) (by kernel_rfl) Tryz.results112 (Nat.le_of_ble_eq_true (by kernel_rfl)) ?_
  conv => whnf
  repeat' (first | (refine CondG.mk (fun h => ?_) (fun h => absurd h (by decide +kernel)); clear h; conv => whnf) | (refine CondG.mk (fun h => absurd h (by decide +kernel)) (fun h => ?_); clear h; conv => whnf) | (refine Split.mk (fun h => ?_) (fun h => absurd h (by decide +kernel)); clear h; conv => whnf) | (refine Split.mk (fun h => absurd h (by decide +kernel)) (fun h => ?_); clear h; conv => whnf) | (refine Ask.mk (by first | decide | (unfold roomOK; decide)) ?_; conv => whnf) | (refine AppG.mk (by first | decide | (unfold roomOK; decide)) ?_; conv => whnf) | (refine SliceG.fr ?_; conv => whnf) | (refine BuildG.fr ?_; conv => whnf) | (refine IdxG.mk _ ⟨by decide, by rfl⟩ ?_; conv => whnf) | (refine RowG.mk _ (by rfl) ?_; conv => whnf) | (refine look_no (by decide +kernel) ?_; conv => whnf) | (refine look_ix 0 (by rfl) (by decide +kernel) ?_; conv => whnf) | (refine look_ix 1 (by rfl) (by decide +kernel) ?_; conv => whnf) | (refine look_ix 2 (by rfl) (by decide +kernel) ?_; conv => whnf) | (refine upd_no (by decide +kernel) ?_; conv => whnf) | (refine LoopG.un 12 ?_; conv => whnf) | fail)
  all_goals first | exact .mk ⟨rfl, rfl⟩ | trace_state
set_option maxRecDepth 100000 in
set_option maxHeartbeats 4000000 in
theorem fraction_c : PCp 113 [.c (.int .i64 12), .c (.int .i64 2)] [] (.agg [.int .i64 6, .int .i64 1]) [] := by
  have g : PCp 143 [.c (.int .i64 12), .c (.int .i64 2)] [] (.c (.int .i64 2)) [] := by
    refine fn_sound (mt := mts) tab_fits tab_mixed Tryz.func143 (by rfl) (by kernel_rfl) (by kernel_rfl) Tryz.results143 (Nat.le_of_ble_eq_true (by kernel_rfl)) ?_
    conv => whnf
    repeat' (first | (refine CondG.mk (fun h => ?_) (fun h => absurd h (by decide +kernel)); clear h; conv => whnf) | (refine CondG.mk (fun h => absurd h (by decide +kernel)) (fun h => ?_); clear h; conv => whnf) | (refine Split.mk (fun h => ?_) (fun h => absurd h (by decide +kernel)); clear h; conv => whnf) | (refine Split.mk (fun h => absurd h (by decide +kernel)) (fun h => ?_); clear h; conv => whnf) | (refine Ask.mk (by first | decide | (unfold roomOK; decide)) ?_; conv => whnf) | (refine AppG.mk (by first | decide | (unfold roomOK; decide)) ?_; conv => whnf) | (refine SliceG.fr ?_; conv => whnf) | (refine BuildG.fr ?_; conv => whnf) | (refine IdxG.mk _ ⟨by decide, by rfl⟩ ?_; conv => whnf) | (refine RowG.mk _ (by rfl) ?_; conv => whnf) | (refine look_no (by decide +kernel) ?_; conv => whnf) | (refine look_ix 0 (by rfl) (by decide +kernel) ?_; conv => whnf) | (refine look_ix 1 (by rfl) (by decide +kernel) ?_; conv => whnf) | (refine look_ix 2 (by rfl) (by decide +kernel) ?_; conv => whnf) | (refine upd_no (by decide +kernel) ?_; conv => whnf) | (refine LoopG.un 12 ?_; conv => whnf) | fail)
    all_goals first | exact .mk ⟨rfl, rfl⟩ | trace_state
  refine fn_sound (mt := mts) tab_fits tab_mixed Tryz.func113 (by rfl) (by kernel_rfl) (by kernel_rfl) Tryz.results113 (Nat.le_of_ble_eq_true (by kernel_rfl)) ?_
  conv => whnf
  repeat' (first | (refine CondG.mk (fun h => ?_) (fun h => absurd h (by decide +kernel)); clear h; conv => whnf) | (refine CondG.mk (fun h => absurd h (by decide +kernel)) (fun h => ?_); clear h; conv => whnf) | (refine Split.mk (fun h => ?_) (fun h => absurd h (by decide +kernel)); clear h; conv => whnf) | (refine Split.mk (fun h => absurd h (by decide +kernel)) (fun h => ?_); clear h; conv => whnf) | (refine CallX.mk _ _ (by first | exact g) ?_; conv => whnf) | (refine CallG.mk _ _ (by first | exact g) ?_; conv => whnf) | (refine Ask.mk (by first | decide | (unfold roomOK; decide)) ?_; conv => whnf) | (refine AppG.mk (by first | decide | (unfold roomOK; decide)) ?_; conv => whnf) | (refine SliceG.fr ?_; conv => whnf) | (refine BuildG.fr ?_; conv => whnf) | (refine IdxG.mk _ ⟨by decide, by rfl⟩ ?_; conv => whnf) | (refine RowG.mk _ (by rfl) ?_; conv => whnf) | (refine look_no (by decide +kernel) ?_; conv => whnf) | (refine look_ix 0 (by rfl) (by decide +kernel) ?_; conv => whnf) | (refine look_ix 1 (by rfl) (by decide +kernel) ?_; conv => whnf) | (refine look_ix 2 (by rfl) (by decide +kernel) ?_; conv => whnf) | (refine upd_no (by decide +kernel) ?_; conv => whnf) | (refine LoopG.un 12 ?_; conv => whnf) | fail)
  all_goals first | exact .mk ⟨rfl, rfl⟩ | trace_state
set_option maxRecDepth 100000 in
set_option maxHeartbeats 4000000 in
theorem excess_c : PCp 62 [.c trP, .agg trR] [] (.c (.row 0)) [.row 81 2 [[.int .i64 6, .int .i64 1]]] := by
  refine fn_sound (mt := mts) tab_fits tab_mixed Tryz.func62 (by rfl) (by kernel_rfl) (by kernel_rfl) Tryz.results62 (Nat.le_of_ble_eq_true (by kernel_rfl)) ?_
  conv => whnf
  repeat' (first | (refine CondG.mk (fun h => ?_) (fun h => absurd h (by decide +kernel)); clear h; conv => whnf) | (refine CondG.mk (fun h => absurd h (by decide +kernel)) (fun h => ?_); clear h; conv => whnf) | (refine Split.mk (fun h => ?_) (fun h => absurd h (by decide +kernel)); clear h; conv => whnf) | (refine Split.mk (fun h => absurd h (by decide +kernel)) (fun h => ?_); clear h; conv => whnf) | (refine CallX.mk _ _ (by first | exact sum_c1 | exact sum_c2 | exact fraction_c) ?_; conv => whnf) | (refine CallG.mk _ _ (by first | exact sum_c1 | exact sum_c2 | exact fraction_c) ?_; conv => whnf) | (refine Ask.mk (by first | decide | (unfold roomOK; decide)) ?_; conv => whnf) | (refine AppG.mk (by first | decide | (unfold roomOK; decide)) ?_; conv => whnf) | (refine SliceG.fr ?_; conv => whnf) | (refine BuildG.fr ?_; conv => whnf) | (refine IdxG.mk _ ⟨by decide, by rfl⟩ ?_; conv => whnf) | (refine RowG.mk _ (by rfl) ?_; conv => whnf) | (refine look_no (by decide +kernel) ?_; conv => whnf) | (refine look_ix 0 (by rfl) (by decide +kernel) ?_; conv => whnf) | (refine look_ix 1 (by rfl) (by decide +kernel) ?_; conv => whnf) | (refine look_ix 2 (by rfl) (by decide +kernel) ?_; conv => whnf) | (refine upd_no (by decide +kernel) ?_; conv => whnf) | (refine LoopG.un 12 ?_; conv => whnf) | fail)
  all_goals first | exact .mk ⟨rfl, rfl⟩ | trace_state
set_option maxRecDepth 100000 in
set_option maxHeartbeats 4000000 in
theorem down_c : PCp 64 [.c (.int .i64 13), .c (.int .i64 2)] [] (.c (.int .i64 6)) [] := by
  refine fn_sound (mt := mts) tab_fits tab_mixed Tryz.func64 (by rfl) (by kernel_rfl) (by kernel_rfl) Tryz.results64 (Nat.le_of_ble_eq_true (by kernel_rfl)) ?_
  conv => whnf
  repeat' (first | (refine CondG.mk (fun h => ?_) (fun h => absurd h (by decide +kernel)); clear h; conv => whnf) | (refine CondG.mk (fun h => absurd h (by decide +kernel)) (fun h => ?_); clear h; conv => whnf) | (refine Split.mk (fun h => ?_) (fun h => absurd h (by decide +kernel)); clear h; conv => whnf) | (refine Split.mk (fun h => absurd h (by decide +kernel)) (fun h => ?_); clear h; conv => whnf) | (refine Ask.mk (by first | decide | (unfold roomOK; decide)) ?_; conv => whnf) | (refine AppG.mk (by first | decide | (unfold roomOK; decide)) ?_; conv => whnf) | (refine SliceG.fr ?_; conv => whnf) | (refine BuildG.fr ?_; conv => whnf) | (refine IdxG.mk _ ⟨by decide, by rfl⟩ ?_; conv => whnf) | (refine RowG.mk _ (by rfl) ?_; conv => whnf) | (refine look_no (by decide +kernel) ?_; conv => whnf) | (refine look_ix 0 (by rfl) (by decide +kernel) ?_; conv => whnf) | (refine look_ix 1 (by rfl) (by decide +kernel) ?_; conv => whnf) | (refine look_ix 2 (by rfl) (by decide +kernel) ?_; conv => whnf) | (refine upd_no (by decide +kernel) ?_; conv => whnf) | (refine LoopG.un 12 ?_; conv => whnf) | fail)
  all_goals first | exact .mk ⟨rfl, rfl⟩ | trace_state
/-! the run that goes on is told -/
set_option maxRecDepth 100000 in
set_option maxHeartbeats 4000000 in
theorem flush_c : PCp 63 [.c (.ptr 0 0), .c (.ptr 1 0), .c (.ptr 3 0), .c (.ptr 4 0)] [.box [.int .i64 0], .box [.row 2], .row 81 2 [[.int .i64 6, .int .i64 1]], .box [.nils], .box trR] (.tup []) [.box [.int .i64 (-1)], .box [.row 2], .row 81 2 [[.int .i64 6, .int .i64 1]], .box [.row 5], .box trR, .row 133 2 [[.int .i64 10, .int .i64 6]]] := by
  refine fn_sound (mt := mts) tab_fits tab_mixed Tryz.func63 (by rfl) (by kernel_rfl) (by kernel_rfl) Tryz.results63 (Nat.le_of_ble_eq_true (by kernel_rfl)) ?_
  conv => whnf
  repeat' (first | (refine CondG.mk (fun h => ?_) (fun h => absurd h (by decide +kernel)); clear h; conv => whnf) | (refine CondG.mk (fun h => absurd h (by decide +kernel)) (fun h => ?_); clear h; conv => whnf) | (refine Split.mk (fun h => ?_) (fun h => absurd h (by decide +kernel)); clear h; conv => whnf) | (refine Split.mk (fun h => absurd h (by decide +kernel)) (fun h => ?_); clear h; conv => whnf) | (refine CallX.mk _ _ (by first | exact down_c) ?_; conv => whnf) | (refine CallG.mk _ _ (by first | exact down_c) ?_; conv => whnf) | (refine Ask.mk (by first | decide | (unfold roomOK; decide)) ?_; conv => whnf) | (refine AppG.mk (by first | decide | (unfold roomOK; decide)) ?_; conv => whnf) | (refine SliceG.fr ?_; conv => whnf) | (refine BuildG.fr ?_; conv => whnf) | (refine IdxG.mk _ ⟨by decide, by rfl⟩ ?_; conv => whnf) | (refine RowG.mk _ (by rfl) ?_; conv => whnf) | (refine look_no (by decide +kernel) ?_; conv => whnf) | (refine look_ix 0 (by rfl) (by decide +kernel) ?_; conv => whnf) | (refine look_ix 1 (by rfl) (by decide +kernel) ?_; conv => whnf) | (refine look_ix 2 (by rfl) (by decide +kernel) ?_; conv => whnf) | (refine upd_no (by decide +kernel) ?_; conv => whnf) | (refine LoopG.un 12 ?_; conv => whnf) | fail)
  all_goals first | exact .mk ⟨rfl, rfl⟩ | trace_state
set_option maxRecDepth 100000 in
set_option maxHeartbeats 4000000 in
theorem detected_c : PCp 28 [.c trP, .agg trR] [] (.tup [.c (.row 0), .c (.int .i64 0)]) [.row 133 2 [[.int .i64 10, .int .i64 6]]] := by
  refine fn_sound (mt := mts) tab_fits tab_mixed Tryz.func28 (by rfl) (by kernel_rfl) (by kernel_rfl) Tryz.results28 (Nat.le_of_ble_eq_true (by kernel_rfl)) ?_
  conv => whnf
  repeat' (first | (refine CondG.mk (fun h => ?_) (fun h => absurd h (by decide +kernel)); clear h; conv => whnf) | (refine CondG.mk (fun h => absurd h (by decide +kernel)) (fun h => ?_); clear h; conv => whnf) | (refine Split.mk (fun h => ?_) (fun h => absurd h (by decide +kernel)); clear h; conv => whnf) | (refine Split.mk (fun h => absurd h (by decide +kernel)) (fun h => ?_); clear h; conv => whnf) | (refine CallX.mk _ _ (by first | exact traceFault_c | exact excess_c | exact flush_c) ?_; conv => whnf) | (refine CallG.mk _ _ (by first | exact traceFault_c | exact excess_c | exact flush_c) ?_; conv => whnf) | (refine Ask.mk (by first | decide | (unfold roomOK; decide)) ?_; conv => whnf) | (refine AppG.mk (by first | decide | (unfold roomOK; decide)) ?_; conv => whnf) | (refine SliceG.fr ?_; conv => whnf) | (refine BuildG.fr ?_; conv => whnf) | (refine IdxG.mk _ ⟨by decide, by rfl⟩ ?_; conv => whnf) | (refine RowG.mk _ (by rfl) ?_; conv => whnf) | (refine look_no (by decide +kernel) ?_; conv => whnf) | (refine look_ix 0 (by rfl) (by decide +kernel) ?_; conv => whnf) | (refine look_ix 1 (by rfl) (by decide +kernel) ?_; conv => whnf) | (refine look_ix 2 (by rfl) (by decide +kernel) ?_; conv => whnf) | (refine upd_no (by decide +kernel) ?_; conv => whnf) | (refine LoopG.un 12 ?_; conv => whnf) | fail)
  all_goals first | exact .mk ⟨rfl, rfl⟩ | trace_state
end Go.Proofs.YthdaejnepengeaaGreatDoor

/- Repairs are ordered. -/
namespace Go.Proofs.YthdaejnepengeaaGreatDoor
set_option linter.unusedVariables false
set_option linter.unusedSimpArgs false
open Abs

abbrev MN := SM ByteArray Int
def fl (left : List ByteArray) (x : Sv) : List ByteArray := left.filter fun k => decide (k ∈ x.els)
def gmS (left : List ByteArray) (m : MN) (x : Sv) : MN := match fl left x with | [e] => m.put e (IntKind.i64.wrap ((m.get e).getD 0 + x.cust)) | _ => m
def gm (s : List Sv) (left : List ByteArray) : MN := s.foldl (gmS left) SM.nil
end Go.Proofs.YthdaejnepengeaaGreatDoor

/- Repairs by the document. -/
namespace Go.Proofs.YthdaejnepengeaaGreatDoor
set_option linter.unusedVariables false
set_option linter.unusedSimpArgs false
open Abs

end Go.Proofs.YthdaejnepengeaaGreatDoor

/- Acts are made. -/
namespace Go.Proofs.YthdaejnepengeaaGreatDoor
set_option linter.unusedVariables false
set_option linter.unusedSimpArgs false
open Abs

end Go.Proofs.YthdaejnepengeaaGreatDoor

/- A store, as the program follows it. -/
namespace Go.Proofs.YthdaejnepengeaaGreatDoor
set_option linter.unusedVariables false
set_option linter.unusedSimpArgs false
open Abs

structure Sto where
  d : SM ByteArray (ByteArray × Int)
  k : SM ByteArray ByteArray
structure Sto.ok (s : Sto) : Prop where
  d : s.d.ok
  k : s.k.ok
end Go.Proofs.YthdaejnepengeaaGreatDoor

/- What was used, as the program counts it. -/
namespace Go.Proofs.YthdaejnepengeaaGreatDoor
set_option linter.unusedVariables false
set_option linter.unusedSimpArgs false
open Abs

end Go.Proofs.YthdaejnepengeaaGreatDoor

/- The least stock, as the program finds it. -/
namespace Go.Proofs.YthdaejnepengeaaGreatDoor
set_option linter.unusedVariables false
set_option linter.unusedSimpArgs false
open Abs

end Go.Proofs.YthdaejnepengeaaGreatDoor

/- The least stock, as the program finds it: all acts. -/
namespace Go.Proofs.YthdaejnepengeaaGreatDoor
set_option linter.unusedVariables false
set_option linter.unusedSimpArgs false
open Abs

end Go.Proofs.YthdaejnepengeaaGreatDoor

/- The document's store. -/
namespace Go.Proofs.YthdaejnepengeaaGreatDoor
set_option linter.unusedVariables false
set_option linter.unusedSimpArgs false
open Abs

structure Rto where
  l : SM ByteArray Int
  k : SM ByteArray ByteArray
structure Rto.ok (s : Rto) : Prop where
  l : s.l.ok
  k : s.k.ok
end Go.Proofs.YthdaejnepengeaaGreatDoor

/- What was used, by the document. -/
namespace Go.Proofs.YthdaejnepengeaaGreatDoor
set_option linter.unusedVariables false
set_option linter.unusedSimpArgs false
open Abs

end Go.Proofs.YthdaejnepengeaaGreatDoor

/- Stock at a moment, by the document. -/
namespace Go.Proofs.YthdaejnepengeaaGreatDoor
set_option linter.unusedVariables false
set_option linter.unusedSimpArgs false
open Abs

end Go.Proofs.YthdaejnepengeaaGreatDoor

/- Stock at a moment, by the document: the list. -/
namespace Go.Proofs.YthdaejnepengeaaGreatDoor
set_option linter.unusedVariables false
set_option linter.unusedSimpArgs false
open Abs

end Go.Proofs.YthdaejnepengeaaGreatDoor

/- Errors of acts and windows, by the document. -/
namespace Go.Proofs.YthdaejnepengeaaGreatDoor
set_option linter.unusedVariables false
set_option linter.unusedSimpArgs false
open Abs
end Go.Proofs.YthdaejnepengeaaGreatDoor

/- Comparisons, one behind another; sorting by insertion keeps the order of equal ones. -/
namespace Go.Proofs.YthdaejnepengeaaGreatDoor
set_option linter.unusedVariables false
set_option linter.unusedSimpArgs false
open Abs

/-- a comparison -/
structure Cmp {α : Type} (c : α → α → Int) : Prop where
  anti : ∀ a b, c b a = - c a b
  trans : ∀ a b d, c a b ≤ 0 → c b d ≤ 0 → c a d ≤ 0
theorem Cmp.lt {α : Type} {c : α → α → Int} (h : Cmp c) {a b d : α} (h1 : c a b ≤ 0) (h2 : c b d ≤ 0) (h3 : c a b < 0 ∨ c b d < 0) : c a d < 0 := by
  have h4 := h.trans a b d h1 h2
  rcases Int.lt_or_le (c a d) 0 with h5 | h5
  · exact h5
  · have a1 := h.anti a d
    have a2 := h.anti a b
    have a3 := h.anti b d
    rcases h3 with h3 | h3
    · have := h.trans b d a h2 (by omega); omega
    · have := h.trans d a b (by omega) h1; omega
theorem Cmp.swo {α : Type} {c : α → α → Int} (h : Cmp c) : SWOc c where
  irrefl x := by have := h.anti x x; omega
  trans x y z h1 h2 := h.lt (by omega) (by omega) (.inl h1)
  ntrans x y z h1 h2 := by
    have a1 := h.anti x y
    have a2 := h.anti y z
    have a3 := h.anti x z
    have := h.trans z y x (by omega) (by omega)
    omega
end Go.Proofs.YthdaejnepengeaaGreatDoor

/- What each element affects by itself: the plain part, and sorts. -/
namespace Go.Proofs.YthdaejnepengeaaGreatDoor
set_option linter.unusedVariables false
set_option linter.unusedSimpArgs false
open Abs

/-! elements and customers, one behind another -/
/-! how they are ordered -/
end Go.Proofs.YthdaejnepengeaaGreatDoor

/- What each element affects by itself: walked. -/
namespace Go.Proofs.YthdaejnepengeaaGreatDoor
set_option linter.unusedVariables false
set_option linter.unusedSimpArgs false
open Abs

/-! the program's -/
end Go.Proofs.YthdaejnepengeaaGreatDoor

/- What each element affects by itself, by the document; the law. -/
namespace Go.Proofs.YthdaejnepengeaaGreatDoor
set_option linter.unusedVariables false
set_option linter.unusedSimpArgs false
open Abs

end Go.Proofs.YthdaejnepengeaaGreatDoor

/- The law of repairs. -/
namespace Go.Proofs.YthdaejnepengeaaGreatDoor
set_option linter.unusedVariables false
set_option linter.unusedSimpArgs false
open Abs

end Go.Proofs.YthdaejnepengeaaGreatDoor

/- The packages do something. -/
namespace Go.Proofs.YthdaejnepengeaaGreatDoor
set_option linter.unusedVariables false
set_option linter.unusedSimpArgs false
open Abs

end Go.Proofs.YthdaejnepengeaaGreatDoor

/- The packages work: by constants. -/
namespace Go.Proofs.YthdaejnepengeaaGreatDoor
set_option linter.unusedVariables false
set_option linter.unusedSimpArgs false
open Abs

set_option maxRecDepth 100000 in
set_option maxHeartbeats 4000000 in
theorem webFibres_c : PCp 149 [.agg [cC, cA, cB, .int .i64 5, .int .i64 1]] [] (.c (.row 0)) [.row 76 2 [[cC, n1]]] := by
  refine fn_sound (mt := mts) tab_fits tab_mixed Tryz.func149 (by rfl) (by kernel_rfl) (by kernel_rfl) Tryz.results149 (Nat.le_of_ble_eq_true (by kernel_rfl)) ?_
  conv => whnf
  repeat' (first | (refine CondG.mk (fun h => ?_) (fun h => absurd h (by decide +kernel)); clear h; conv => whnf) | (refine CondG.mk (fun h => absurd h (by decide +kernel)) (fun h => ?_); clear h; conv => whnf) | (refine Split.mk (fun h => ?_) (fun h => absurd h (by decide +kernel)); clear h; conv => whnf) | (refine Split.mk (fun h => absurd h (by decide +kernel)) (fun h => ?_); clear h; conv => whnf) | (refine Ask.mk (by first | decide | (unfold roomOK; decide)) ?_; conv => whnf) | (refine AppG.mk (by first | decide | (unfold roomOK; decide)) ?_; conv => whnf) | (refine SliceG.fr ?_; conv => whnf) | (refine BuildG.fr ?_; conv => whnf) | (refine IdxG.mk _ ⟨by decide, by rfl⟩ ?_; conv => whnf) | (refine RowG.mk _ (by rfl) ?_; conv => whnf) | (refine look_no (by decide +kernel) ?_; conv => whnf) | (refine look_ix 0 (by rfl) (by decide +kernel) ?_; conv => whnf) | (refine look_ix 1 (by rfl) (by decide +kernel) ?_; conv => whnf) | (refine look_ix 2 (by rfl) (by decide +kernel) ?_; conv => whnf) | (refine upd_no (by decide +kernel) ?_; conv => whnf) | (refine LoopG.un 12 ?_; conv => whnf) | fail)
  all_goals first | exact .mk ⟨rfl, rfl⟩ | trace_state
set_option maxRecDepth 100000 in
set_option maxHeartbeats 4000000 in
theorem webEnds_c : PCp 118 [.c (.ptr 0 0), .c cB] webO (.c (.row 4)) (webO ++ [.row 76 2 [[cC, n1]]]) := by
  refine fn_sound (mt := mts) tab_fits tab_mixed Tryz.func118 (by rfl) (by kernel_rfl) (by kernel_rfl) Tryz.results118 (Nat.le_of_ble_eq_true (by kernel_rfl)) ?_
  conv => whnf
  repeat' (first | (refine CondG.mk (fun h => ?_) (fun h => absurd h (by decide +kernel)); clear h; conv => whnf) | (refine CondG.mk (fun h => absurd h (by decide +kernel)) (fun h => ?_); clear h; conv => whnf) | (refine Split.mk (fun h => ?_) (fun h => absurd h (by decide +kernel)); clear h; conv => whnf) | (refine Split.mk (fun h => absurd h (by decide +kernel)) (fun h => ?_); clear h; conv => whnf) | (refine CallX.mk _ _ (by first | exact webFibres_c | exact webAt_c cB (.inr rfl)) ?_; conv => whnf) | (refine CallG.mk _ _ (by first | exact webFibres_c | exact webAt_c cB (.inr rfl)) ?_; conv => whnf) | (refine Ask.mk (by first | decide | (unfold roomOK; decide)) ?_; conv => whnf) | (refine AppG.mk (by first | decide | (unfold roomOK; decide)) ?_; conv => whnf) | (refine SliceG.fr ?_; conv => whnf) | (refine BuildG.fr ?_; conv => whnf) | (refine IdxG.mk _ ⟨by decide, by rfl⟩ ?_; conv => whnf) | (refine RowG.mk _ (by rfl) ?_; conv => whnf) | (refine look_no (by decide +kernel) ?_; conv => whnf) | (refine look_ix 0 (by rfl) (by decide +kernel) ?_; conv => whnf) | (refine look_ix 1 (by rfl) (by decide +kernel) ?_; conv => whnf) | (refine look_ix 2 (by rfl) (by decide +kernel) ?_; conv => whnf) | (refine upd_no (by decide +kernel) ?_; conv => whnf) | (refine LoopG.un 12 ?_; conv => whnf) | fail)
  all_goals first | exact .mk ⟨rfl, rfl⟩ | trace_state
set_option maxRecDepth 100000 in
set_option maxHeartbeats 4000000 in
theorem webKind_c : PCp 119 [.c (.ptr 0 0), .c cA] webO (.c (.int .i64 1)) webO := by
  refine fn_sound (mt := mts) tab_fits tab_mixed Tryz.func119 (by rfl) (by kernel_rfl) (by kernel_rfl) Tryz.results119 (Nat.le_of_ble_eq_true (by kernel_rfl)) ?_
  conv => whnf
  repeat' (first | (refine CondG.mk (fun h => ?_) (fun h => absurd h (by decide +kernel)); clear h; conv => whnf) | (refine CondG.mk (fun h => absurd h (by decide +kernel)) (fun h => ?_); clear h; conv => whnf) | (refine Split.mk (fun h => ?_) (fun h => absurd h (by decide +kernel)); clear h; conv => whnf) | (refine Split.mk (fun h => absurd h (by decide +kernel)) (fun h => ?_); clear h; conv => whnf) | (refine Ask.mk (by first | decide | (unfold roomOK; decide)) ?_; conv => whnf) | (refine AppG.mk (by first | decide | (unfold roomOK; decide)) ?_; conv => whnf) | (refine SliceG.fr ?_; conv => whnf) | (refine BuildG.fr ?_; conv => whnf) | (refine IdxG.mk _ ⟨by decide, by rfl⟩ ?_; conv => whnf) | (refine RowG.mk _ (by rfl) ?_; conv => whnf) | (refine look_no (by decide +kernel) ?_; conv => whnf) | (refine look_ix 0 (by rfl) (by decide +kernel) ?_; conv => whnf) | (refine look_ix 1 (by rfl) (by decide +kernel) ?_; conv => whnf) | (refine look_ix 2 (by rfl) (by decide +kernel) ?_; conv => whnf) | (refine upd_no (by decide +kernel) ?_; conv => whnf) | (refine LoopG.un 12 ?_; conv => whnf) | fail)
  all_goals first | exact .mk ⟨rfl, rfl⟩ | trace_state
set_option maxRecDepth 100000 in
set_option maxHeartbeats 4000000 in
theorem webLast_c : PCp 120 [.c (.lst 4 [[cC, n1, cB, cA]])] [] (.agg [cA, cC, n1]) [] := by
  refine fn_sound (mt := mts) tab_fits tab_mixed Tryz.func120 (by rfl) (by kernel_rfl) (by kernel_rfl) Tryz.results120 (Nat.le_of_ble_eq_true (by kernel_rfl)) ?_
  conv => whnf
  repeat' (first | (refine CondG.mk (fun h => ?_) (fun h => absurd h (by decide +kernel)); clear h; conv => whnf) | (refine CondG.mk (fun h => absurd h (by decide +kernel)) (fun h => ?_); clear h; conv => whnf) | (refine Split.mk (fun h => ?_) (fun h => absurd h (by decide +kernel)); clear h; conv => whnf) | (refine Split.mk (fun h => absurd h (by decide +kernel)) (fun h => ?_); clear h; conv => whnf) | (refine Ask.mk (by first | decide | (unfold roomOK; decide)) ?_; conv => whnf) | (refine AppG.mk (by first | decide | (unfold roomOK; decide)) ?_; conv => whnf) | (refine SliceG.fr ?_; conv => whnf) | (refine BuildG.fr ?_; conv => whnf) | (refine IdxG.mk _ ⟨by decide, by rfl⟩ ?_; conv => whnf) | (refine RowG.mk _ (by rfl) ?_; conv => whnf) | (refine look_no (by decide +kernel) ?_; conv => whnf) | (refine look_ix 0 (by rfl) (by decide +kernel) ?_; conv => whnf) | (refine look_ix 1 (by rfl) (by decide +kernel) ?_; conv => whnf) | (refine look_ix 2 (by rfl) (by decide +kernel) ?_; conv => whnf) | (refine upd_no (by decide +kernel) ?_; conv => whnf) | (refine LoopG.un 12 ?_; conv => whnf) | fail)
  all_goals first | exact .mk ⟨rfl, rfl⟩ | trace_state
set_option maxRecDepth 100000 in
set_option maxHeartbeats 4000000 in
theorem elements_c : PCp 68 [.c (.ptr 0 0), .c cB] webO (.c (.lst 1 [[.str ⟨#[97]⟩], [.str ⟨#[99]⟩]])) webO := by
  have hr := fRising_pc (⟨2, [(0, ⟨#[99]⟩, true), (1, ⟨#[97]⟩, true)]⟩ : MB) ⟨by decide, by decide, by decide⟩ (by decide)
  refine fn_sound (mt := mts) tab_fits tab_mixed Tryz.func68 (by rfl) (by kernel_rfl) (by kernel_rfl) Tryz.results68 (Nat.le_of_ble_eq_true (by kernel_rfl)) ?_
  conv => whnf
  repeat' (first | (refine CondG.mk (fun h => ?_) (fun h => absurd h (by decide +kernel)); clear h; conv => whnf) | (refine CondG.mk (fun h => absurd h (by decide +kernel)) (fun h => ?_); clear h; conv => whnf) | (refine Split.mk (fun h => ?_) (fun h => absurd h (by decide +kernel)); clear h; conv => whnf) | (refine Split.mk (fun h => absurd h (by decide +kernel)) (fun h => ?_); clear h; conv => whnf) | (refine CallX.mk _ _ (by first | exact webEnds_c | exact webPath_c | exact webLast_c | exact webKind_c | exact hr) ?_; conv => whnf) | (refine CallG.mk _ _ (by first | exact webEnds_c | exact webPath_c | exact webLast_c | exact webKind_c | exact hr) ?_; conv => whnf) | (refine Ask.mk (by first | decide | (unfold roomOK; decide)) ?_; conv => whnf) | (refine AppG.mk (by first | decide | (unfold roomOK; decide)) ?_; conv => whnf) | (refine SliceG.fr ?_; conv => whnf) | (refine BuildG.fr ?_; conv => whnf) | (refine IdxG.mk _ ⟨by decide, by rfl⟩ ?_; conv => whnf) | (refine RowG.mk _ (by rfl) ?_; conv => whnf) | (refine look_no (by decide +kernel) ?_; conv => whnf) | (refine look_ix 0 (by rfl) (by decide +kernel) ?_; conv => whnf) | (refine look_ix 1 (by rfl) (by decide +kernel) ?_; conv => whnf) | (refine look_ix 2 (by rfl) (by decide +kernel) ?_; conv => whnf) | (refine upd_no (by decide +kernel) ?_; conv => whnf) | (refine LoopG.un 12 ?_; conv => whnf) | fail)
  all_goals first | exact .mk ⟨rfl, rfl⟩ | trace_state
set_option maxRecDepth 100000 in
set_option maxHeartbeats 4000000 in
theorem servicesOf_c : PCp 29 [.agg tinyL] [] (.tup [.c (.row 0), .c (.int .i64 0)]) [.row 139 3 [[cB, .lst 1 [[.str ⟨#[97]⟩], [.str ⟨#[99]⟩]], n1]]] := by
  refine fn_sound (mt := mts) tab_fits tab_mixed Tryz.func29 (by rfl) (by kernel_rfl) (by kernel_rfl) Tryz.results29 (Nat.le_of_ble_eq_true (by kernel_rfl)) ?_
  conv => whnf
  repeat' (first | (refine CondG.mk (fun h => ?_) (fun h => absurd h (by decide +kernel)); clear h; conv => whnf) | (refine CondG.mk (fun h => absurd h (by decide +kernel)) (fun h => ?_); clear h; conv => whnf) | (refine Split.mk (fun h => ?_) (fun h => absurd h (by decide +kernel)); clear h; conv => whnf) | (refine Split.mk (fun h => absurd h (by decide +kernel)) (fun h => ?_); clear h; conv => whnf) | (refine CallX.mk _ _ (by first | exact checkPlant_c | exact webNew_c | exact elements_c) ?_; conv => whnf) | (refine CallG.mk _ _ (by first | exact checkPlant_c | exact webNew_c | exact elements_c) ?_; conv => whnf) | (refine Ask.mk (by first | decide | (unfold roomOK; decide)) ?_; conv => whnf) | (refine AppG.mk (by first | decide | (unfold roomOK; decide)) ?_; conv => whnf) | (refine SliceG.fr ?_; conv => whnf) | (refine BuildG.fr ?_; conv => whnf) | (refine IdxG.mk _ ⟨by decide, by rfl⟩ ?_; conv => whnf) | (refine RowG.mk _ (by rfl) ?_; conv => whnf) | (refine look_no (by decide +kernel) ?_; conv => whnf) | (refine look_ix 0 (by rfl) (by decide +kernel) ?_; conv => whnf) | (refine look_ix 1 (by rfl) (by decide +kernel) ?_; conv => whnf) | (refine look_ix 2 (by rfl) (by decide +kernel) ?_; conv => whnf) | (refine upd_no (by decide +kernel) ?_; conv => whnf) | (refine LoopG.un 12 ?_; conv => whnf) | fail)
  all_goals first | exact .mk ⟨rfl, rfl⟩ | trace_state
set_option maxRecDepth 100000 in
set_option maxHeartbeats 4000000 in
theorem h10facts_pc : PCp 8 [] [] (.c (.bool true)) [] := by
  have hm : mostX [⟨⟨#[100]⟩, ⟨#[97]⟩, ⟨#[98]⟩, 1, 100⟩] [] ⟨#[100]⟩ 36 = 3 := by decide +kernel
  have ht : twoE [⟨⟨#[100]⟩, ⟨#[97]⟩, ⟨#[98]⟩, 1, 100⟩] [] ⟨#[100]⟩ 36 = 0 := by decide +kernel
  have hM := dMostX_pc [⟨⟨#[100]⟩, ⟨#[97]⟩, ⟨#[98]⟩, 1, 100⟩] [] (by simp) ⟨#[100]⟩ 36
  rw [hm, ht] at hM
  have hN := hM.wk (gs := [.c (.lst 5 ([⟨⟨#[100]⟩, ⟨#[97]⟩, ⟨#[98]⟩, 1, 100⟩].map encDu)), .c .nils, .c (.str ⟨#[100]⟩), .c (.int .i64 36)]) (P2.cons (.refl _) (P2.cons (.c (.nils 3)) (P2.cons (.refl _) (P2.cons (.refl _) P2.nil))))
  refine fn_sound (mt := mts) tab_fits tab_mixed Tryz.func8 (by rfl) (by kernel_rfl) (by kernel_rfl) Tryz.results8 (Nat.le_of_ble_eq_true (by kernel_rfl)) ?_
  conv => whnf
  repeat' (first | (refine CondG.mk (fun h => ?_) (fun h => absurd h (by decide +kernel)); clear h; conv => whnf) | (refine CondG.mk (fun h => absurd h (by decide +kernel)) (fun h => ?_); clear h; conv => whnf) | (refine Split.mk (fun h => ?_) (fun h => absurd h (by decide +kernel)); clear h; conv => whnf) | (refine Split.mk (fun h => absurd h (by decide +kernel)) (fun h => ?_); clear h; conv => whnf) | (refine CallX.mk _ _ (by first | exact path_c | exact detected_c | exact servicesOf_c | exact hN) ?_; conv => whnf) | (refine CallG.mk _ _ (by first | exact path_c | exact detected_c | exact servicesOf_c | exact hN) ?_; conv => whnf) | (refine Ask.mk (by first | decide | (unfold roomOK; decide)) ?_; conv => whnf) | (refine AppG.mk (by first | decide | (unfold roomOK; decide)) ?_; conv => whnf) | (refine SliceG.fr ?_; conv => whnf) | (refine BuildG.fr ?_; conv => whnf) | (refine IdxG.mk _ ⟨by decide, by rfl⟩ ?_; conv => whnf) | (refine RowG.mk _ (by rfl) ?_; conv => whnf) | (refine look_no (by decide +kernel) ?_; conv => whnf) | (refine look_ix 0 (by rfl) (by decide +kernel) ?_; conv => whnf) | (refine look_ix 1 (by rfl) (by decide +kernel) ?_; conv => whnf) | (refine look_ix 2 (by rfl) (by decide +kernel) ?_; conv => whnf) | (refine upd_no (by decide +kernel) ?_; conv => whnf) | (refine LoopG.un 12 ?_; conv => whnf) | fail)
  all_goals first | exact .mk ⟨rfl, rfl⟩ | exact .mk ⟨sbool (by decide +kernel), rfl⟩ | trace_state
end Go.Proofs.YthdaejnepengeaaGreatDoor

/- As many cables as ducts: the law's walk. -/
namespace Go.Proofs.YthdaejnepengeaaGreatDoor
set_option linter.unusedVariables false
set_option linter.unusedSimpArgs false
open Abs

theorem itoa_sz : ∀ k, k < 7 → (itoaB ((k : Nat) : Int)).size ≤ 20 := by decide +kernel
set_option maxRecDepth 100000 in
set_option maxHeartbeats 4000000 in
theorem topCapacity_pc (L : List Int) (hL : L.length ≤ 9223372036854775807) : PCp 3 [.c (.lst 1 (L.map encI))] [] (.c (.bool true)) [] := by
  have st0 : StOk L 0 := ⟨hL, by omega, by omega⟩
  have hr := rangeV_in L 0 1 4 (by omega)
  obtain ⟨n, hn⟩ := Int.eq_ofNat_of_zero_le (a := rangeV L 0 1 4) (by omega)
  rw [hn] at hr
  have hst : ∀ k : Nat, k ≤ 10 → StOk L (0 + 1 + (k : Int)) := fun k hk => ⟨hL, by omega, by omega⟩
  have hgl : ∀ i, i < n → 1 ≤ (fun i : Nat => rangeV L (0 + 1 + (i : Int)) 1 30) i ∧ (fun i : Nat => rangeV L (0 + 1 + (i : Int)) 1 30) i ≤ 30 := fun i _ => rangeV_in L _ 1 30 (by omega)
  have hgs : ∀ i : Nat, rangeV L (0 + 1 + (i : Int)) 1 30 = (fun i : Nat => rangeV L (0 + 1 + (i : Int)) 1 30) i := fun _ => rfl
  generalize (fun i : Nat => rangeV L (0 + 1 + (i : Int)) 1 30) = gl at *
  have hdl := duL_len gl n
  have hdm : ((duL gl n).map encDu).length = n := by rw [List.length_map, hdl]
  have hdok := dul_ok (g := gl) (n := n) (by omega) hgl
  refine fn_sound (mt := mts) tab_fits tab_mixed Tryz.func3 (by rfl) (by kernel_rfl) (by kernel_rfl) Tryz.results3 (Nat.le_of_ble_eq_true (by kernel_rfl)) ?_
  conv => whnf
  repeat' (first | ((first | refine Split.mk (fun h => ?_) (fun h => ?_) | refine CondG.mk (fun h => ?_) (fun h => ?_)) <;> (try simp only [decide_eq_true_eq, decide_eq_false_iff_not, Bool.not_eq_true', Bool.not_eq_false', beq_iff_eq, beq_eq_false_iff_ne, bne_iff_ne, bne_eq_false_iff_eq] at h) <;> (first | (exfalso; first | omega | exact h trivial) | (conv => whnf))) | (refine CallX.mk _ _ (by first | exact range_ok st0 1 4 (by omega) (small_lit (by decide)) (small_lit (by decide))) ?_; conv => whnf) | (refine CallG.mk _ _ (by first | exact range_ok st0 1 4 (by omega) (small_lit (by decide)) (small_lit (by decide))) ?_; conv => whnf) | (refine Ask.mk (by first | omega | (unfold roomOK; simp [cutRows]; done) | (unfold roomOK; simp [cutRows]; omega) | (simp [cutRows]; done) | (simp [cutRows]; omega)) ?_; conv => whnf) | (refine AskV.mk (by first | omega | (unfold roomOK; simp [cutRows]; done) | (unfold roomOK; simp [cutRows]; omega) | (simp [cutRows]; done) | (simp [cutRows]; omega)) ?_; conv => whnf) | (refine AppG.mk (by first | omega | (unfold roomOK; simp [cutRows]; done) | (unfold roomOK; simp [cutRows]; omega) | (simp [cutRows]; done) | (simp [cutRows]; omega)) ?_; conv => whnf) | (refine SliceG.fr ?_; conv => whnf) | (refine BuildG.fr ?_; conv => whnf) | (refine idx_at _ (by with_reducible rfl) (by first | assumption | omega) ?_; conv => whnf) | ((with_reducible refine row_map (by first | assumption | omega) ?_); conv => whnf) | ((with_reducible refine row_set (by first | assumption | omega | (simp only [List.length_set]; omega) | (simp; omega)) ?_); conv => whnf) | fail)
  rw [hn]
  refine loop_for (n) [.sl 4 30 5] [3, 4, 17, 18] (fun k (_ : Unit) => [(18, .c (.int .i64 (k : Int)))]) (fun k (_ : Unit) => [(0, stO L (0 + 1 + (k : Int))), (1, .row 30 5 ((duL gl k).map encDu))]) (fun k (_ : Unit) => True) (()) ?_
  conv => whnf
  refine ⟨?_, (by trivial), ?_, ?_⟩
  · rfl
  · intro k _ hk _
    have hsz := itoa_sz k (by omega)
    have cr := range_ok (hst k (by omega)) 1 30 (by omega) (small_lit (by decide)) (small_lit (by decide))
    have cI := itoa_pc (k : Int) (by omega) (by omega)
    have hkl := duL_len gl k
    have hkm : ((duL gl k).map encDu).length = k := by rw [List.length_map, duL_len]
    rw [hgs] at cr
    conv => whnf
    repeat' (first | ((first | refine Split.mk (fun h => ?_) (fun h => ?_) | refine CondG.mk (fun h => ?_) (fun h => ?_)) <;> (try simp only [decide_eq_true_eq, decide_eq_false_iff_not, Bool.not_eq_true', Bool.not_eq_false', beq_iff_eq, beq_eq_false_iff_ne, bne_iff_ne, bne_eq_false_iff_eq] at h) <;> (first | (exfalso; first | omega | exact h trivial) | (conv => whnf))) | (refine CallX.mk _ _ (by first | exact cr | exact cI) ?_; conv => whnf) | (refine CallG.mk _ _ (by first | exact cr | exact cI) ?_; conv => whnf) | (refine Ask.mk (by first | omega | (unfold roomOK; simp [cutRows]; done) | (unfold roomOK; simp [cutRows]; omega) | (simp [cutRows]; done) | (simp [cutRows]; omega)) ?_; conv => whnf) | (refine AskV.mk (by first | omega | (unfold roomOK; simp [cutRows]; done) | (unfold roomOK; simp [cutRows]; omega) | (simp [cutRows]; done) | (simp [cutRows]; omega)) ?_; conv => whnf) | (refine AppG.mk (by first | omega | (unfold roomOK; simp [cutRows]; done) | (unfold roomOK; simp [cutRows]; omega) | (simp [cutRows]; done) | (simp [cutRows]; omega)) ?_; conv => whnf) | (refine SliceG.fr ?_; conv => whnf) | (refine BuildG.fr ?_; conv => whnf) | (refine idx_at _ (by with_reducible rfl) (by first | assumption | omega) ?_; conv => whnf) | ((with_reducible refine row_map (by first | assumption | omega) ?_); conv => whnf) | ((with_reducible refine row_set (by first | assumption | omega | (simp only [List.length_set]; omega) | (simp; omega)) ?_); conv => whnf) | fail)
    refine .mk (by show 1 + (itoaB (k : Int)).size ≤ _; omega) ?_
    conv => whnf
    repeat' (first | ((first | refine Split.mk (fun h => ?_) (fun h => ?_) | refine CondG.mk (fun h => ?_) (fun h => ?_)) <;> (try simp only [decide_eq_true_eq, decide_eq_false_iff_not, Bool.not_eq_true', Bool.not_eq_false', beq_iff_eq, beq_eq_false_iff_ne, bne_iff_ne, bne_eq_false_iff_eq] at h) <;> (first | (exfalso; first | omega | exact h trivial) | (conv => whnf))) | (refine CallX.mk _ _ (by first | exact cr | exact cI) ?_; conv => whnf) | (refine CallG.mk _ _ (by first | exact cr | exact cI) ?_; conv => whnf) | (refine Ask.mk (by first | omega | (unfold roomOK; simp [cutRows]; done) | (unfold roomOK; simp [cutRows]; omega) | (simp [cutRows]; done) | (simp [cutRows]; omega)) ?_; conv => whnf) | (refine AskV.mk (by first | omega | (unfold roomOK; simp [cutRows]; done) | (unfold roomOK; simp [cutRows]; omega) | (simp [cutRows]; done) | (simp [cutRows]; omega)) ?_; conv => whnf) | (refine AppG.mk (by first | omega | (unfold roomOK; simp [cutRows]; done) | (unfold roomOK; simp [cutRows]; omega) | (simp [cutRows]; done) | (simp [cutRows]; omega)) ?_; conv => whnf) | (refine SliceG.fr ?_; conv => whnf) | (refine BuildG.fr ?_; conv => whnf) | (refine idx_at _ (by with_reducible rfl) (by first | assumption | omega) ?_; conv => whnf) | ((with_reducible refine row_map (by first | assumption | omega) ?_); conv => whnf) | ((with_reducible refine row_set (by first | assumption | omega | (simp only [List.length_set]; omega) | (simp; omega)) ?_); conv => whnf) | fail)
    exact count_next () hk (by rw [wrap_succ hk (by omega), duL_succ, List.map_append]; rfl) trivial
  · intro _ _
    conv => whnf
    repeat' (first | ((first | refine Split.mk (fun h => ?_) (fun h => ?_) | refine CondG.mk (fun h => ?_) (fun h => ?_)) <;> (try simp only [decide_eq_true_eq, decide_eq_false_iff_not, Bool.not_eq_true', Bool.not_eq_false', beq_iff_eq, beq_eq_false_iff_ne, bne_iff_ne, bne_eq_false_iff_eq] at h) <;> (first | (exfalso; first | omega | exact h trivial) | (conv => whnf))) | (refine Ask.mk (by first | omega | (unfold roomOK; simp [cutRows]; done) | (unfold roomOK; simp [cutRows]; omega) | (simp [cutRows]; done) | (simp [cutRows]; omega)) ?_; conv => whnf) | (refine AskV.mk (by first | omega | (unfold roomOK; simp [cutRows]; done) | (unfold roomOK; simp [cutRows]; omega) | (simp [cutRows]; done) | (simp [cutRows]; omega)) ?_; conv => whnf) | (refine AppG.mk (by first | omega | (unfold roomOK; simp [cutRows]; done) | (unfold roomOK; simp [cutRows]; omega) | (simp [cutRows]; done) | (simp [cutRows]; omega)) ?_; conv => whnf) | (refine SliceG.fr ?_; conv => whnf) | (refine BuildG.fr ?_; conv => whnf) | (refine idx_at _ (by with_reducible rfl) (by first | assumption | omega) ?_; conv => whnf) | ((with_reducible refine row_map (by first | assumption | omega) ?_); conv => whnf) | ((with_reducible refine row_set (by first | assumption | omega | (simp only [List.length_set]; omega) | (simp; omega)) ?_); conv => whnf) | fail)
    refine loop_for (6) [] [4, 6, 7, 31] (fun k (us : List ByteArray) => [(6, .c (bif Nat.beq k 0 then .nils else .lst 3 ((cL us).map encLy))), (7, .c (.int .i64 (k : Int))), (31, .c (.int .i64 (k : Int)))]) (fun k (us : List ByteArray) => [(0, bif Nat.beq k 0 then .row 30 5 ((duL gl n).map encDu) else .frow 5 ((duL gl n).map encDu))]) (fun k (us : List ByteArray) => us.length = k ∧ k ≤ n ∧ us.Nodup ∧ ∀ u ∈ us, u ∈ (duL gl n).map Du.key) ([]) ?_
    conv => whnf
    refine ⟨?_, ?_, ?_, ?_⟩
    · rfl
    · exact ⟨rfl, by omega, by simp, by simp⟩
    · intro k us hk ⟨h1, h2, h3, h4⟩
      have hsz := itoa_sz k (by omega)
      have cI := itoa_pc (k : Int) (by omega) (by omega)
      have cL1 := laid_pc (duL gl n) (cL us) (cl_ok hdok (by omega) h4) (kK us.length) (keys_f.1 _ (by omega)).2 (cl_new (by omega)) sA sB 36 (ends_two (by omega)) (by rw [cL_len]; omega)
      rw [h1] at cL1
      rcases k with _ | k
      · obtain rfl : us = [] := List.length_eq_zero_iff.1 h1
        dsimp only
        conv => whnf
        repeat' (first | ((first | refine Split.mk (fun h => ?_) (fun h => ?_) | refine CondG.mk (fun h => ?_) (fun h => ?_)) <;> (try simp only [decide_eq_true_eq, decide_eq_false_iff_not, Bool.not_eq_true', Bool.not_eq_false', beq_iff_eq, beq_eq_false_iff_ne, bne_iff_ne, bne_eq_false_iff_eq] at h) <;> (first | (exfalso; first | omega | exact h trivial) | (conv => whnf))) | (refine CallX.mk _ _ (by first | exact cI) ?_; conv => whnf) | (refine CallG.mk _ _ (by first | exact cI) ?_; conv => whnf) | (refine Ask.mk (by first | omega | (unfold roomOK; simp [cutRows]; done) | (unfold roomOK; simp [cutRows]; omega) | (simp [cutRows]; done) | (simp [cutRows]; omega)) ?_; conv => whnf) | (refine AskV.mk (by first | omega | (unfold roomOK; simp [cutRows]; done) | (unfold roomOK; simp [cutRows]; omega) | (simp [cutRows]; done) | (simp [cutRows]; omega)) ?_; conv => whnf) | (refine AppG.mk (by first | omega | (unfold roomOK; simp [cutRows]; done) | (unfold roomOK; simp [cutRows]; omega) | (simp [cutRows]; done) | (simp [cutRows]; omega)) ?_; conv => whnf) | (refine SliceG.fr ?_; conv => whnf) | (refine BuildG.fr ?_; conv => whnf) | (refine idx_at _ (by with_reducible rfl) (by first | assumption | omega) ?_; conv => whnf) | ((with_reducible refine row_map (by first | assumption | omega) ?_); conv => whnf) | ((with_reducible refine row_set (by first | assumption | omega | (simp only [List.length_set]; omega) | (simp; omega)) ?_); conv => whnf) | fail)
        refine .mk (by show 1 + (itoaB _).size ≤ _; omega) ?_
        conv => whnf
        refine .ex _ (cL1.wk (P2.cons (.refl _) (P2.cons (.c (.nils 3)) (P2.cons (.refl _) (P2.cons (.refl _) (P2.cons (.refl _) (P2.cons (.refl _) P2.nil))))))) ?_
        rintro _ _ ⟨rfl, g, hC, ⟨hno, rfl⟩ | ⟨c, P, hF, rfl⟩⟩
        · exact absurd hno (round_some (by simp; omega) (by omega) hgl hC)
        · obtain ⟨u, hu1, hu2, hPk⟩ := round_way (by simp) hF
          have hsn : cL [] ++ [(⟨kK 0, 36, insSort cmpS (P.map Ed.key)⟩ : Ly)] = cL ([] ++ [u]) := by rw [hPk]; exact (cL_snoc [] u).symm
          rw [hsn]
          conv => whnf
          repeat' (first | ((first | refine Split.mk (fun h => ?_) (fun h => ?_) | refine CondG.mk (fun h => ?_) (fun h => ?_)) <;> (try simp only [decide_eq_true_eq, decide_eq_false_iff_not, Bool.not_eq_true', Bool.not_eq_false', beq_iff_eq, beq_eq_false_iff_ne, bne_iff_ne, bne_eq_false_iff_eq] at h) <;> (first | (exfalso; first | omega | exact h trivial | contradiction | (simp_all [eqRes]; done)) | (conv => whnf))) | (refine Ask.mk (by first | omega | (unfold roomOK; simp [cutRows]; done) | (unfold roomOK; simp [cutRows]; omega) | (simp [cutRows]; done) | (simp [cutRows]; omega)) ?_; conv => whnf) | (refine AskV.mk (by first | omega | (unfold roomOK; simp [cutRows]; done) | (unfold roomOK; simp [cutRows]; omega) | (simp [cutRows]; done) | (simp [cutRows]; omega)) ?_; conv => whnf) | (refine AppG.mk (by first | omega | (unfold roomOK; simp [cutRows]; done) | (unfold roomOK; simp [cutRows]; omega) | (simp [cutRows]; done) | (simp [cutRows]; omega)) ?_; conv => whnf) | (refine SliceG.fr ?_; conv => whnf) | (refine BuildG.fr ?_; conv => whnf) | (refine idx_at _ (by with_reducible rfl) (by first | assumption | omega) ?_; conv => whnf) | ((with_reducible refine row_map (by first | assumption | omega) ?_); conv => whnf) | ((with_reducible refine row_set (by first | assumption | omega | (simp only [List.length_set]; omega) | (simp; omega)) ?_); conv => whnf) | fail)
          exact count_next ([] ++ [u]) hk (by rw [wrap_succ (n := 6) (by omega) (by omega)]; rfl) ⟨rfl, by omega, by simp, by simpa using hu2⟩
      · dsimp only
        conv => whnf
        repeat' (first | ((first | refine Split.mk (fun h => ?_) (fun h => ?_) | refine CondG.mk (fun h => ?_) (fun h => ?_)) <;> (try simp only [decide_eq_true_eq, decide_eq_false_iff_not, Bool.not_eq_true', Bool.not_eq_false', beq_iff_eq, beq_eq_false_iff_ne, bne_iff_ne, bne_eq_false_iff_eq] at h) <;> (first | (exfalso; first | omega | exact h trivial) | (conv => whnf))) | (refine CallX.mk _ _ (by first | exact cI) ?_; conv => whnf) | (refine CallG.mk _ _ (by first | exact cI) ?_; conv => whnf) | (refine Ask.mk (by first | omega | (unfold roomOK; simp [cutRows]; done) | (unfold roomOK; simp [cutRows]; omega) | (simp [cutRows]; done) | (simp [cutRows]; omega)) ?_; conv => whnf) | (refine AskV.mk (by first | omega | (unfold roomOK; simp [cutRows]; done) | (unfold roomOK; simp [cutRows]; omega) | (simp [cutRows]; done) | (simp [cutRows]; omega)) ?_; conv => whnf) | (refine AppG.mk (by first | omega | (unfold roomOK; simp [cutRows]; done) | (unfold roomOK; simp [cutRows]; omega) | (simp [cutRows]; done) | (simp [cutRows]; omega)) ?_; conv => whnf) | (refine SliceG.fr ?_; conv => whnf) | (refine BuildG.fr ?_; conv => whnf) | (refine idx_at _ (by with_reducible rfl) (by first | assumption | omega) ?_; conv => whnf) | ((with_reducible refine row_map (by first | assumption | omega) ?_); conv => whnf) | ((with_reducible refine row_set (by first | assumption | omega | (simp only [List.length_set]; omega) | (simp; omega)) ?_); conv => whnf) | fail)
        refine .mk (by show 1 + (itoaB _).size ≤ _; omega) ?_
        conv => whnf
        refine .ex _ cL1 ?_
        rintro _ _ ⟨rfl, g, hC, ⟨hno, rfl⟩ | ⟨c, P, hF, rfl⟩⟩
        · have hkn : k + 1 = n := Classical.byContradiction fun q => absurd hno (round_some (by omega) (by omega) hgl hC)
          have cC := (capacity_pc (duL gl n) [] (cl_ok (us := []) hdok (by simp) (by simp)) sA sB 36 (ends_two (by omega))).wk (P2.cons (.refl _) (P2.cons (.c (.nils 3)) (P2.cons (.refl _) (P2.cons (.refl _) (P2.cons (.refl _) P2.nil)))))
          conv => whnf
          repeat' (first | ((first | refine Split.mk (fun h => ?_) (fun h => ?_) | refine CondG.mk (fun h => ?_) (fun h => ?_)) <;> (try simp only [decide_eq_true_eq, decide_eq_false_iff_not, Bool.not_eq_true', Bool.not_eq_false', beq_iff_eq, beq_eq_false_iff_ne, bne_iff_ne, bne_eq_false_iff_eq] at h) <;> (first | (exfalso; first | omega | exact h trivial | contradiction | (simp_all [eqRes]; done)) | (conv => whnf))) | (refine Ask.mk (by first | omega | (unfold roomOK; simp [cutRows]; done) | (unfold roomOK; simp [cutRows]; omega) | (simp [cutRows]; done) | (simp [cutRows]; omega)) ?_; conv => whnf) | (refine AskV.mk (by first | omega | (unfold roomOK; simp [cutRows]; done) | (unfold roomOK; simp [cutRows]; omega) | (simp [cutRows]; done) | (simp [cutRows]; omega)) ?_; conv => whnf) | (refine AppG.mk (by first | omega | (unfold roomOK; simp [cutRows]; done) | (unfold roomOK; simp [cutRows]; omega) | (simp [cutRows]; done) | (simp [cutRows]; omega)) ?_; conv => whnf) | (refine SliceG.fr ?_; conv => whnf) | (refine BuildG.fr ?_; conv => whnf) | (refine idx_at _ (by with_reducible rfl) (by first | assumption | omega) ?_; conv => whnf) | ((with_reducible refine row_map (by first | assumption | omega) ?_); conv => whnf) | ((with_reducible refine row_set (by first | assumption | omega | (simp only [List.length_set]; omega) | (simp; omega)) ?_); conv => whnf) | fail)
          refine .ex _ cC ?_
          rintro _ _ ⟨rfl, m, hM, rfl⟩
          have hm := cap_two hM
          subst hm
          conv => whnf
          repeat' (first | ((first | refine Split.mk (fun h => ?_) (fun h => ?_) | refine CondG.mk (fun h => ?_) (fun h => ?_)) <;> (try simp only [decide_eq_true_eq, decide_eq_false_iff_not, Bool.not_eq_true', Bool.not_eq_false', beq_iff_eq, beq_eq_false_iff_ne, bne_iff_ne, bne_eq_false_iff_eq] at h) <;> (first | (exfalso; first | omega | exact h trivial | contradiction | (simp_all [eqRes]; done)) | (conv => whnf))) | (refine CallX.mk _ _ (by first | exact h10facts_pc) ?_; conv => whnf) | (refine CallG.mk _ _ (by first | exact h10facts_pc) ?_; conv => whnf) | (refine Ask.mk (by first | omega | (unfold roomOK; simp [cutRows]; done) | (unfold roomOK; simp [cutRows]; omega) | (simp [cutRows]; done) | (simp [cutRows]; omega)) ?_; conv => whnf) | (refine AskV.mk (by first | omega | (unfold roomOK; simp [cutRows]; done) | (unfold roomOK; simp [cutRows]; omega) | (simp [cutRows]; done) | (simp [cutRows]; omega)) ?_; conv => whnf) | (refine AppG.mk (by first | omega | (unfold roomOK; simp [cutRows]; done) | (unfold roomOK; simp [cutRows]; omega) | (simp [cutRows]; done) | (simp [cutRows]; omega)) ?_; conv => whnf) | (refine SliceG.fr ?_; conv => whnf) | (refine BuildG.fr ?_; conv => whnf) | (refine idx_at _ (by with_reducible rfl) (by first | assumption | omega) ?_; conv => whnf) | ((with_reducible refine row_map (by first | assumption | omega) ?_); conv => whnf) | ((with_reducible refine row_set (by first | assumption | omega | (simp only [List.length_set]; omega) | (simp; omega)) ?_); conv => whnf) | fail)
          exact .mk ⟨rfl, rfl⟩
        · obtain ⟨u, hu1, hu2, hPk⟩ := round_way (by omega) hF
          have hkn : k + 1 ≠ n := fun q => by
            have h8 := nodup_sub_len (l := u :: us) (m := (duL gl n).map Du.key) (List.nodup_cons.2 ⟨hu1, h3⟩) (fun x hx => by
              rcases List.mem_cons.1 hx with e | h
              · rw [e]; exact hu2
              · exact h4 x h)
            rw [keys_len, List.length_cons] at h8
            omega
          have hsn : cL us ++ [(⟨kK (k + 1), 36, insSort cmpS (P.map Ed.key)⟩ : Ly)] = cL (us ++ [u]) := by rw [hPk, ← h1]; exact (cL_snoc us u).symm
          rw [hsn]
          conv => whnf
          repeat' (first | ((first | refine Split.mk (fun h => ?_) (fun h => ?_) | refine CondG.mk (fun h => ?_) (fun h => ?_)) <;> (try simp only [decide_eq_true_eq, decide_eq_false_iff_not, Bool.not_eq_true', Bool.not_eq_false', beq_iff_eq, beq_eq_false_iff_ne, bne_iff_ne, bne_eq_false_iff_eq] at h) <;> (first | (exfalso; first | omega | exact h trivial | contradiction | (simp_all [eqRes]; done)) | (conv => whnf))) | (refine Ask.mk (by first | omega | (unfold roomOK; simp [cutRows]; done) | (unfold roomOK; simp [cutRows]; omega) | (simp [cutRows]; done) | (simp [cutRows]; omega)) ?_; conv => whnf) | (refine AskV.mk (by first | omega | (unfold roomOK; simp [cutRows]; done) | (unfold roomOK; simp [cutRows]; omega) | (simp [cutRows]; done) | (simp [cutRows]; omega)) ?_; conv => whnf) | (refine AppG.mk (by first | omega | (unfold roomOK; simp [cutRows]; done) | (unfold roomOK; simp [cutRows]; omega) | (simp [cutRows]; done) | (simp [cutRows]; omega)) ?_; conv => whnf) | (refine SliceG.fr ?_; conv => whnf) | (refine BuildG.fr ?_; conv => whnf) | (refine idx_at _ (by with_reducible rfl) (by first | assumption | omega) ?_; conv => whnf) | ((with_reducible refine row_map (by first | assumption | omega) ?_); conv => whnf) | ((with_reducible refine row_set (by first | assumption | omega | (simp only [List.length_set]; omega) | (simp; omega)) ?_); conv => whnf) | fail)
          exact count_next (us ++ [u]) hk (by rw [wrap_succ (n := 6) (by omega) (by omega)]; rfl) ⟨by simp; omega, by omega, List.nodup_append.2 ⟨h3, by simp, fun x hx y hy e => by
            rw [List.mem_singleton] at hy
            subst hy; subst e
            exact hu1 hx⟩, fun x hx => by
            rcases List.mem_append.1 hx with q | q
            · exact h4 x q
            · rw [List.mem_singleton] at q; rw [q]; exact hu2⟩
    · intro us ⟨h1, h2, h3, h4⟩
      exfalso
      omega
end Go.Proofs.YthdaejnepengeaaGreatDoor
