/- Parts of the proof, in order. -/
import Derived.Test.YtobcplhaabaemaaGreatMPlansAreLeast2

/- Ducts: what has room, how many more. -/
namespace Go.Proofs.YtobcplhaabaemaaGreat
set_option linter.unusedVariables false
set_option linter.unusedSimpArgs false
open Abs

set_option maxRecDepth 100000 in
set_option maxHeartbeats 4000000 in
theorem dOuterFault_pc (n : Int) : PCp 103 [.c (.int .i64 n)] [] (.c (.int .i64 (if n < 1 ∨ 1000 < n then 1 else 0))) [] := by
  refine fn_sound (mt := mts) tab_fits tab_mixed Tryz.func103 (by rfl) (by kernel_rfl) (by kernel_rfl) Tryz.results103 (Nat.le_of_ble_eq_true (by kernel_rfl)) ?_
  conv => whnf
  repeat' (first | ((first | refine Split.mk (fun h => ?_) (fun h => ?_) | refine CondG.mk (fun h => ?_) (fun h => ?_)) <;> (try simp only [decide_eq_true_eq, decide_eq_false_iff_not, Bool.not_eq_true', Bool.not_eq_false', beq_iff_eq, beq_eq_false_iff_ne, bne_iff_ne, bne_eq_false_iff_eq] at h) <;> (first | (exfalso; first | omega | exact h trivial) | (conv => whnf))) | (refine CallX.mk _ _ (by first | exact bOut_pc _ _ _) ?_; conv => whnf) | (refine CallG.mk _ _ (by first | exact bOut_pc _ _ _) ?_; conv => whnf) | (refine Ask.mk (by first | omega | (unfold roomOK; simp [cutRows]; done) | (unfold roomOK; simp [cutRows]; omega) | (simp [cutRows]; done) | (simp [cutRows]; omega)) ?_; conv => whnf) | (refine AppG.mk (by first | omega | (unfold roomOK; simp [cutRows]; done) | (unfold roomOK; simp [cutRows]; omega) | (simp [cutRows]; done) | (simp [cutRows]; omega)) ?_; conv => whnf) | (refine SliceG.fr ?_; conv => whnf) | (refine idx_at _ (by with_reducible rfl) (by first | assumption | omega) ?_; conv => whnf) | ((with_reducible refine row_map (by first | assumption | omega) ?_); conv => whnf) | ((with_reducible refine row_set (by first | assumption | omega | (simp only [List.length_set]; omega) | (simp; omega)) ?_); conv => whnf) | fail)
  all_goals exact fini (by simp_all <;> omega)
set_option maxRecDepth 100000 in
set_option maxHeartbeats 4000000 in
theorem ixIK_pc (key : Int) (g : Nat) (p : Int → Bool) (l : List Int) (hl : l.length ≤ 1000000) (hg : ∀ x ∈ l, PCp g [.c (.int .i64 x), .c (.ptr 0 0)] [.box [.int .i64 key]] (.c (.bool (p x))) [.box [.int .i64 key]]) : PCp 68 [.c (.lst 1 (l.map encI)), .c (.fn g [.ptr 0 0])] [.box [.int .i64 key]] (.c (.int .i64 (idxP p l))) [.box [.int .i64 key]] := by
  have hlm : (l.map encI).length = l.length := List.length_map ..
  refine fn_sound (mt := mts) tab_fits tab_mixed Tryz.func68 (by rfl) (by kernel_rfl) (by kernel_rfl) Tryz.results68 (Nat.le_of_ble_eq_true (by kernel_rfl)) ?_
  conv => whnf
  refine loop_count (l.length) [] [0, 1, 7, 8] (fun k (_ : Unit) => ⟨[(0, .c (.lst 1 (l.map encI))), (1, .c (.fn g [.ptr 0 0])), (7, .c (.int .i64 (l.map encI).length)), (8, .c (.int .i64 k))], [(0, .box [.int .i64 key])], 1⟩) (fun k (_ : Unit) => ∀ i (hi : i < l.length), i < k → p l[i] = false) (()) ?_ ?_ ?_
  · conv => whnf
    exact ⟨rfl, by intro i hi h; omega⟩
  · intro k _ hk hi
    conv => whnf
    repeat' (first | ((first | refine Split.mk (fun h => ?_) (fun h => ?_) | refine CondG.mk (fun h => ?_) (fun h => ?_)) <;> (try simp only [decide_eq_true_eq, decide_eq_false_iff_not, Bool.not_eq_true', Bool.not_eq_false', beq_iff_eq, beq_eq_false_iff_ne, bne_iff_ne, bne_eq_false_iff_eq] at h) <;> (first | (exfalso; first | omega | exact h trivial) | (conv => whnf))) | (refine CallX.mk _ _ (by first | exact hg l[k] (List.getElem_mem hk)) ?_; conv => whnf) | (refine CallG.mk _ _ (by first | exact hg l[k] (List.getElem_mem hk)) ?_; conv => whnf) | (refine Ask.mk (by first | omega | (unfold roomOK; simp [cutRows]; done) | (unfold roomOK; simp [cutRows]; omega) | (simp [cutRows]; done) | (simp [cutRows]; omega)) ?_; conv => whnf) | (refine AppG.mk (by first | omega | (unfold roomOK; simp [cutRows]; done) | (unfold roomOK; simp [cutRows]; omega) | (simp [cutRows]; done) | (simp [cutRows]; omega)) ?_; conv => whnf) | (refine SliceG.fr ?_; conv => whnf) | (refine idx_at _ (by with_reducible rfl) (by first | assumption | omega) ?_; conv => whnf) | ((with_reducible refine row_map (by first | assumption | omega) ?_); conv => whnf) | ((with_reducible refine row_set (by first | assumption | omega | (simp only [List.length_set]; omega) | (simp; omega)) ?_); conv => whnf) | fail)
    · exact .mk ⟨by rw [idxP_hit hk (fun i hi' => hi i (by omega) hi') h]; rfl, rfl⟩
    · refine count_next () hk (by rw [wrap_succ hk (by omega)]; rfl) ?_
      exact all_succ' hi h
  · intro _ hi
    conv => whnf
    repeat' (first | ((first | refine Split.mk (fun h => ?_) (fun h => ?_) | refine CondG.mk (fun h => ?_) (fun h => ?_)) <;> (try simp only [decide_eq_true_eq, decide_eq_false_iff_not, Bool.not_eq_true', Bool.not_eq_false', beq_iff_eq, beq_eq_false_iff_ne] at h) <;> (first | (exfalso; first | omega | exact h trivial) | (conv => whnf))) | (refine Ask.mk (by first | omega | (unfold roomOK; simp [cutRows]; done) | (unfold roomOK; simp [cutRows]; omega)) ?_; conv => whnf) | (refine AppG.mk (by first | omega | (unfold roomOK; simp [cutRows]; done) | (unfold roomOK; simp [cutRows]; omega)) ?_; conv => whnf) | (refine SliceG.fr ?_; conv => whnf) | fail)
    exact .mk ⟨by rw [idxP_miss (fun i h => hi i h h)]; rfl, rfl⟩
set_option maxRecDepth 100000 in
set_option maxHeartbeats 4000000 in
theorem ixIKC_pc (key : Int) (g : Nat) (p : Int → Bool) (l : List Int) (hl : l.length ≤ 1000000) (hg : ∀ x ∈ l, PCp g [.c (.int .i64 x), .c (.ptr 0 0)] [.box [.int .i64 key]] (.c (.bool (p x))) [.box [.int .i64 key]]) : PCp 32 [.c (.lst 1 (l.map encI)), .c (.fn g [.ptr 0 0])] [.box [.int .i64 key]] (.c (.bool (l.any p))) [.box [.int .i64 key]] := by
  refine fn_sound (mt := mts) tab_fits tab_mixed Tryz.func32 (by rfl) (by kernel_rfl) (by kernel_rfl) Tryz.results32 (Nat.le_of_ble_eq_true (by kernel_rfl)) ?_
  conv => whnf
  repeat' (first | ((first | refine Split.mk (fun h => ?_) (fun h => ?_) | refine CondG.mk (fun h => ?_) (fun h => ?_)) <;> (try simp only [decide_eq_true_eq, decide_eq_false_iff_not, Bool.not_eq_true', Bool.not_eq_false', beq_iff_eq, beq_eq_false_iff_ne] at h) <;> (first | (exfalso; first | omega | exact h trivial) | (conv => whnf))) | (refine CallX.mk _ _ (by first | exact ixIK_pc key g p l hl hg) ?_; conv => whnf) | (refine CallG.mk _ _ (by first | exact ixIK_pc key g p l hl hg) ?_; conv => whnf) | (refine Ask.mk (by first | omega | (unfold roomOK; simp [cutRows]; done) | (unfold roomOK; simp [cutRows]; omega)) ?_; conv => whnf) | (refine AppG.mk (by first | omega | (unfold roomOK; simp [cutRows]; done) | (unfold roomOK; simp [cutRows]; omega)) ?_; conv => whnf) | (refine SliceG.fr ?_; conv => whnf) | fail)
  exact .mk ⟨by rw [← idxP_any]; rfl, rfl⟩
set_option maxRecDepth 100000 in
set_option maxHeartbeats 4000000 in
theorem room1_pc (n inner : Int) : PCp 184 [.c (.int .i64 n), .c (.ptr 0 0)] [.box [.int .i64 inner]] (.c (.bool (decide (inner < n)))) [.box [.int .i64 inner]] := by
  refine fn_sound (mt := mts) tab_fits tab_mixed Tryz.func184 (by rfl) (by kernel_rfl) (by kernel_rfl) Tryz.results184 (Nat.le_of_ble_eq_true (by kernel_rfl)) ?_
  conv => whnf
  repeat' (first | ((first | refine Split.mk (fun h => ?_) (fun h => ?_) | refine CondG.mk (fun h => ?_) (fun h => ?_)) <;> (try simp only [decide_eq_true_eq, decide_eq_false_iff_not, Bool.not_eq_true', Bool.not_eq_false', beq_iff_eq, beq_eq_false_iff_ne, bne_iff_ne, bne_eq_false_iff_eq] at h) <;> (first | (exfalso; first | omega | exact h trivial) | (conv => whnf))) | (refine Ask.mk (by first | omega | (unfold roomOK; simp [cutRows]; done) | (unfold roomOK; simp [cutRows]; omega) | (simp [cutRows]; done) | (simp [cutRows]; omega)) ?_; conv => whnf) | (refine AppG.mk (by first | omega | (unfold roomOK; simp [cutRows]; done) | (unfold roomOK; simp [cutRows]; omega) | (simp [cutRows]; done) | (simp [cutRows]; omega)) ?_; conv => whnf) | (refine SliceG.fr ?_; conv => whnf) | (refine idx_at _ (by with_reducible rfl) (by first | assumption | omega) ?_; conv => whnf) | ((with_reducible refine row_map (by first | assumption | omega) ?_); conv => whnf) | ((with_reducible refine row_set (by first | assumption | omega | (simp only [List.length_set]; omega) | (simp; omega)) ?_); conv => whnf) | fail)
  exact .mk ⟨rfl, rfl⟩
set_option maxRecDepth 100000 in
set_option maxHeartbeats 4000000 in
theorem part_pc (n : Nat) : PCp 183 [.c (.int .i64 (n : Int))] [] (.c (.int .i64 (partV n))) [] := by
  refine fn_sound (mt := mts) tab_fits tab_mixed Tryz.func183 (by rfl) (by kernel_rfl) (by kernel_rfl) Tryz.results183 (Nat.le_of_ble_eq_true (by kernel_rfl)) ?_
  conv => whnf
  repeat' (first | ((first | refine Split.mk (fun h => ?_) (fun h => ?_) | refine CondG.mk (fun h => ?_) (fun h => ?_)) <;> (try simp only [decide_eq_true_eq, decide_eq_false_iff_not, Bool.not_eq_true', Bool.not_eq_false', beq_iff_eq, beq_eq_false_iff_ne, bne_iff_ne, bne_eq_false_iff_eq] at h) <;> (first | (exfalso; first | omega | exact h trivial) | (conv => whnf))) | (refine Ask.mk (by first | omega | (unfold roomOK; simp [cutRows]; done) | (unfold roomOK; simp [cutRows]; omega) | (simp [cutRows]; done) | (simp [cutRows]; omega)) ?_; conv => whnf) | (refine AppG.mk (by first | omega | (unfold roomOK; simp [cutRows]; done) | (unfold roomOK; simp [cutRows]; omega) | (simp [cutRows]; done) | (simp [cutRows]; omega)) ?_; conv => whnf) | (refine SliceG.fr ?_; conv => whnf) | (refine idx_at _ (by with_reducible rfl) (by first | assumption | omega) ?_; conv => whnf) | ((with_reducible refine row_map (by first | assumption | omega) ?_); conv => whnf) | ((with_reducible refine row_set (by first | assumption | omega | (simp only [List.length_set]; omega) | (simp; omega)) ?_); conv => whnf) | fail)
  all_goals refine fini ?_
  all_goals unfold partV
  all_goals repeat' split
  all_goals omega
theorem partV_in (n : Nat) : 31 ≤ partV n ∧ partV n ≤ 53 := by
  unfold partV
  repeat' split
  all_goals omega
theorem room_w {inner : Int} {l : List Int} (hi : 1 ≤ inner ∧ inner ≤ 1000) (hl : l.length ≤ 100000) (ho : ∀ x ∈ l, 0 ≤ x ∧ x ≤ 1000) : IntKind.i64.wrap (100 * sqV l) = 100 * sqV l ∧ IntKind.i64.wrap (IntKind.i64.wrap (partV l.length * inner) * inner) = partV l.length * inner * inner ∧ 0 ≤ partV l.length * inner * inner := by
  have h1 := sq_in ho
  have h2 := partV_in l.length
  have h3 : 0 ≤ partV l.length * inner := Int.mul_nonneg (by omega) (by omega)
  have h4 : partV l.length * inner ≤ 53 * 1000 := Int.mul_le_mul (by omega) (by omega) (by omega) (by omega)
  have h5 : 0 ≤ partV l.length * inner * inner := Int.mul_nonneg h3 (by omega)
  have h6 : partV l.length * inner * inner ≤ 53000 * 1000 := Int.mul_le_mul (by omega) (by omega) (by omega) (by omega)
  refine ⟨wrap_in (by omega) (by omega), ?_, h5⟩
  rw [wrap_in (x := partV l.length * inner) (by omega) (by omega), wrap_in (by omega) (by omega)]
set_option maxRecDepth 100000 in
set_option maxHeartbeats 4000000 in
theorem dRoom_pc (inner : Int) (l : List Int) (hi : 1 ≤ inner ∧ inner ≤ 1000) (hl : l.length ≤ 100000) (ho : ∀ x ∈ l, 0 ≤ x ∧ x ≤ 1000) : PCp 150 [.c (.int .i64 inner), .c (.lst 1 (l.map encI))] [] (.c (.bool (roomB inner l))) [] := by
  have hlm : (l.map encI).length = l.length := List.length_map ..
  obtain ⟨w1, w2, _⟩ := room_w hi hl ho
  refine fn_sound (mt := mts) tab_fits tab_mixed Tryz.func150 (by rfl) (by kernel_rfl) (by kernel_rfl) Tryz.results150 (Nat.le_of_ble_eq_true (by kernel_rfl)) ?_
  conv => whnf
  repeat' (first | ((first | refine Split.mk (fun h => ?_) (fun h => ?_) | refine CondG.mk (fun h => ?_) (fun h => ?_)) <;> (try simp only [decide_eq_true_eq, decide_eq_false_iff_not, Bool.not_eq_true', Bool.not_eq_false', beq_iff_eq, beq_eq_false_iff_ne, bne_iff_ne, bne_eq_false_iff_eq] at h) <;> (first | (exfalso; first | omega | exact h trivial) | (conv => whnf))) | (refine CallX.mk _ _ (by first | exact dSquares_pc l ho (by omega) | exact (by rw [hlm]; exact part_pc l.length) | exact ixIKC_pc inner 184 (fun n => decide (inner < n)) l (by omega) (fun x _ => room1_pc x inner)) ?_; conv => whnf) | (refine CallG.mk _ _ (by first | exact dSquares_pc l ho (by omega) | exact (by rw [hlm]; exact part_pc l.length) | exact ixIKC_pc inner 184 (fun n => decide (inner < n)) l (by omega) (fun x _ => room1_pc x inner)) ?_; conv => whnf) | (refine Ask.mk (by first | omega | (unfold roomOK; simp [cutRows]; done) | (unfold roomOK; simp [cutRows]; omega) | (simp [cutRows]; done) | (simp [cutRows]; omega)) ?_; conv => whnf) | (refine AppG.mk (by first | omega | (unfold roomOK; simp [cutRows]; done) | (unfold roomOK; simp [cutRows]; omega) | (simp [cutRows]; done) | (simp [cutRows]; omega)) ?_; conv => whnf) | (refine SliceG.fr ?_; conv => whnf) | (refine idx_at _ (by with_reducible rfl) (by first | assumption | omega) ?_; conv => whnf) | ((with_reducible refine row_map (by first | assumption | omega) ?_); conv => whnf) | ((with_reducible refine row_set (by first | assumption | omega | (simp only [List.length_set]; omega) | (simp; omega)) ?_); conv => whnf) | fail)
  all_goals rw [w1, w2] at *
  · refine finb ?_
    unfold roomB; rw [decide_eq_true h, Bool.true_and]
  · refine finb ?_
    unfold roomB; rw [decide_eq_false h, Bool.false_and]
set_option maxRecDepth 100000 in
set_option maxHeartbeats 4000000 in
theorem dMost_pc (x : Du) (all : List Int) (outer : Int) (hi : 1 ≤ x.inner ∧ x.inner ≤ 1000) (hl : all.length ≤ 20) (ho : ∀ y ∈ all, 0 ≤ y ∧ y ≤ 1000) (hq : 0 ≤ outer ∧ outer ≤ 1000) : PCp 104 [.agg (encDu x), .c (.lst 1 (all.map encI)), .c (.int .i64 outer)] [] (.c (.int .i64 (mostV x.inner all outer (20 - all.length) : Nat))) [] := by
  have hlm : (all.map encI).length = all.length := List.length_map ..
  have hin : ∀ n, ∀ y ∈ all ++ List.replicate n outer, 0 ≤ y ∧ y ≤ 1000 := by
    intro n y hy
    rcases List.mem_append.1 hy with h | h
    · exact ho y h
    · rw [(List.mem_replicate.1 h).2]; exact hq
  have hw : IntKind.i64.wrap (20 - ((all.map encI).length : Nat)) = ((20 - all.length : Nat) : Int) := by rw [hlm, wrap_in (by omega) (by omega)]; omega
  refine fn_sound (mt := mts) tab_fits tab_mixed Tryz.func104 (by rfl) (by kernel_rfl) (by kernel_rfl) Tryz.results104 (Nat.le_of_ble_eq_true (by kernel_rfl)) ?_
  conv => whnf
  rw [hw]
  refine loop_while (fun (n : Nat) => n) [] [1, 2, 3, 7] (fun (n : Nat) => [(7, .c (.int .i64 (n : Int)))]) (fun (n : Nat) => []) (fun (n : Nat) => n ≤ 20 - all.length ∧ mostV x.inner all outer n = mostV x.inner all outer (20 - all.length)) (20 - all.length) ?_
  conv => whnf
  refine ⟨(by first | rfl | (simp; done) | (simp; rfl)), ?_, ?_⟩
  · exact ⟨Nat.le_refl _, rfl⟩
  · intro n ⟨h1, h2⟩
    conv => whnf
    repeat' (first | ((first | refine Split.mk (fun h => ?_) (fun h => ?_) | refine CondG.mk (fun h => ?_) (fun h => ?_)) <;> (try simp only [decide_eq_true_eq, decide_eq_false_iff_not, Bool.not_eq_true', Bool.not_eq_false', beq_iff_eq, beq_eq_false_iff_ne, bne_iff_ne, bne_eq_false_iff_eq] at h) <;> (first | (exfalso; first | omega | exact h trivial) | (conv => whnf))) | (refine CallX.mk _ _ (by first | exact cloneI_pc all (by omega)) ?_; conv => whnf) | (refine CallG.mk _ _ (by first | exact cloneI_pc all (by omega)) ?_; conv => whnf) | (refine Ask.mk (by first | omega | (unfold roomOK; simp [cutRows]; done) | (unfold roomOK; simp [cutRows]; omega) | (simp [cutRows]; done) | (simp [cutRows]; omega)) ?_; conv => whnf) | (refine AppG.mk (by first | omega | (unfold roomOK; simp [cutRows]; done) | (unfold roomOK; simp [cutRows]; omega) | (simp [cutRows]; done) | (simp [cutRows]; omega)) ?_; conv => whnf) | (refine SliceG.fr ?_; conv => whnf) | (refine idx_at _ (by with_reducible rfl) (by first | assumption | omega) ?_; conv => whnf) | ((with_reducible refine row_map (by first | assumption | omega) ?_); conv => whnf) | ((with_reducible refine row_set (by first | assumption | omega | (simp only [List.length_set]; omega) | (simp; omega)) ?_); conv => whnf) | fail)
    · obtain ⟨m, rfl⟩ : ∃ m, n = m + 1 := ⟨n - 1, by omega⟩
      have hlr : ∀ k, k ≤ m + 1 → (all ++ List.replicate k outer).length ≤ 100 := by intro k hk; simp; omega
      refine loop_for (m + 1) [] [1, 2, 3, 7, 8, 18, 19] (fun k (_ : Unit) => [(19, .c (.int .i64 (k : Int)))]) (fun k (_ : Unit) => [(1, .row 3 1 ((all ++ List.replicate k outer).map encI))]) (fun k (_ : Unit) => True) (()) ?_
      conv => whnf
      refine ⟨(by first | rfl | (simp; done) | (simp; rfl)), (by trivial), ?_, ?_⟩
      · intro k _ hk _
        have h3 := hlr k (by omega)
        have h4 : ((all ++ List.replicate k outer).map encI).length ≤ 100 := by rw [List.length_map]; exact h3
        conv => whnf
        repeat' (first | ((first | refine Split.mk (fun h => ?_) (fun h => ?_) | refine CondG.mk (fun h => ?_) (fun h => ?_)) <;> (try simp only [decide_eq_true_eq, decide_eq_false_iff_not, Bool.not_eq_true', Bool.not_eq_false', beq_iff_eq, beq_eq_false_iff_ne, bne_iff_ne, bne_eq_false_iff_eq] at h) <;> (first | (exfalso; first | omega | exact h trivial) | (conv => whnf))) | (refine Ask.mk (by first | omega | (unfold roomOK; simp [cutRows]; done) | (unfold roomOK; simp [cutRows]; omega) | (simp [cutRows]; done) | (simp [cutRows]; omega)) ?_; conv => whnf) | (refine AppG.mk (by first | omega | (unfold roomOK; simp [cutRows]; done) | (unfold roomOK; simp [cutRows]; omega) | (simp [cutRows]; done) | (simp [cutRows]; omega)) ?_; conv => whnf) | (refine SliceG.fr ?_; conv => whnf) | (refine idx_at _ (by with_reducible rfl) (by first | assumption | omega) ?_; conv => whnf) | ((with_reducible refine row_map (by first | assumption | omega) ?_); conv => whnf) | ((with_reducible refine row_set (by first | assumption | omega | (simp only [List.length_set]; omega) | (simp; omega)) ?_); conv => whnf) | fail)
        exact count_next () hk (by rw [wrap_succ hk (by omega), List.replicate_succ', ← List.append_assoc, List.map_append (l₁ := all ++ List.replicate k outer)]; rfl) trivial
      · intro _ _
        have h3 := hlr (m + 1) (by omega)
        have hR := dRoom_pc x.inner (all ++ List.replicate (m + 1) outer) hi (by omega) (hin _)
        conv => whnf
        repeat' (first | ((first | refine Split.mk (fun h => ?_) (fun h => ?_) | refine CondG.mk (fun h => ?_) (fun h => ?_)) <;> (try simp only [decide_eq_true_eq, decide_eq_false_iff_not, Bool.not_eq_true', Bool.not_eq_false', beq_iff_eq, beq_eq_false_iff_ne, bne_iff_ne, bne_eq_false_iff_eq] at h) <;> (first | (exfalso; first | omega | exact h trivial) | (conv => whnf))) | (refine CallX.mk _ _ (by first | exact hR) ?_; conv => whnf) | (refine CallG.mk _ _ (by first | exact hR) ?_; conv => whnf) | (refine Ask.mk (by first | omega | (unfold roomOK; simp [cutRows]; done) | (unfold roomOK; simp [cutRows]; omega) | (simp [cutRows]; done) | (simp [cutRows]; omega)) ?_; conv => whnf) | (refine AppG.mk (by first | omega | (unfold roomOK; simp [cutRows]; done) | (unfold roomOK; simp [cutRows]; omega) | (simp [cutRows]; done) | (simp [cutRows]; omega)) ?_; conv => whnf) | (refine SliceG.fr ?_; conv => whnf) | (refine idx_at _ (by with_reducible rfl) (by first | assumption | omega) ?_; conv => whnf) | ((with_reducible refine row_map (by first | assumption | omega) ?_); conv => whnf) | ((with_reducible refine row_set (by first | assumption | omega | (simp only [List.length_set]; omega) | (simp; omega)) ?_); conv => whnf) | fail)
        · exact fini (by rw [← h2, mostV, if_pos h])
        · exact meas_next m (by omega) (by rw [show IntKind.i64.wrap (((m + 1 : Nat) : Int) - 1) = (m : Int) by rw [wrap_in (by omega) (by omega)]; omega]; rfl) ⟨by omega, by rw [← h2, mostV, if_neg (by rw [h]; decide)]⟩
    · have : n = 0 := by omega
      subst this
      exact fini (by rw [← h2]; rfl)
def twoE (d : List Du) (l : List Ly) (k : ByteArray) (outer : Int) : Int := if oneE d l k ≠ 0 then oneE d l k else if outer < 1 ∨ 1000 < outer then 1 else 0
theorem twoE_ok {d : List Du} {l : List Ly} {k : ByteArray} {outer : Int} (h : twoE d l k outer = 0) : oneE d l k = 0 ∧ 0 ≤ outer ∧ outer ≤ 1000 ∧ duV d l k = duG d k := by
  unfold twoE at h
  split at h
  · exact absurd h (by assumption)
  · split at h
    · omega
    · have h1 : oneE d l k = 0 := by omega
      exact ⟨h1, by omega, by omega, by rw [duV, if_pos h1]⟩
theorem twoE_first (d : List Du) (l : List Ly) (k : ByteArray) (outer : Int) : firstErr [oneE d l k, if outer < 1 ∨ 1000 < outer then 1 else 0] = twoE d l k outer := by
  unfold twoE firstErr firstErr firstErr
  repeat' split
  all_goals omega
def mostX (d : List Du) (l : List Ly) (k : ByteArray) (outer : Int) : Nat := if twoE d l k outer = 0 then mostV (duG d k).inner (outV l k) outer (20 - (outV l k).length) else 0
set_option maxRecDepth 100000 in
set_option maxHeartbeats 4000000 in
theorem dMostX_pc (d : List Du) (l : List Ly) (hx : ∀ x ∈ l, x.ducts.length ≤ 1000000) (k : ByteArray) (outer : Int) : PCp 61 [.c (.lst 5 (d.map encDu)), .c (.lst 3 (l.map encLy)), .c (.str k), .c (.int .i64 outer)] [] (.tup [.c (.int .i64 (mostX d l k outer : Nat)), .c (.int .i64 (twoE d l k outer))]) [] := by
  refine fn_sound (mt := mts) tab_fits tab_mixed Tryz.func61 (by rfl) (by kernel_rfl) (by kernel_rfl) Tryz.results61 (Nat.le_of_ble_eq_true (by kernel_rfl)) ?_
  conv => whnf
  repeat' (first | ((first | refine Split.mk (fun h => ?_) (fun h => ?_) | refine CondG.mk (fun h => ?_) (fun h => ?_)) <;> (try simp only [decide_eq_true_eq, decide_eq_false_iff_not, Bool.not_eq_true', Bool.not_eq_false', beq_iff_eq, beq_eq_false_iff_ne, bne_iff_ne, bne_eq_false_iff_eq] at h) <;> (first | (exfalso; first | omega | exact h trivial) | (conv => whnf))) | (refine CallX.mk _ _ (by first | exact ductOf_pc d l hx k | exact dOuterFault_pc outer | exact first_pc [oneE d l k, if outer < 1 ∨ 1000 < outer then 1 else 0] (by simp)) ?_; conv => whnf) | (refine CallG.mk _ _ (by first | exact ductOf_pc d l hx k | exact dOuterFault_pc outer | exact first_pc [oneE d l k, if outer < 1 ∨ 1000 < outer then 1 else 0] (by simp)) ?_; conv => whnf) | (refine Ask.mk (by first | omega | (unfold roomOK; simp [cutRows]; done) | (unfold roomOK; simp [cutRows]; omega) | (simp [cutRows]; done) | (simp [cutRows]; omega)) ?_; conv => whnf) | (refine AppG.mk (by first | omega | (unfold roomOK; simp [cutRows]; done) | (unfold roomOK; simp [cutRows]; omega) | (simp [cutRows]; done) | (simp [cutRows]; omega)) ?_; conv => whnf) | (refine SliceG.fr ?_; conv => whnf) | (refine idx_at _ (by with_reducible rfl) (by first | assumption | omega) ?_; conv => whnf) | ((with_reducible refine row_map (by first | assumption | omega) ?_); conv => whnf) | ((with_reducible refine row_set (by first | assumption | omega | (simp only [List.length_set]; omega) | (simp; omega)) ?_); conv => whnf) | fail)
  all_goals rw [twoE_first] at *
  · exact .mk ⟨by rw [mostX, if_neg h]; rfl, rfl⟩
  have h : twoE d l k outer = 0 := by simpa using h
  obtain ⟨h1, h2, h3, h4⟩ := twoE_ok h
  obtain ⟨hok, hk, hf⟩ := oneE_ok h1
  obtain ⟨hm, _⟩ := duG_in hok.du hk
  have hi := hok.du.each _ hm
  have hll := hok.len
  rw [h4]
  repeat' (first | ((first | refine Split.mk (fun h => ?_) (fun h => ?_) | refine CondG.mk (fun h => ?_) (fun h => ?_)) <;> (try simp only [decide_eq_true_eq, decide_eq_false_iff_not, Bool.not_eq_true', Bool.not_eq_false', beq_iff_eq, beq_eq_false_iff_ne, bne_iff_ne, bne_eq_false_iff_eq] at h) <;> (first | (exfalso; first | omega | exact h trivial) | (conv => whnf))) | (refine CallX.mk _ _ (by first | exact dOuters_pc l (by omega) hok.rl k | exact dMost_pc (duG d k) (outV l k) outer (by omega) (hok.out20 hk) (hok.o1000 k) ⟨h2, h3⟩) ?_; conv => whnf) | (refine CallG.mk _ _ (by first | exact dOuters_pc l (by omega) hok.rl k | exact dMost_pc (duG d k) (outV l k) outer (by omega) (hok.out20 hk) (hok.o1000 k) ⟨h2, h3⟩) ?_; conv => whnf) | (refine Ask.mk (by first | omega | (unfold roomOK; simp [cutRows]; done) | (unfold roomOK; simp [cutRows]; omega) | (simp [cutRows]; done) | (simp [cutRows]; omega)) ?_; conv => whnf) | (refine AppG.mk (by first | omega | (unfold roomOK; simp [cutRows]; done) | (unfold roomOK; simp [cutRows]; omega) | (simp [cutRows]; done) | (simp [cutRows]; omega)) ?_; conv => whnf) | (refine SliceG.fr ?_; conv => whnf) | (refine idx_at _ (by with_reducible rfl) (by first | assumption | omega) ?_; conv => whnf) | ((with_reducible refine row_map (by first | assumption | omega) ?_); conv => whnf) | ((with_reducible refine row_set (by first | assumption | omega | (simp only [List.length_set]; omega) | (simp; omega)) ?_); conv => whnf) | fail)
  exact .mk ⟨by rw [mostX, if_pos h, h]; rfl, rfl⟩
end Go.Proofs.YtobcplhaabaemaaGreat

/- Sorted lists: sorting by insertion sorts; lists that rise by keys are told by what they hold. -/
namespace Go.Proofs.YtobcplhaabaemaaGreat
set_option linter.unusedVariables false
set_option linter.unusedSimpArgs false
open Abs

/-- in order up to m, but for the one at j, which is not greater than any behind it -/
def InsInv {α : Type} (c : α → α → Int) (m j : Nat) (l : List α) : Prop :=
  (∀ i k x y, i < k → k ≤ m → i ≠ j → k ≠ j → l[i]? = some x → l[k]? = some y → ¬ c y x < 0) ∧ ∀ k x y, j < k → k ≤ m → l[j]? = some x → l[k]? = some y → ¬ c y x < 0
def SrtTo {α : Type} (c : α → α → Int) (n : Nat) (l : List α) : Prop := ∀ i k x y, i < k → k < n → l[i]? = some x → l[k]? = some y → ¬ c y x < 0
theorem insDown_srt {α : Type} {c : α → α → Int} (hc : SWOc c) (m : Nat) : ∀ (j : Nat) (l : List α), j ≤ m → m < l.length → InsInv c m j l → SrtTo c (m + 1) (insDown c 0 j l)
  | 0, l, _, hm, ⟨h1, h2⟩ => by
    intro i k x y hik hk hx hy
    rw [insDown] at hx hy
    by_cases e : i = 0
    · subst e; exact h2 k x y hik (by omega) hx hy
    · exact h1 i k x y hik (by omega) e (by omega) hx hy
  | j + 1, l, hj, hm, ⟨h1, h2⟩ => by
    by_cases hlt : c (l[j + 1]'(by omega)) (l[j]'(by omega)) < 0
    · rw [insDown_step (by omega) (by omega) hlt]
      refine insDown_srt hc m j _ (by omega) (by simpa using hm) ⟨?_, ?_⟩
      · intro i k x y hik hk hij hkj hx hy
        rw [List.getElem?_set_ne (Ne.symm hij)] at hx
        rw [List.getElem?_set_ne (Ne.symm hkj)] at hy
        by_cases e1 : k = j + 1
        · subst e1
          rw [List.getElem?_set_ne (by omega)] at hx
          rw [List.getElem?_set_self (by omega)] at hy
          cases hy
          exact h1 i j x _ (by omega) (by omega) (by omega) (by omega) hx (List.getElem?_eq_getElem (by omega))
        · by_cases e2 : i = j + 1
          · subst e2
            rw [List.getElem?_set_self (by omega)] at hx
            rw [List.getElem?_set_ne (by omega)] at hy
            cases hx
            exact h1 j k _ y (by omega) hk (by omega) e1 (List.getElem?_eq_getElem (by omega)) hy
          · rw [List.getElem?_set_ne (by omega)] at hx hy
            exact h1 i k x y hik hk e2 e1 hx hy
      · intro k x y hjk hk hx hy
        rw [List.getElem?_set_self (by simp; omega)] at hx
        cases hx
        rw [List.getElem?_set_ne (by omega)] at hy
        by_cases e1 : k = j + 1
        · subst e1
          rw [List.getElem?_set_self (by omega)] at hy
          cases hy
          intro h6
          exact hc.irrefl _ (hc.trans _ _ _ hlt h6)
        · rw [List.getElem?_set_ne (by omega)] at hy
          exact h2 k _ y (by omega) hk (List.getElem?_eq_getElem (by omega)) hy
    · rw [insDown_stop (by omega) hlt]
      intro i k x y hik hk hx hy
      by_cases e1 : k = j + 1
      · subst e1
        rw [List.getElem?_eq_getElem (by omega)] at hy
        cases hy
        by_cases e2 : i = j
        · subst e2
          rw [List.getElem?_eq_getElem (by omega)] at hx
          cases hx
          exact hlt
        · exact hc.ntrans _ _ _ hlt (h1 i j x _ (by omega) (by omega) (by omega) (by omega) hx (List.getElem?_eq_getElem (by omega)))
      · by_cases e2 : i = j + 1
        · subst e2; exact h2 k x y hik (by omega) hx hy
        · exact h1 i k x y hik (by omega) e2 e1 hx hy
theorem insTo_srt {α : Type} {c : α → α → Int} (hc : SWOc c) (l : List α) : ∀ m, m < l.length → SrtTo c (m + 1) (insTo c 0 m l)
  | 0, _ => fun i k x y h1 h2 => by omega
  | m + 1, h => by
    have ih := insTo_srt hc l m (by omega)
    rw [insTo, show 0 + 1 + m = m + 1 by omega]
    refine insDown_srt hc (m + 1) (m + 1) _ (Nat.le_refl _) (by rw [insTo_len]; exact h) ⟨?_, ?_⟩
    · intro i k x y hik hk _ hk2 hx hy
      exact ih i k x y hik (by omega) hx hy
    · intro k x y h1 h2; omega
theorem insSort_srt {α : Type} {c : α → α → Int} (hc : SWOc c) (l : List α) : (insSort c l).Pairwise fun x y => ¬ c y x < 0 := by
  unfold insSort
  cases h : l with
  | nil => exact List.Pairwise.nil
  | cons a r =>
    rw [← h]
    have h0 : 0 < l.length := by rw [h]; simp
    have := insTo_srt hc l (l.length - 1) (by omega)
    rw [List.pairwise_iff_getElem]
    intro i k hi hk hik
    have hlen := insTo_len c 0 (l.length - 1) l
    exact this i k _ _ hik (by omega) (List.getElem?_eq_getElem hi) (List.getElem?_eq_getElem hk)
theorem swo_key {α : Type} (key : α → ByteArray) : SWOc fun a b : α => cmpS (key a) (key b) where
  irrefl x := by rw [cmp_lt, ltB_irr]; simp
  trans x y z h1 h2 := cmp_lt.2 (ltB_trans (cmp_lt.1 h1) (cmp_lt.1 h2))
  ntrans x y z h1 h2 := by
    rw [cmp_lt] at h1 h2 ⊢
    intro h3
    rcases ltB_tri (key x) (key y) with h | h | h
    · exact h1 h
    · rw [h] at h3; exact h2 h3
    · exact h2 (ltB_trans h h3)
end Go.Proofs.YtobcplhaabaemaaGreat

/- Go's sort of strings, by the kit's contract of it, as a contract of the abstract walk. -/
namespace Go.Proofs.YtobcplhaabaemaaGreat
set_option linter.unusedVariables false
set_option linter.unusedSimpArgs false
open Go.Shelf Go.Sort Go.RowKit
namespace Abs
theorem bytesLess_dec : ∀ (x y : List UInt8), Op.bytesLess x y = decide (x < y)
  | [], [] => by simp [Op.bytesLess]
  | _ :: _, [] => by simp [Op.bytesLess]
  | [], _ :: _ => by simp [Op.bytesLess]
  | a :: x, b :: y => by
    rw [Op.bytesLess, bytesLess_dec x y]
    simp only [List.cons_lt_cons_iff]
    by_cases h1 : a < b <;> by_cases h2 : a = b <;> by_cases h3 : x < y <;> simp [h1, h2, h3]
theorem le_ltL {x y : List UInt8} : decide (x ≤ y) = !Op.bytesLess y x := by
  rw [bytesLess_dec, Bool.eq_iff_iff]
  simp only [decide_eq_true_eq, Bool.not_eq_true', decide_eq_false_iff_not]
  exact Iff.rfl
def unS (x : List UInt8) : ByteArray := ⟨x.toArray⟩
theorem unS_list (x : List UInt8) : (unS x).toList = x := by rw [ByteArray.toList_eq]; rfl
theorem unS_data (b : ByteArray) : unS b.data.toList = b := by cases b; rfl
theorem mergeS_eq (l : List ByteArray) : (((l.map fun b => b.data.toList).mergeSort fun x y => decide (x ≤ y)).map unS) = insSort cmpS l := by
  have hp : (((l.map fun b => b.data.toList).mergeSort fun x y => decide (x ≤ y)).map unS).Perm l := by
    have h1 := (List.mergeSort_perm (l.map fun b => b.data.toList) (fun x y => decide (x ≤ y))).map unS
    rw [List.map_map] at h1
    have h2 : l.map (unS ∘ fun b => b.data.toList) = l := by
      conv => rhs; rw [← List.map_id l]
      apply List.map_congr_left
      intro x _
      exact unS_data x
    rwa [h2] at h1
  have hs := List.pairwise_mergeSort (le := fun x y : List UInt8 => decide (x ≤ y)) (by
    intro a b c h1 h2
    rw [le_ltL] at *
    simp only [Bool.not_eq_true'] at *
    rcases ltL_tri c a with h3 | h3 | h3
    · rcases ltL_tri b c with h4 | h4 | h4
      · rw [ltL_trans h4 h3] at h1; cases h1
      · subst h4; rw [h3] at h1; cases h1
      · rw [h4] at h2; cases h2
    · subst h3; exact ltL_irr _
    · cases h5 : Op.bytesLess c a with
      | false => rfl
      | true => have := ltL_trans h3 h5; rw [ltL_irr] at this; cases this) (by
    intro a b
    rw [le_ltL, le_ltL]
    rcases ltL_tri a b with h3 | h3 | h3
    · cases h5 : Op.bytesLess b a with
      | false => rfl
      | true => have := ltL_trans h3 h5; rw [ltL_irr] at this; cases this
    · subst h3; rw [ltL_irr]; rfl
    · cases h5 : Op.bytesLess a b with
      | false => simp
      | true => have := ltL_trans h3 h5; rw [ltL_irr] at this; cases this) (l.map fun b => b.data.toList)
  refine sorted_one (c := cmpS) (swo_key id) ?_ (hp.trans (insSort_perm cmpS l).symm) ?_ (insSort_srt (swo_key id) l)
  · intro x y h1 h2
    rw [cmp_lt] at h1 h2
    rcases ltB_tri x y with h | h | h
    · exact (h1 h).elim
    · exact h
    · exact (h2 h).elim
  · rw [List.pairwise_map]
    refine hs.imp ?_
    intro x y h
    rw [le_ltL] at h
    rw [cmp_lt]
    unfold ltB
    rw [unS_list, unS_list]
    simpa using h
variable {P : Program} {ρ : Ren}
theorem strs_flat (l : List ByteArray) : (l.map encS).flatten = l.map V.str := by
  induction l with
  | nil => rfl
  | cons a r ih => rw [List.map_cons, List.flatten_cons, ih]; rfl
theorem sortS_any (L : Lays.n190 P ρ) (hb : ∃ fn, P.funcs[ρ.f 190]? = some fn ∧ (fn.name == "runtime.NumGoroutine") = false ∧ fn.body.isNone = false) (e : Nat) (l : List ByteArray) (hl : l.length < 1000000000000) :
    PCs P (ρ.f 190) [.c (.row 0)] [.row e 1 (l.map encS)] (.tup []) [.row e 1 ((insSort cmpS l).map encS)] := by
  refine ⟨hb, fun F φ w cargs hargs hobj hφ => ?_⟩
  obtain ⟨c0, cs1, e1, r0, hargs⟩ := hargs.cons_inv
  have e3 := hargs.nil_inv
  subst e3
  have hφ0 : φ 0 = some c0 := by
    cases r0 with | c h => cases h with
      | tree h => cases h
      | row _ _ h => exact h
  have hca : cargs = #[c0] := Array.ext' e1
  subst hca
  have hob : nth [Ob.row e 1 (l.map encS)] 0 = some (.row e 1 (l.map encS)) := rfl
  have ho := hobj.objs 0 _ hob
  have zero : ∀ (p : Option Addr) (cap : Nat), l = [] → c0 = .slice p 0 cap → Calls P (ρ.f 190) #[c0] w fun ee w' => ∃ cc F' φ' r objs', (one (.tup []) [.row e 1 ((insSort cmpS l).map encS)]) r objs' ∧ ee = .returned cc ∧ RS F' φ' w' cc r ∧ Nx F φ w (nth [Ob.row e 1 (l.map encS)]) (fun l_1 => [Ob.row e 1 (l.map encS)].length ≤ l_1) (chOf 0 objs') F' φ' w' := by
    intro p cap h0 hc0
    subst h0 hc0
    refine (Any.slices_Sort_string_none L p cap w).mono ?_
    rintro ee w' ⟨rfl, rfl⟩
    exact ⟨.tuple #[], F, φ, .tup [], [.row e 1 []], ⟨rfl, rfl⟩, rfl, .tup _ _ rfl (fun j c x h => by simp at h), Nx.same hobj⟩
  rcases ho with ⟨cv, xs, h1, h2, ⟨⟨hxl, hown⟩, hroomy⟩, h4, h5⟩ | ⟨h0, p, h1⟩
  · rw [hφ0] at h1; cases h1
    rcases hown with ⟨hv, hn0⟩ | ⟨gb, cap, cur, hv, _, hh, hcap, hmx, hcs, htk⟩
    · exact zero none 0 (by simpa using hn0) hv
    · rcases Nat.eq_zero_or_pos l.length with hn | hn
      · exact zero (some ⟨gb, 0, none⟩) cap (List.length_eq_zero_iff.1 hn) (by rw [hv]; simp [hn])
      · subst hv
        simp only [List.length_map, Nat.mul_one] at *
        have hFb : ¬ F gb := h2 gb (by cases cap with | zero => omega | succ => rfl)
        have hxs : xs = l.map fun b => Value.string b := by
          rw [strs_flat] at h4
          apply List.ext_getElem?
          intro j
          by_cases hj : j < l.length
          · have q1 : xs[j]? = some xs[j] := List.getElem?_eq_getElem (by rw [hxl]; exact hj)
            have q2 : (l.map V.str)[j]? = some (.str l[j]) := by simp [hj]
            have q3 := h4.2 j _ _ q1 q2
            rw [q1]
            have q4 : xs[j] = Value.string l[j] := by
              generalize xs[j] = z at q3
              cases q3; rfl
            rw [q4]; simp [hj]
          · rw [List.getElem?_eq_none (by omega), List.getElem?_eq_none (by simp; omega)]
        have hcell : ∀ j (hj : j < l.length), cur[j]? = some (Value.string l[j]) := by
          intro j hj
          have q1 : (cur.toList.take l.length)[j]? = xs[j]? := by rw [htk]
          rw [List.getElem?_take, if_pos hj, Array.getElem?_toList] at q1
          rw [q1, hxs]; simp [hj]
        let ss : List (List UInt8) := l.map fun b => b.data.toList
        have hss : ss.length = l.length := by simp [ss]
        have hH : Holds encStr w gb 0 ss.toArray := by
          intro j hj
          have hj' : j < l.length := by simpa [ss] using hj
          have hg : (ss.toArray)[j]! = l[j].data.toList := by
            rw [getElem!_pos _ j hj]; simp [ss]
          refine ⟨?_, ?_⟩
          · rw [hg]
            simp only [World.cell?, hh, Nat.zero_add, Option.isSome_none, Bool.false_eq_true, if_false, hcell j hj', encStr]
          · simp [World.frozen?, hh]
        have hblk : gb < w.heap.size := lt_heap hh
        have hS := Any.slices_Sort_string L gb 0 cap ss w hH hblk (by rw [hss]; omega)
        rw [hss] at hS
        refine hS.mono ?_
        rintro ee w' ⟨rfl, m, os, rfl⟩
        have hS2 := mergeS_eq l
        generalize hM : (ss.mergeSort fun x y => decide (x ≤ y)) = M at *
        have hM' : M.map unS = insSort cmpS l := by rw [← hS2]
        have hMl : M.length = l.length := by rw [← hM, List.length_mergeSort, hss]
        have hheap : ∀ b, b < w.heap.size → (grow (putRow encStr (Sort.ahead w m) gb 0 M.toArray) os).heap[b]? = if b = gb then some (.cells (putCells encStr 0 M.toArray cur) e (0, 0)) else w.heap[b]? := by
          intro b hb
          unfold grow putRow mapBlock Sort.ahead
          simp only
          rw [Array.getElem?_append_left (by simpa using hb), Array.getElem?_modify]
          by_cases e4 : gb = b
          · subst e4; rw [if_pos rfl, if_pos rfl, hh]; rfl
          · rw [if_neg e4, if_neg (fun h => e4 h.symm)]
        have hsize : w.heap.size ≤ (grow (putRow encStr (Sort.ahead w m) gb 0 M.toArray) os).heap.size := by
          unfold grow putRow mapBlock Sort.ahead
          simp
        have hil := insSort_len cmpS l
        have hro : RO F φ (grow (putRow encStr (Sort.ahead w m) gb 0 M.toArray) os) 0 (.row e 1 ((insSort cmpS l).map encS)) := by
          refine RO.mkrow (xs := (insSort cmpS l).map Value.string) hφ0 h2 ⟨?_, .inr ⟨gb, cap, putCells encStr 0 M.toArray cur, ?_, Nat.zero_le _, ?_, ?_, hmx, ?_, ?_⟩⟩ ?_ ?_
          · simp
          · simp [hil]
          · rw [hheap gb hblk, if_pos rfl]
          · simpa [hil] using hcap
          · simp [putCells, hcs]
          · apply List.ext_getElem?
            intro j
            rw [List.getElem?_take]
            by_cases hj : j < l.length
            · have hjc : j < cur.size := by rw [hcs]; omega
              rw [if_pos (by simpa [hil] using hj)]
              have hMj : j < M.length := by omega
              have hIj : j < (insSort cmpS l).length := by omega
              have q1 : (insSort cmpS l)[j] = unS M[j] := by simp [← hM']
              simp only [putCells, Array.getElem?_toList, Array.getElem?_mapIdx, Array.getElem?_eq_getElem hjc, Option.map_some, Nat.zero_le, true_and, Nat.zero_add, Nat.sub_zero, List.getElem?_map, List.getElem?_eq_getElem hIj]
              rw [if_pos (by simpa using hMj), q1, getElem!_pos _ _ (by simpa using hMj)]
              simp [encStr, unS]
            · rw [if_neg (by simpa [hil] using hj), List.getElem?_eq_none (by simp [hil]; omega)]
          · rw [strs_flat]
            refine ⟨by simp, fun j x y hx hy => ?_⟩
            rw [List.getElem?_map] at hx hy
            cases hz : (insSort cmpS l)[j]? with
            | none => rw [hz] at hx; cases hx
            | some z => rw [hz] at hx hy; cases hx; cases hy; exact .str z
          · intro r hr; obtain ⟨x, _, rfl⟩ := List.mem_map.1 hr; rfl
        have hone1 : ∀ l2 o, chGet (chOf 0 [Ob.row e 1 ((insSort cmpS l).map encS)]) l2 = some o → l2 = 0 ∧ o = .row e 1 ((insSort cmpS l).map encS) := by
          intro l2 o h
          rw [chGet_chOf] at h
          simp only [Nat.zero_le, if_true, Nat.sub_zero] at h
          cases l2 with
          | zero => simp only [List.getElem?_cons_zero, Option.some.injEq] at h; exact ⟨rfl, h.symm⟩
          | succ n => simp at h
        have hblk0 : blkOf φ 0 = some gb := by
          unfold blkOf; rw [hφ0]; cases cap with | zero => omega | succ => rfl
        refine ⟨.tuple #[], F, φ, .tup [], [.row e 1 ((insSort cmpS l).map encS)], ⟨rfl, rfl⟩, rfl, .tup _ _ rfl (fun j c x h => by simp at h), ?_⟩
        refine ⟨fun _ h => h, fun _ _ h => h, fun _ _ h => .inl h, rfl, rfl, rfl, fun _ => Nat.le_add_right _ _, hsize, ?_, fun b h => .inl h, ?_, ?_, ?_⟩
        · intro b hb hne
          rw [hheap b hb] at hne
          by_cases e4 : b = gb
          · subst e4; exact ⟨0, _, hob, rfl, hblk0, rfl⟩
          · rw [if_neg e4] at hne; exact (hne rfl).elim
        · intro l2 o h
          obtain ⟨rfl, rfl⟩ := hone1 l2 o h
          exact hro
        · intro l2 o b h h6 h7
          obtain ⟨rfl, rfl⟩ := hone1 l2 o h
          exact .inr ⟨0, _, hob, rfl, h7, rfl⟩
        · intro l2 l3 o o' b h h6 _ _ _ _
          rw [(hone1 l2 o h).1, (hone1 l3 o' h6).1]
  · exact zero _ 0 (by simpa using h0) (by rw [hφ0] at h1; cases h1; rfl)
end Abs
theorem sortG_pc (l : List ByteArray) (hl : l.length < 1000000000000) : PCp 177 [.c (.row 0)] [.row 9 1 (l.map encS)] (.tup []) [.row 9 1 ((insSort cmpS l).map encS)] :=
  Abs.sortS_any laySortS ⟨_, Tryz.func177, by kernel_rfl, by kernel_rfl⟩ _ l hl
end Go.Proofs.YtobcplhaabaemaaGreat

/- Services: what is computed, as functions on lists. -/
namespace Go.Proofs.YtobcplhaabaemaaGreat
set_option linter.unusedVariables false
set_option linter.unusedSimpArgs false
open Abs

structure Sv where
  key : ByteArray
  els : List ByteArray
  cust : Int
def encSv (x : Sv) : List V := [.str x.key, .lst 1 (x.els.map encS), .int .i64 x.cust]
def elErr (first : Bool) (before k : ByteArray) : Int := if !keyB k then 5 else if !first && leB k before then 7 else 0
def elsErr (l : List ByteArray) : Int := seqErr elErr id true ⟨#[]⟩ l
def elsFault (l : List ByteArray) : Int := if 100 < l.length then 2 else elsErr l
def svErr (first : Bool) (before : ByteArray) (x : Sv) : Int :=
  if !keyB x.key then 5 else if !first && leB x.key before then 7 else if x.els.length = 0 then 8 else if elsFault x.els ≠ 0 then elsFault x.els else if x.cust < 1 ∨ 100000 < x.cust then 1 else 0
def svFault (l : List Sv) : Int := if 500 < l.length then 2 else seqErr svErr Sv.key true ⟨#[]⟩ l
def svAt (s : List Sv) (k : ByteArray) : Option Sv := s.find? fun x => decide (x.key = k)
def sv0 : Sv := ⟨⟨#[]⟩, [], 0⟩
def svG (s : List Sv) (k : ByteArray) : Sv := (svAt s k).getD sv0
def hasSv (s : List Sv) (k : ByteArray) : Bool := (svAt s k).isSome
def stErr (s : List Sv) (l : List ByteArray) : Int := if 500 < l.length then 2 else seqErr (keyErr (hasSv s)) id true ⟨#[]⟩ l
def seenErr (s : List Sv) (down up : List ByteArray) : Int :=
  if svFault s ≠ 0 then svFault s else if stErr s down ≠ 0 then stErr s down else if stErr s up ≠ 0 then stErr s up else if down.any (fun k => decide (k ∈ up)) then 13 else 0
structure SvX (x : Sv) : Prop where
  key : keyB x.key = true
  rise : Rise id x.els
  pos : 1 ≤ x.els.length
  len : x.els.length ≤ 100
  cust : 1 ≤ x.cust ∧ x.cust ≤ 100000
  els : ∀ k ∈ x.els, keyB k = true
structure SvOk (s : List Sv) : Prop where
  rise : Rise Sv.key s
  len : s.length ≤ 500
  each : ∀ x ∈ s, SvX x
theorem elErr_ok {f : Bool} {b k : ByteArray} (h : elErr f b k = 0) : keyB k = true ∧ (f = false → ltB b k = true) := by
  unfold elErr at h
  split at h
  · omega
  · split at h
    · omega
    · rename_i h1 h2
      refine ⟨by simpa using h1, fun hf => ?_⟩
      subst hf
      simp at h2
      exact leB_not.1 h2
theorem elsErr_ok {l : List ByteArray} (h : elsErr l = 0) : Rise id l ∧ ∀ k ∈ l, keyB k = true := by
  refine ⟨seqErr_rise (fun b k hk => (elErr_ok hk).2 rfl) h, fun k hk => ?_⟩
  obtain ⟨f, b, h1⟩ := seqErr_all h k hk
  exact (elErr_ok h1).1
theorem elsFault_ok {l : List ByteArray} (h : elsFault l = 0) : Rise id l ∧ l.length ≤ 100 ∧ ∀ k ∈ l, keyB k = true := by
  unfold elsFault at h
  split at h
  · omega
  · exact ⟨(elsErr_ok h).1, by omega, (elsErr_ok h).2⟩
theorem svErr_ok {f : Bool} {b : ByteArray} {x : Sv} (h : svErr f b x = 0) : SvX x ∧ (f = false → ltB b x.key = true) := by
  unfold svErr at h
  split at h
  · omega
  · split at h
    · omega
    · split at h
      · omega
      · split at h
        · omega
        · split at h
          · omega
          · rename_i h1 h2 h3 h4 h5
            obtain ⟨e1, e2, e3⟩ := elsFault_ok (show elsFault x.els = 0 by omega)
            refine ⟨⟨by simpa using h1, e1, by omega, e2, by omega, e3⟩, fun hf => ?_⟩
            subst hf
            simp at h2
            exact leB_not.1 h2
theorem svFault_ok {s : List Sv} (h : svFault s = 0) : SvOk s := by
  unfold svFault at h
  split at h
  · omega
  · refine ⟨seqErr_rise (fun b x hx => (svErr_ok hx).2 rfl) h, by omega, fun x hx => ?_⟩
    obtain ⟨f, b, h1⟩ := seqErr_all h x hx
    exact (svErr_ok h1).1
theorem hasSv_iff {s : List Sv} {k : ByteArray} : hasSv s k = true ↔ ∃ x ∈ s, x.key = k := by
  unfold hasSv svAt
  rw [List.find?_isSome]; simp
theorem svAt_mem {s : List Sv} (h : Rise Sv.key s) {x : Sv} (hx : x ∈ s) : svAt s x.key = some x := rise_find h hx
theorem svG_mem {s : List Sv} (h : Rise Sv.key s) {x : Sv} (hx : x ∈ s) : svG s x.key = x := by unfold svG; rw [svAt_mem h hx]; rfl
structure StOkL (s : List Sv) (l : List ByteArray) : Prop where
  len : l.length ≤ 500
  rise : Rise id l
  has : ∀ k ∈ l, hasSv s k = true
theorem stErr_ok {s : List Sv} {l : List ByteArray} (h : stErr s l = 0) : StOkL s l := by
  unfold stErr at h
  split at h
  · omega
  · refine ⟨by omega, seqErr_rise (fun b k hk => (keyErr_ok hk).2 rfl) h, fun k hk => ?_⟩
    obtain ⟨f, b, h1⟩ := seqErr_all h k hk
    exact (keyErr_ok h1).1
/-! what broken elements affect -/
end Go.Proofs.YtobcplhaabaemaaGreat

/- Lists of strings: searched, cut, sorted; what is cut out of a row that is written. -/
namespace Go.Proofs.YtobcplhaabaemaaGreat
set_option linter.unusedVariables false
set_option linter.unusedSimpArgs false
open Abs

theorem hitG_eq {l : List ByteArray} (h : Rise id l) (t : ByteArray) : hitS t l = decide (t ∈ l) := by
  have hc : ∀ x : ByteArray, ((if ltB x t then (-1 : Int) else if x.toList = t.toList then 0 else 1) < 0 ↔ ltB (id x) t = true) ∧ ((if ltB x t then (-1 : Int) else if x.toList = t.toList then 0 else 1) = 0 ↔ id x = t) := by
    intro x
    by_cases h1 : ltB x t = true
    · simp [h1, ltB_ne h1]
    · by_cases h2 : x = t
      · subst h2; simp [h1]
      · simp [h1, h2, toList_eq']
  have hf := find_rise hc h
  unfold hitS
  generalize hh : hitL (fun x => if ltB x t then (-1 : Int) else if x.toList = t.toList then 0 else 1) l = b at *
  rw [Bool.eq_iff_iff, decide_eq_true_eq]
  cases b with
  | false =>
    constructor
    · intro e; cases e
    · intro ht
      have h1 : (l.find? fun x => decide (id x = t)).isSome := by rw [List.find?_isSome]; exact ⟨t, ht, by simp⟩
      rw [hf] at h1; simp at h1
  | true =>
    refine ⟨fun _ => ?_, fun _ => rfl⟩
    unfold hitL at hh
    split at hh
    · rename_i x hx
      rw [if_pos rfl, hx] at hf
      have h1 := List.find?_some hf
      have h2 := List.mem_of_find?_eq_some hf
      have : x = t := by simpa using h1
      rwa [this] at h2
    · cases hh
theorem binG_pc {l : List ByteArray} (h : Rise id l) (hl : l.length ≤ 1000000) (t : ByteArray) : PCp 174 [.c (.lst 1 (l.map encS)), .c (.str t)] [] (.tup [.c (.int .i64 ((cntS t l : Nat) : Int)), .c (.bool (decide (t ∈ l)))]) [] := by
  rw [← hitG_eq h]
  refine binS_pc t l hl ?_
  intro i j hj hij hlt
  rcases Nat.lt_or_ge i j with h1 | h1
  · exact ltB_trans (h.at h1 hj) hlt
  · have : i = j := by omega
    subst this; exact hlt
end Go.Proofs.YtobcplhaabaemaaGreat

/- Services are checked; what is down and up is checked. -/
namespace Go.Proofs.YtobcplhaabaemaaGreat
set_option linter.unusedVariables false
set_option linter.unusedSimpArgs false
open Abs

set_option maxRecDepth 100000 in
set_option maxHeartbeats 4000000 in
theorem bsSv_pc (g : Nat) (c : Sv → Int) (t : S) (l : List Sv) (hl : l.length ≤ 1000000) (hmono : ∀ i j (hj : j < l.length) (hij : i ≤ j), c l[j] < 0 → c (l[i]'(by omega)) < 0) (ht : isStr t) (hg : ∀ x ∈ l, PCp g [.agg (encSv x), t] [] (.c (.int .i64 (c x))) []) :
    PCp 175 [.c (.lst 3 (l.map encSv)), t, .c (.fn g [])] [] (.tup [.c (.int .i64 ((cntL c l : Nat) : Int)), .c (.bool (hitL c l))]) [] := by
  have hlm : (l.map encSv).length = l.length := List.length_map ..
  obtain ⟨key, rfl⟩ := ht
  refine fn_sound (mt := mts) tab_fits tab_mixed Tryz.func175 (by rfl) (by kernel_rfl) (by kernel_rfl) Tryz.results175 (Nat.le_of_ble_eq_true (by kernel_rfl)) ?_
  conv => whnf
  refine loop_meas2 (fun (i : Nat) (j : Nat) => j - i) [] [0, 1, 2, 8, 9, 10] (fun (i : Nat) (j : Nat) => ⟨[(0, .c (.lst 3 (l.map encSv))), (1, .c (.str key)), (2, .c (.fn g [])), (8, .c (.int .i64 (l.map encSv).length)), (9, .c (.int .i64 ((i : Nat) : Int))), (10, .c (.int .i64 ((j : Nat) : Int)))], [], 0⟩) (fun (i : Nat) (j : Nat) => i ≤ j ∧ j ≤ l.length ∧ (∀ k (h : k < l.length), k < i → c l[k] < 0) ∧ (∀ k (h : k < l.length), j ≤ k → ¬ c l[k] < 0)) (0) (l.length) ?_ ?_
  · conv => whnf
    exact ⟨by rw [hlm]; rfl, Nat.zero_le _, Nat.le_refl _, by intro k h h2; omega, by intro k h h2; omega⟩
  · intro i j ⟨h1, h2, h3, h4⟩
    have hmid := mid_eq (i := i) (j := j) (by omega)
    conv => whnf
    repeat' (first | ((first | refine Split.mk (fun h => ?_) (fun h => ?_) | refine CondG.mk (fun h => ?_) (fun h => ?_)) <;> (try simp only [decide_eq_true_eq, decide_eq_false_iff_not, Bool.not_eq_true', Bool.not_eq_false', beq_iff_eq, beq_eq_false_iff_ne, bne_iff_ne, bne_eq_false_iff_eq] at h) <;> (first | (exfalso; first | omega | exact h trivial) | (conv => whnf))) | (refine Ask.mk (by first | omega | (unfold roomOK; simp [cutRows]; done) | (unfold roomOK; simp [cutRows]; omega) | (simp [cutRows]; done) | (simp [cutRows]; omega)) ?_; conv => whnf) | (refine AppG.mk (by first | omega | (unfold roomOK; simp [cutRows]; done) | (unfold roomOK; simp [cutRows]; omega) | (simp [cutRows]; done) | (simp [cutRows]; omega)) ?_; conv => whnf) | (refine SliceG.fr ?_; conv => whnf) | (refine idx_at _ (by with_reducible rfl) (by first | assumption | omega) ?_; conv => whnf) | ((with_reducible refine row_map (by first | assumption | omega) ?_); conv => whnf) | ((with_reducible refine row_set (by first | assumption | omega | (simp only [List.length_set]; omega) | (simp; omega)) ?_); conv => whnf) | fail)
    · rw [hmid]
      refine idx_map ((i + j) / 2) (by omega) rfl ?_
      conv => whnf
      repeat' (first | ((first | refine Split.mk (fun h => ?_) (fun h => ?_) | refine CondG.mk (fun h => ?_) (fun h => ?_)) <;> (try simp only [decide_eq_true_eq, decide_eq_false_iff_not, Bool.not_eq_true', Bool.not_eq_false', beq_iff_eq, beq_eq_false_iff_ne] at h) <;> (first | (exfalso; first | omega | exact h trivial) | (conv => whnf))) | (refine CallX.mk _ _ (by first | exact hg (l[(i + j) / 2]'(by omega)) (List.getElem_mem _)) ?_; conv => whnf) | (refine CallG.mk _ _ (by first | exact hg (l[(i + j) / 2]'(by omega)) (List.getElem_mem _)) ?_; conv => whnf) | (refine Ask.mk (by first | omega | (unfold roomOK; simp [cutRows]; done) | (unfold roomOK; simp [cutRows]; omega)) ?_; conv => whnf) | (refine AppG.mk (by first | omega | (unfold roomOK; simp [cutRows]; done) | (unfold roomOK; simp [cutRows]; omega)) ?_; conv => whnf) | (refine SliceG.fr ?_; conv => whnf) | fail)
      · exact meas_next ((i + j) / 2 + 1, j) (by simp only; omega) (by rw [wrap_succ (n := l.length) (by omega) (by omega)]; rfl) ⟨by simp only; omega, h2, fun k hk hki => hmono k ((i + j) / 2) (by omega) (by simp only at hki; omega) h, h4⟩
      · exact meas_next (i, (i + j) / 2) (by simp only; omega) rfl ⟨by simp only; omega, by simp only; omega, h3, fun k hk hki => fun hc => h (hmono ((i + j) / 2) k hk hki hc)⟩
    all_goals
      have hij : i = j := by omega
      subst hij
      have hci : cntL c l = i := cntL_at h2 h3 h4
    · repeat' (first
        | (refine Split.mk (fun h => ?_) (fun h => ?_) <;> (try simp only [decide_eq_true_eq, decide_eq_false_iff_not, Bool.not_eq_true', Bool.not_eq_false', beq_iff_eq, beq_eq_false_iff_ne, bne_iff_ne, bne_eq_false_iff_eq] at h) <;> (first | (exfalso; first | omega | exact h trivial) | (conv => whnf)))
        | (refine CondG.mk (fun h => ?_) (fun h => ?_) <;> (try simp only [decide_eq_true_eq, decide_eq_false_iff_not, Bool.not_eq_true', Bool.not_eq_false', beq_iff_eq, beq_eq_false_iff_ne, bne_iff_ne, bne_eq_false_iff_eq] at h) <;> (first | (exfalso; first | omega | exact h trivial) | (conv => whnf)))
        | (refine CallX.mk _ _ (by first | exact hg (l[i]'(by omega)) (List.getElem_mem _)) ?_; conv => whnf)
        | (refine CallG.mk _ _ (by first | exact hg (l[i]'(by omega)) (List.getElem_mem _)) ?_; conv => whnf)
        | (refine Ask.mk (by first | omega | (unfold roomOK; simp [cutRows]; done) | (unfold roomOK; simp [cutRows]; omega) | (simp [cutRows]; done) | (simp [cutRows]; omega)) ?_; conv => whnf)
        | (refine AppG.mk (by first | omega | (unfold roomOK; simp [cutRows]; done) | (unfold roomOK; simp [cutRows]; omega) | (simp [cutRows]; done) | (simp [cutRows]; omega)) ?_; conv => whnf)
        | (refine SliceG.fr ?_; conv => whnf)
        | (refine idx_at _ (by with_reducible rfl) (by first | assumption | omega) ?_; conv => whnf)
        | ((with_reducible refine row_map (by first | assumption | omega) ?_); conv => whnf)
        | ((with_reducible refine row_set (by first | assumption | omega | (simp only [List.length_set]; omega) | (simp; omega)) ?_); conv => whnf)
        | fail)
      exact .mk ⟨by rw [hitL, hci, List.getElem?_eq_getElem (show i < l.length by omega)]; rfl, rfl⟩
    · exact .mk ⟨by rw [hitL, hci, List.getElem?_eq_none (show l.length ≤ i by omega)]; rfl, rfl⟩
set_option maxRecDepth 100000 in
set_option maxHeartbeats 4000000 in
theorem keysFault_pc (l : List ByteArray) (hl : l.length ≤ 1000000) : PCp 172 [.c (.lst 1 (l.map encS))] [] (.c (.int .i64 (elsErr l))) [] := by
  have hlm : (l.map encS).length = l.length := List.length_map ..
  refine fn_sound (mt := mts) tab_fits tab_mixed Tryz.func172 (by rfl) (by kernel_rfl) (by kernel_rfl) Tryz.results172 (Nat.le_of_ble_eq_true (by kernel_rfl)) ?_
  conv => whnf
  refine loop_for (l.length) [] [0, 5, 6, 7] (fun k (_ : Unit) => [(7, .c (.int .i64 (k : Int)))]) (fun k (_ : Unit) => []) (fun k (_ : Unit) => seqErr elErr id (decide (k = 0)) (befK id l k) (l.drop k) = elsErr l) (()) ?_
  conv => whnf
  refine ⟨(by first | rfl | (simp; done) | (simp; rfl)), ?_, ?_, ?_⟩
  · rfl
  · intro k _ hk hi
    conv => whnf
    repeat' (first | ((first | refine Split.mk (fun h => ?_) (fun h => ?_) | refine CondG.mk (fun h => ?_) (fun h => ?_)) <;> (try simp only [decide_eq_true_eq, decide_eq_false_iff_not, Bool.not_eq_true', Bool.not_eq_false', beq_iff_eq, beq_eq_false_iff_ne, bne_iff_ne, bne_eq_false_iff_eq] at h) <;> (first | (exfalso; first | omega | exact h trivial) | (conv => whnf))) | (refine CallX.mk _ _ (by first | exact bKey_pc _) ?_; conv => whnf) | (refine CallG.mk _ _ (by first | exact bKey_pc _) ?_; conv => whnf) | (refine Ask.mk (by first | omega | (unfold roomOK; simp [cutRows]; done) | (unfold roomOK; simp [cutRows]; omega) | (simp [cutRows]; done) | (simp [cutRows]; omega)) ?_; conv => whnf) | (refine AppG.mk (by first | omega | (unfold roomOK; simp [cutRows]; done) | (unfold roomOK; simp [cutRows]; omega) | (simp [cutRows]; done) | (simp [cutRows]; omega)) ?_; conv => whnf) | (refine SliceG.fr ?_; conv => whnf) | (refine idx_at _ (by with_reducible rfl) (by first | assumption | omega) ?_; conv => whnf) | ((with_reducible refine row_map (by first | assumption | omega) ?_); conv => whnf) | ((with_reducible refine row_set (by first | assumption | omega | (simp only [List.length_set]; omega) | (simp; omega)) ?_); conv => whnf) | ((refine idx_map (k - 1) (by omega) (by rw [wrap_in (by omega) (by omega)]; omega) ?_); conv => whnf) | fail)
    all_goals try simp only [toList_eq'] at *
    all_goals have hb := befK_pos (key := id) (l := l) (Nat.le_of_lt hk)
    all_goals first
      | (refine fini (seq_hit hk hi ?_ (by decide)); clear hi; unfold elErr; (try rw [hb (by omega)]); (repeat' split) <;> first | rfl | (exfalso; first | omega | (simp_all [leB, toList_eq']; done) | (simp_all [leB, toList_eq']; omega)))
      | (refine count_next () hk (by rw [wrap_succ hk (by omega)]; rfl) (seq_next' hk hi ?_); clear hi; unfold elErr; (try rw [hb (by omega)]); (repeat' split) <;> first | rfl | (exfalso; first | omega | (simp_all [leB, toList_eq']; done) | (simp_all [leB, toList_eq']; omega)))
  · intro _ hi
    conv => whnf
    repeat' (first | ((first | refine Split.mk (fun h => ?_) (fun h => ?_) | refine CondG.mk (fun h => ?_) (fun h => ?_)) <;> (try simp only [decide_eq_true_eq, decide_eq_false_iff_not, Bool.not_eq_true', Bool.not_eq_false', beq_iff_eq, beq_eq_false_iff_ne, bne_iff_ne, bne_eq_false_iff_eq] at h) <;> (first | (exfalso; first | omega | exact h trivial) | (conv => whnf))) | (refine Ask.mk (by first | omega | (unfold roomOK; simp [cutRows]; done) | (unfold roomOK; simp [cutRows]; omega) | (simp [cutRows]; done) | (simp [cutRows]; omega)) ?_; conv => whnf) | (refine AppG.mk (by first | omega | (unfold roomOK; simp [cutRows]; done) | (unfold roomOK; simp [cutRows]; omega) | (simp [cutRows]; done) | (simp [cutRows]; omega)) ?_; conv => whnf) | (refine SliceG.fr ?_; conv => whnf) | (refine idx_at _ (by with_reducible rfl) (by first | assumption | omega) ?_; conv => whnf) | ((with_reducible refine row_map (by first | assumption | omega) ?_); conv => whnf) | ((with_reducible refine row_set (by first | assumption | omega | (simp only [List.length_set]; omega) | (simp; omega)) ?_); conv => whnf) | fail)
    exact fini (seq_end hi).symm
set_option maxRecDepth 100000 in
set_option maxHeartbeats 4000000 in
theorem checkServices_pc (s : List Sv) (hx : ∀ x ∈ s, x.els.length ≤ 1000000) : PCp 141 [.c (.lst 3 (s.map encSv))] [] (.c (.int .i64 (svFault s))) [] := by
  have hlm : (s.map encSv).length = s.length := List.length_map ..
  refine fn_sound (mt := mts) tab_fits tab_mixed Tryz.func141 (by rfl) (by kernel_rfl) (by kernel_rfl) Tryz.results141 (Nat.le_of_ble_eq_true (by kernel_rfl)) ?_
  conv => whnf
  repeat' (first | ((first | refine Split.mk (fun h => ?_) (fun h => ?_) | refine CondG.mk (fun h => ?_) (fun h => ?_)) <;> (try simp only [decide_eq_true_eq, decide_eq_false_iff_not, Bool.not_eq_true', Bool.not_eq_false', beq_iff_eq, beq_eq_false_iff_ne, bne_iff_ne, bne_eq_false_iff_eq] at h) <;> (first | (exfalso; first | omega | exact h trivial) | (conv => whnf))) | (refine Ask.mk (by first | omega | (unfold roomOK; simp [cutRows]; done) | (unfold roomOK; simp [cutRows]; omega) | (simp [cutRows]; done) | (simp [cutRows]; omega)) ?_; conv => whnf) | (refine AppG.mk (by first | omega | (unfold roomOK; simp [cutRows]; done) | (unfold roomOK; simp [cutRows]; omega) | (simp [cutRows]; done) | (simp [cutRows]; omega)) ?_; conv => whnf) | (refine SliceG.fr ?_; conv => whnf) | (refine idx_at _ (by with_reducible rfl) (by first | assumption | omega) ?_; conv => whnf) | ((with_reducible refine row_map (by first | assumption | omega) ?_); conv => whnf) | ((with_reducible refine row_set (by first | assumption | omega | (simp only [List.length_set]; omega) | (simp; omega)) ?_); conv => whnf) | fail)
  · exact fini (by rw [svFault, if_pos (by omega)])
  have hF : svFault s = seqErr svErr Sv.key true ⟨#[]⟩ s := by rw [svFault, if_neg (by omega)]
  refine loop_for (s.length) [] [0, 9, 10, 11] (fun k (_ : Unit) => [(11, .c (.int .i64 (k : Int)))]) (fun k (_ : Unit) => []) (fun k (_ : Unit) => seqErr svErr Sv.key (decide (k = 0)) (befK Sv.key s k) (s.drop k) = svFault s) (()) ?_
  conv => whnf
  refine ⟨(by first | rfl | (simp; done) | (simp; rfl)), ?_, ?_, ?_⟩
  · exact hF.symm
  · intro k _ hk hi
    have hxk := hx _ (List.getElem_mem hk)
    have hxm : (s[k].els.map encS).length = s[k].els.length := List.length_map ..
    conv => whnf
    repeat' (first | ((first | refine Split.mk (fun h => ?_) (fun h => ?_) | refine CondG.mk (fun h => ?_) (fun h => ?_)) <;> (try simp only [decide_eq_true_eq, decide_eq_false_iff_not, Bool.not_eq_true', Bool.not_eq_false', beq_iff_eq, beq_eq_false_iff_ne, bne_iff_ne, bne_eq_false_iff_eq] at h) <;> (first | (exfalso; first | omega | exact h trivial) | (conv => whnf))) | (refine CallX.mk _ _ (by first | exact bKey_pc _ | exact bOut_pc _ _ _ | exact keysFault_pc _ hxk) ?_; conv => whnf) | (refine CallG.mk _ _ (by first | exact bKey_pc _ | exact bOut_pc _ _ _ | exact keysFault_pc _ hxk) ?_; conv => whnf) | (refine Ask.mk (by first | omega | (unfold roomOK; simp [cutRows]; done) | (unfold roomOK; simp [cutRows]; omega) | (simp [cutRows]; done) | (simp [cutRows]; omega)) ?_; conv => whnf) | (refine AppG.mk (by first | omega | (unfold roomOK; simp [cutRows]; done) | (unfold roomOK; simp [cutRows]; omega) | (simp [cutRows]; done) | (simp [cutRows]; omega)) ?_; conv => whnf) | (refine SliceG.fr ?_; conv => whnf) | (refine idx_at _ (by with_reducible rfl) (by first | assumption | omega) ?_; conv => whnf) | ((with_reducible refine row_map (by first | assumption | omega) ?_); conv => whnf) | ((with_reducible refine row_set (by first | assumption | omega | (simp only [List.length_set]; omega) | (simp; omega)) ?_); conv => whnf) | ((refine idx_map (k - 1) (by omega) (by rw [wrap_in (by omega) (by omega)]; omega) ?_); conv => whnf) | fail)
    all_goals try simp only [toList_eq'] at *
    all_goals have hb := befK_pos (key := Sv.key) (l := s) (Nat.le_of_lt hk)
    all_goals first
      | (refine fini (seq_hit hk hi ?_ (by first | decide | (simp_all; done))); clear hi hF; unfold svErr elsFault; (try rw [hb (by omega)]); (repeat' split) <;> first | rfl | (exfalso; first | omega | (simp_all [leB, toList_eq']; done) | (simp_all [leB, toList_eq']; omega)))
      | (refine count_next () hk (by rw [wrap_succ hk (by omega)]; rfl) (seq_next' hk hi ?_); clear hi hF; unfold svErr elsFault; (try rw [hb (by omega)]); (repeat' split) <;> first | rfl | (exfalso; first | omega | (simp_all [leB, toList_eq']; done) | (simp_all [leB, toList_eq']; omega)))
  · intro _ hi
    conv => whnf
    repeat' (first | ((first | refine Split.mk (fun h => ?_) (fun h => ?_) | refine CondG.mk (fun h => ?_) (fun h => ?_)) <;> (try simp only [decide_eq_true_eq, decide_eq_false_iff_not, Bool.not_eq_true', Bool.not_eq_false', beq_iff_eq, beq_eq_false_iff_ne, bne_iff_ne, bne_eq_false_iff_eq] at h) <;> (first | (exfalso; first | omega | exact h trivial) | (conv => whnf))) | (refine Ask.mk (by first | omega | (unfold roomOK; simp [cutRows]; done) | (unfold roomOK; simp [cutRows]; omega) | (simp [cutRows]; done) | (simp [cutRows]; omega)) ?_; conv => whnf) | (refine AppG.mk (by first | omega | (unfold roomOK; simp [cutRows]; done) | (unfold roomOK; simp [cutRows]; omega) | (simp [cutRows]; done) | (simp [cutRows]; omega)) ?_; conv => whnf) | (refine SliceG.fr ?_; conv => whnf) | (refine idx_at _ (by with_reducible rfl) (by first | assumption | omega) ?_; conv => whnf) | ((with_reducible refine row_map (by first | assumption | omega) ?_); conv => whnf) | ((with_reducible refine row_set (by first | assumption | omega | (simp only [List.length_set]; omega) | (simp; omega)) ?_); conv => whnf) | fail)
    exact fini (seq_end hi).symm
/-! the number of a service -/
def svIx (s : List Sv) (k : ByteArray) : Int := if hitL (fun x : Sv => cmpS x.key k) s then (cntL (fun x : Sv => cmpS x.key k) s : Int) else -1
theorem svIx_or {s : List Sv} (hr : Rise Sv.key s) (k : ByteArray) : (hasSv s k = false ∧ svIx s k = -1) ∨ (hasSv s k = true ∧ ∃ i, ∃ hi : i < s.length, svIx s k = ((i : Nat) : Int) ∧ s[i] = svG s k) := by
  have hc : ∀ x : Sv, (cmpS x.key k < 0 ↔ ltB x.key k = true) ∧ (cmpS x.key k = 0 ↔ x.key = k) := fun x => ⟨cmp_lt, cmp_zero⟩
  have hf := find_rise (c := fun x : Sv => cmpS x.key k) hc hr
  unfold svIx hasSv svG
  cases h : hitL (fun x : Sv => cmpS x.key k) s with
  | false =>
    left
    have hn : svAt s k = none := by unfold svAt; rw [hf, h]; rfl
    rw [hn]; exact ⟨rfl, by simp⟩
  | true =>
    right
    have hlt : cntL (fun x : Sv => cmpS x.key k) s < s.length := by
      rcases Nat.lt_or_ge (cntL (fun x : Sv => cmpS x.key k) s) s.length with h1 | h1
      · exact h1
      · unfold hitL at h; rw [List.getElem?_eq_none h1] at h; cases h
    have hn : svAt s k = some (s[cntL (fun x : Sv => cmpS x.key k) s]) := by unfold svAt; rw [hf, if_pos h, List.getElem?_eq_getElem hlt]
    rw [hn]
    exact ⟨rfl, _, hlt, by simp, rfl⟩
set_option maxRecDepth 100000 in
set_option maxHeartbeats 4000000 in
theorem fFind1_pc (x : Sv) (k : ByteArray) : PCp 176 [.agg (encSv x), .c (.str k)] [] (.c (.int .i64 (cmpS x.key k))) [] := by
  refine fn_sound (mt := mts) tab_fits tab_mixed Tryz.func176 (by rfl) (by kernel_rfl) (by kernel_rfl) Tryz.results176 (Nat.le_of_ble_eq_true (by kernel_rfl)) ?_
  conv => whnf
  repeat' (first | ((first | refine Split.mk (fun h => ?_) (fun h => ?_) | refine CondG.mk (fun h => ?_) (fun h => ?_)) <;> (try simp only [decide_eq_true_eq, decide_eq_false_iff_not, Bool.not_eq_true', Bool.not_eq_false', beq_iff_eq, beq_eq_false_iff_ne, bne_iff_ne, bne_eq_false_iff_eq] at h) <;> (first | (exfalso; first | omega | exact h trivial) | (conv => whnf))) | (refine CallX.mk _ _ (by first | exact sCompare_pc _ _) ?_; conv => whnf) | (refine CallG.mk _ _ (by first | exact sCompare_pc _ _) ?_; conv => whnf) | (refine Ask.mk (by first | omega | (unfold roomOK; simp [cutRows]; done) | (unfold roomOK; simp [cutRows]; omega) | (simp [cutRows]; done) | (simp [cutRows]; omega)) ?_; conv => whnf) | (refine AppG.mk (by first | omega | (unfold roomOK; simp [cutRows]; done) | (unfold roomOK; simp [cutRows]; omega) | (simp [cutRows]; done) | (simp [cutRows]; omega)) ?_; conv => whnf) | (refine SliceG.fr ?_; conv => whnf) | (refine idx_at _ (by with_reducible rfl) (by first | assumption | omega) ?_; conv => whnf) | ((with_reducible refine row_map (by first | assumption | omega) ?_); conv => whnf) | ((with_reducible refine row_set (by first | assumption | omega | (simp only [List.length_set]; omega) | (simp; omega)) ?_); conv => whnf) | fail)
  exact fini rfl
set_option maxRecDepth 100000 in
set_option maxHeartbeats 4000000 in
theorem fFind_pc (s : List Sv) (hr : Rise Sv.key s) (hl : s.length ≤ 1000000) (k : ByteArray) : PCp 146 [.c (.lst 3 (s.map encSv)), .c (.str k)] [] (.c (.int .i64 (svIx s k))) [] := by
  have hlm : (s.map encSv).length = s.length := List.length_map ..
  refine fn_sound (mt := mts) tab_fits tab_mixed Tryz.func146 (by rfl) (by kernel_rfl) (by kernel_rfl) Tryz.results146 (Nat.le_of_ble_eq_true (by kernel_rfl)) ?_
  conv => whnf
  repeat' (first | ((first | refine Split.mk (fun h => ?_) (fun h => ?_) | refine CondG.mk (fun h => ?_) (fun h => ?_)) <;> (try simp only [decide_eq_true_eq, decide_eq_false_iff_not, Bool.not_eq_true', Bool.not_eq_false', beq_iff_eq, beq_eq_false_iff_ne, bne_iff_ne, bne_eq_false_iff_eq] at h) <;> (first | (exfalso; first | omega | exact h trivial) | (conv => whnf))) | (refine CallX.mk _ _ (by first | exact bsSv_pc 176 (fun x => cmpS x.key k) (.c (.str k)) s hl (rise_mono (fun x => cmp_lt) hr) ⟨_, rfl⟩ (fun x _ => fFind1_pc x k)) ?_; conv => whnf) | (refine CallG.mk _ _ (by first | exact bsSv_pc 176 (fun x => cmpS x.key k) (.c (.str k)) s hl (rise_mono (fun x => cmp_lt) hr) ⟨_, rfl⟩ (fun x _ => fFind1_pc x k)) ?_; conv => whnf) | (refine Ask.mk (by first | omega | (unfold roomOK; simp [cutRows]; done) | (unfold roomOK; simp [cutRows]; omega) | (simp [cutRows]; done) | (simp [cutRows]; omega)) ?_; conv => whnf) | (refine AppG.mk (by first | omega | (unfold roomOK; simp [cutRows]; done) | (unfold roomOK; simp [cutRows]; omega) | (simp [cutRows]; done) | (simp [cutRows]; omega)) ?_; conv => whnf) | (refine SliceG.fr ?_; conv => whnf) | (refine idx_at _ (by with_reducible rfl) (by first | assumption | omega) ?_; conv => whnf) | ((with_reducible refine row_map (by first | assumption | omega) ?_); conv => whnf) | ((with_reducible refine row_set (by first | assumption | omega | (simp only [List.length_set]; omega) | (simp; omega)) ?_); conv => whnf) | fail)
  · exact fini (by rw [svIx, if_neg (by rw [h]; decide)])
  · exact fini (by rw [svIx, if_pos h])
set_option maxRecDepth 100000 in
set_option maxHeartbeats 4000000 in
theorem listFault_pc (s : List Sv) (hs : SvOk s) (l : List ByteArray) : PCp 142 [.c (.lst 3 (s.map encSv)), .c (.lst 1 (l.map encS))] [] (.c (.int .i64 (stErr s l))) [] := by
  have hlm : (l.map encS).length = l.length := List.length_map ..
  have hsl := hs.len
  refine fn_sound (mt := mts) tab_fits tab_mixed Tryz.func142 (by rfl) (by kernel_rfl) (by kernel_rfl) Tryz.results142 (Nat.le_of_ble_eq_true (by kernel_rfl)) ?_
  conv => whnf
  repeat' (first | ((first | refine Split.mk (fun h => ?_) (fun h => ?_) | refine CondG.mk (fun h => ?_) (fun h => ?_)) <;> (try simp only [decide_eq_true_eq, decide_eq_false_iff_not, Bool.not_eq_true', Bool.not_eq_false', beq_iff_eq, beq_eq_false_iff_ne, bne_iff_ne, bne_eq_false_iff_eq] at h) <;> (first | (exfalso; first | omega | exact h trivial) | (conv => whnf))) | (refine Ask.mk (by first | omega | (unfold roomOK; simp [cutRows]; done) | (unfold roomOK; simp [cutRows]; omega) | (simp [cutRows]; done) | (simp [cutRows]; omega)) ?_; conv => whnf) | (refine AppG.mk (by first | omega | (unfold roomOK; simp [cutRows]; done) | (unfold roomOK; simp [cutRows]; omega) | (simp [cutRows]; done) | (simp [cutRows]; omega)) ?_; conv => whnf) | (refine SliceG.fr ?_; conv => whnf) | (refine idx_at _ (by with_reducible rfl) (by first | assumption | omega) ?_; conv => whnf) | ((with_reducible refine row_map (by first | assumption | omega) ?_); conv => whnf) | ((with_reducible refine row_set (by first | assumption | omega | (simp only [List.length_set]; omega) | (simp; omega)) ?_); conv => whnf) | fail)
  · exact fini (by rw [stErr, if_pos (by omega)])
  have hF : stErr s l = seqErr (keyErr (hasSv s)) id true ⟨#[]⟩ l := by rw [stErr, if_neg (by omega)]
  refine loop_for (l.length) [] [0, 1, 10, 11, 12] (fun k (_ : Unit) => [(12, .c (.int .i64 (k : Int)))]) (fun k (_ : Unit) => []) (fun k (_ : Unit) => seqErr (keyErr (hasSv s)) id (decide (k = 0)) (befK id l k) (l.drop k) = stErr s l) (()) ?_
  conv => whnf
  refine ⟨(by first | rfl | (simp; done) | (simp; rfl)), ?_, ?_, ?_⟩
  · exact hF.symm
  · intro k _ hk hi
    have hIx : svIx s l[k] < 0 ↔ hasSv s l[k] = false := by
      rcases svIx_or hs.rise l[k] with ⟨h1, h2⟩ | ⟨h1, i, hi, h2, _⟩
      · rw [h1, h2]; simp
      · rw [h1, h2]; simp
    conv => whnf
    repeat' (first | ((first | refine Split.mk (fun h => ?_) (fun h => ?_) | refine CondG.mk (fun h => ?_) (fun h => ?_)) <;> (try simp only [decide_eq_true_eq, decide_eq_false_iff_not, Bool.not_eq_true', Bool.not_eq_false', beq_iff_eq, beq_eq_false_iff_ne, bne_iff_ne, bne_eq_false_iff_eq] at h) <;> (first | (exfalso; first | omega | exact h trivial) | (conv => whnf))) | (refine CallX.mk _ _ (by first | exact fFind_pc s hs.rise (by omega) _) ?_; conv => whnf) | (refine CallG.mk _ _ (by first | exact fFind_pc s hs.rise (by omega) _) ?_; conv => whnf) | (refine Ask.mk (by first | omega | (unfold roomOK; simp [cutRows]; done) | (unfold roomOK; simp [cutRows]; omega) | (simp [cutRows]; done) | (simp [cutRows]; omega)) ?_; conv => whnf) | (refine AppG.mk (by first | omega | (unfold roomOK; simp [cutRows]; done) | (unfold roomOK; simp [cutRows]; omega) | (simp [cutRows]; done) | (simp [cutRows]; omega)) ?_; conv => whnf) | (refine SliceG.fr ?_; conv => whnf) | (refine idx_at _ (by with_reducible rfl) (by first | assumption | omega) ?_; conv => whnf) | ((with_reducible refine row_map (by first | assumption | omega) ?_); conv => whnf) | ((with_reducible refine row_set (by first | assumption | omega | (simp only [List.length_set]; omega) | (simp; omega)) ?_); conv => whnf) | ((refine idx_map (k - 1) (by omega) (by rw [wrap_in (by omega) (by omega)]; omega) ?_); conv => whnf) | fail)
    all_goals try simp only [toList_eq', hIx] at *
    all_goals have hb := befK_pos (key := id) (l := l) (Nat.le_of_lt hk)
    all_goals first
      | (refine fini (seq_hit hk hi ?_ (by decide)); clear hi hF; unfold keyErr; (try rw [hb (by omega)]); (repeat' split) <;> first | rfl | (exfalso; first | omega | (simp_all [leB, toList_eq']; done) | (simp_all [leB, toList_eq']; omega)))
      | (refine count_next () hk (by rw [wrap_succ hk (by omega)]; rfl) (seq_next' hk hi ?_); clear hi hF; unfold keyErr; (try rw [hb (by omega)]); (repeat' split) <;> first | rfl | (exfalso; first | omega | (simp_all [leB, toList_eq']; done) | (simp_all [leB, toList_eq']; omega)))
  · intro _ hi
    conv => whnf
    repeat' (first | ((first | refine Split.mk (fun h => ?_) (fun h => ?_) | refine CondG.mk (fun h => ?_) (fun h => ?_)) <;> (try simp only [decide_eq_true_eq, decide_eq_false_iff_not, Bool.not_eq_true', Bool.not_eq_false', beq_iff_eq, beq_eq_false_iff_ne, bne_iff_ne, bne_eq_false_iff_eq] at h) <;> (first | (exfalso; first | omega | exact h trivial) | (conv => whnf))) | (refine Ask.mk (by first | omega | (unfold roomOK; simp [cutRows]; done) | (unfold roomOK; simp [cutRows]; omega) | (simp [cutRows]; done) | (simp [cutRows]; omega)) ?_; conv => whnf) | (refine AppG.mk (by first | omega | (unfold roomOK; simp [cutRows]; done) | (unfold roomOK; simp [cutRows]; omega) | (simp [cutRows]; done) | (simp [cutRows]; omega)) ?_; conv => whnf) | (refine SliceG.fr ?_; conv => whnf) | (refine idx_at _ (by with_reducible rfl) (by first | assumption | omega) ?_; conv => whnf) | ((with_reducible refine row_map (by first | assumption | omega) ?_); conv => whnf) | ((with_reducible refine row_set (by first | assumption | omega | (simp only [List.length_set]; omega) | (simp; omega)) ?_); conv => whnf) | fail)
    exact fini (seq_end hi).symm
end Go.Proofs.YtobcplhaabaemaaGreat

/- Ducts and cables are made. -/
namespace Go.Proofs.YtobcplhaabaemaaGreat
set_option linter.unusedVariables false
set_option linter.unusedSimpArgs false
open Abs

end Go.Proofs.YtobcplhaabaemaaGreat

/- Cables in ducts are made. -/
namespace Go.Proofs.YtobcplhaabaemaaGreat
set_option linter.unusedVariables false
set_option linter.unusedSimpArgs false
open Abs

end Go.Proofs.YtobcplhaabaemaaGreat

/- Services and elements are made. -/
namespace Go.Proofs.YtobcplhaabaemaaGreat
set_option linter.unusedVariables false
set_option linter.unusedSimpArgs false
open Abs

end Go.Proofs.YtobcplhaabaemaaGreat

/- Suspects. -/
namespace Go.Proofs.YtobcplhaabaemaaGreat
set_option linter.unusedVariables false
set_option linter.unusedSimpArgs false
open Abs

/-- sorted, each once -/
theorem srt_one {a b : List ByteArray} (hp : a.Perm b) : insSort cmpS a = insSort cmpS b := by
  refine sorted_one (c := cmpS) (swo_key id) ?_ ((insSort_perm cmpS a).trans (hp.trans (insSort_perm cmpS b).symm)) (insSort_srt (swo_key id) a) (insSort_srt (swo_key id) b)
  intro x y h1 h2
  rw [cmp_lt] at h1 h2
  rcases ltB_tri x y with h | h | h
  · exact (h1 h).elim
  · exact h
  · exact (h2 h).elim
def risV (m : MB) : List ByteArray := insSort cmpS (ktL m.es)
set_option maxRecDepth 100000 in
set_option maxHeartbeats 4000000 in
theorem fRising_pc (m : MB) (hok : m.ok) (hl : m.es.length ≤ 1000000) : PCp 147 [.c (.mp 0)] [smO ekB evT m] (.c (.lst 1 ((risV m).map encS))) [smO ekB evT m] := by
  refine fn_sound (mt := mts) tab_fits tab_mixed Tryz.func147 (by rfl) (by kernel_rfl) (by kernel_rfl) Tryz.results147 (Nat.le_of_ble_eq_true (by kernel_rfl)) ?_
  conv => whnf
  refine loop_meas (fun (vis : List (Nat × ByteArray × Bool)) => m.es.length - vis.length) [.sl 3 9 1] [3, 7] (fun (vis : List (Nat × ByteArray × Bool)) => ⟨[(3, .c (.row 1)), (7, .c (.ptr 2 0))], [(0, smO ekB evT m), (1, .row 9 1 ((ktL vis.reverse).map encS)), (2, .iter 0 m.clock (vis.map (·.1)))], 3⟩) (fun (vis : List (Nat × ByteArray × Bool)) => Vis m vis) ([]) ?_ ?_
  · conv => whnf
    exact ⟨rfl, Vis.nil _⟩
  · intro vis hv
    have hvl := hv.len
    have hsl := ktL_len vis.reverse
    rw [List.length_reverse] at hsl
    have hslm : ((ktL vis.reverse).map encS).length = (ktL vis.reverse).length := List.length_map ..
    conv => whnf
    refine .mk rfl ?_
    conv => whnf
    refine sm_next hok hv (fun hp => ?_) (fun e he hn hv' hlt => ?_)
    · conv => whnf
      have hpr : (ktL vis.reverse).Perm (ktL m.es) := (((List.reverse_perm vis).trans hp).filter _).map _
      repeat' (first | ((first | refine Split.mk (fun h => ?_) (fun h => ?_) | refine CondG.mk (fun h => ?_) (fun h => ?_)) <;> (try simp only [decide_eq_true_eq, decide_eq_false_iff_not, Bool.not_eq_true', Bool.not_eq_false', beq_iff_eq, beq_eq_false_iff_ne, bne_iff_ne, bne_eq_false_iff_eq] at h) <;> (first | (exfalso; first | omega | exact h trivial) | (conv => whnf))) | (refine CallX.mk _ _ (by first | exact sortG_pc (ktL vis.reverse) (by omega)) ?_; conv => whnf) | (refine CallG.mk _ _ (by first | exact sortG_pc (ktL vis.reverse) (by omega)) ?_; conv => whnf) | (refine Ask.mk (by first | omega | (unfold roomOK; simp [cutRows]; done) | (unfold roomOK; simp [cutRows]; omega) | (simp [cutRows]; done) | (simp [cutRows]; omega)) ?_; conv => whnf) | (refine AppG.mk (by first | omega | (unfold roomOK; simp [cutRows]; done) | (unfold roomOK; simp [cutRows]; omega) | (simp [cutRows]; done) | (simp [cutRows]; omega)) ?_; conv => whnf) | (refine SliceG.fr ?_; conv => whnf) | (refine idx_at _ (by with_reducible rfl) (by first | assumption | omega) ?_; conv => whnf) | ((with_reducible refine row_map (by first | assumption | omega) ?_); conv => whnf) | ((with_reducible refine row_set (by first | assumption | omega | (simp only [List.length_set]; omega) | (simp; omega)) ?_); conv => whnf) | fail)
      have h1 : insSort cmpS (ktL vis.reverse) = risV m := srt_one hpr
      rw [h1]
      first
        | exact .frz 1 _ _ _ rfl (.weak [_, _] (.fro 1 _ _ rfl) rfl (Nat.le_refl _))
        | exact .frz 1 _ _ _ rfl (.weak [_] (.fro 1 _ _ rfl) rfl (Nat.le_refl _))
    · obtain ⟨en, ek, eb⟩ := e
      have h1 : ktL ((en, ek, eb) :: vis).reverse = ktL vis.reverse ++ (if eb then [ek] else []) := by
        cases eb <;> simp [ktL]
      conv => whnf
      refine .mk rfl ?_
      conv => whnf
      refine sm_at hok he ?_
      conv => whnf
      repeat' (first | ((first | refine Split.mk (fun h => ?_) (fun h => ?_) | refine CondG.mk (fun h => ?_) (fun h => ?_)) <;> (try simp only [decide_eq_true_eq, decide_eq_false_iff_not, Bool.not_eq_true', Bool.not_eq_false', beq_iff_eq, beq_eq_false_iff_ne, bne_iff_ne, bne_eq_false_iff_eq] at h) <;> (first | (exfalso; first | omega | exact h trivial) | (conv => whnf))) | (refine Ask.mk (by first | omega | (unfold roomOK; simp [cutRows]; done) | (unfold roomOK; simp [cutRows]; omega) | (simp [cutRows]; done) | (simp [cutRows]; omega)) ?_; conv => whnf) | (refine AppG.mk (by first | omega | (unfold roomOK; simp [cutRows]; done) | (unfold roomOK; simp [cutRows]; omega) | (simp [cutRows]; done) | (simp [cutRows]; omega)) ?_; conv => whnf) | (refine SliceG.fr ?_; conv => whnf) | (refine idx_at _ (by with_reducible rfl) (by first | assumption | omega) ?_; conv => whnf) | ((with_reducible refine row_map (by first | assumption | omega) ?_); conv => whnf) | ((with_reducible refine row_set (by first | assumption | omega | (simp only [List.length_set]; omega) | (simp; omega)) ?_); conv => whnf) | fail)
      · exact meas_next ((en, ek, eb) :: vis) (by simp only [List.length_cons]; omega) (by rw [h1, if_pos h, List.map_append]; rfl) hv'
      · exact meas_next ((en, ek, eb) :: vis) (by simp only [List.length_cons]; omega) (by rw [h1, if_neg (by rw [h]; decide), List.append_nil]; rfl) hv'
/-! what can be broken -/
def elsOf (s : List Sv) (l : List ByteArray) : List ByteArray := l.flatMap fun k => (svG s k).els
def susM (s : List Sv) (down up : List ByteArray) : MB := putAll (putAll SM.nil (elsOf s down) true) (elsOf s up) false
def susV (s : List Sv) (down up : List ByteArray) : List ByteArray := risV (susM s down up)
theorem susM_ok (s : List Sv) (down up : List ByteArray) : (susM s down up).ok := putAll_ok _ (putAll_ok _ SM.ok_nil)
theorem elsOf_succ (s : List Sv) (l : List ByteArray) {k : Nat} (h : k < l.length) : elsOf s (l.take (k + 1)) = elsOf s (l.take k) ++ (svG s l[k]).els := by
  rw [List.take_succ_eq_append_getElem h]; unfold elsOf; rw [List.flatMap_append]; simp
theorem elsOf_len {s : List Sv} (hs : SvOk s) : ∀ {l : List ByteArray}, (∀ k ∈ l, hasSv s k = true) → (elsOf s l).length ≤ 100 * l.length
  | [], _ => by simp [elsOf]
  | a :: r, h => by
    have ih := elsOf_len hs (l := r) (fun k hk => h k (by simp [hk]))
    obtain ⟨x, hx, hk⟩ := hasSv_iff.1 (h a (by simp))
    have h1 : svG s a = x := by rw [← hk]; exact svG_mem hs.rise hx
    have h2 := (hs.each x hx).len
    unfold elsOf at ih ⊢
    rw [List.flatMap_cons, List.length_append, h1]
    simp only [List.length_cons]; omega
set_option maxRecDepth 100000 in
set_option maxHeartbeats 4000000 in
theorem fSuspects_pc (s : List Sv) (hs : SvOk s) (down up : List ByteArray) (hd : StOkL s down) (hu : StOkL s up) :
    PCp 101 [.c (.lst 3 (s.map encSv)), .c (.lst 1 (down.map encS)), .c (.lst 1 (up.map encS))] [] (.c (.lst 1 ((susV s down up).map encS))) [] := by
  have hsl := hs.len
  have hdl := hd.len
  have hul := hu.len
  have hdm : (down.map encS).length = down.length := List.length_map ..
  have hum : (up.map encS).length = up.length := List.length_map ..
  have hsm : (s.map encSv).length = s.length := List.length_map ..
  have hat : ∀ k, hasSv s k = true → ∃ i, ∃ hi : i < s.length, svIx s k = ((i : Nat) : Int) ∧ s[i] = svG s k ∧ s[i].els.length ≤ 100 := by
    intro k hk
    rcases svIx_or hs.rise k with ⟨h1, _⟩ | ⟨_, i, hi, h2, h3⟩
    · rw [h1] at hk; cases hk
    · exact ⟨i, hi, h2, h3, (hs.each _ (List.getElem_mem hi)).len⟩
  refine fn_sound (mt := mts) tab_fits tab_mixed Tryz.func101 (by rfl) (by kernel_rfl) (by kernel_rfl) Tryz.results101 (Nat.le_of_ble_eq_true (by kernel_rfl)) ?_
  conv => whnf
  refine loop_for (down.length) [] [0, 2, 7, 17, 18, 19] (fun k (_ : Unit) => [(19, .c (.int .i64 (k : Int)))]) (fun k (_ : Unit) => [(0, smO ekB evT (putAll SM.nil (elsOf s (down.take k)) true))]) (fun k (_ : Unit) => True) (()) ?_
  conv => whnf
  refine ⟨(by first | rfl | (simp; done) | (simp; rfl)), (by trivial), ?_, ?_⟩
  · intro k _ hk _
    obtain ⟨i, hi, h2, h3, h4⟩ := hat _ (hd.has _ (List.getElem_mem hk))
    have hem : (s[i].els.map encS).length = s[i].els.length := List.length_map ..
    conv => whnf
    repeat' (first | ((first | refine Split.mk (fun h => ?_) (fun h => ?_) | refine CondG.mk (fun h => ?_) (fun h => ?_)) <;> (try simp only [decide_eq_true_eq, decide_eq_false_iff_not, Bool.not_eq_true', Bool.not_eq_false', beq_iff_eq, beq_eq_false_iff_ne, bne_iff_ne, bne_eq_false_iff_eq] at h) <;> (first | (exfalso; first | omega | exact h trivial) | (conv => whnf))) | (refine CallX.mk _ _ (by first | exact fFind_pc s hs.rise (by omega) _) ?_; conv => whnf) | (refine CallG.mk _ _ (by first | exact fFind_pc s hs.rise (by omega) _) ?_; conv => whnf) | (refine Ask.mk (by first | omega | (unfold roomOK; simp [cutRows]; done) | (unfold roomOK; simp [cutRows]; omega) | (simp [cutRows]; done) | (simp [cutRows]; omega)) ?_; conv => whnf) | (refine AppG.mk (by first | omega | (unfold roomOK; simp [cutRows]; done) | (unfold roomOK; simp [cutRows]; omega) | (simp [cutRows]; done) | (simp [cutRows]; omega)) ?_; conv => whnf) | (refine SliceG.fr ?_; conv => whnf) | (refine idx_at _ (by with_reducible rfl) (by first | assumption | omega) ?_; conv => whnf) | ((with_reducible refine row_map (by first | assumption | omega) ?_); conv => whnf) | ((with_reducible refine row_set (by first | assumption | omega | (simp only [List.length_set]; omega) | (simp; omega)) ?_); conv => whnf) | ((rw [h2]; refine idx_map i hi rfl ?_); conv => whnf) | fail)
    refine loop_for (s[i].els.length) [] [0, 2, 7, 17, 18, 19, 29, 30, 31] (fun j (_ : Unit) => [(31, .c (.int .i64 (j : Int)))]) (fun j (_ : Unit) => [(0, smO ekB evT (putAll (putAll SM.nil (elsOf s (down.take k)) true) (s[i].els.take j) true))]) (fun j (_ : Unit) => True) (()) ?_
    conv => whnf
    refine ⟨(by first | rfl | (simp; done) | (simp; rfl)), (by trivial), ?_, ?_⟩
    · intro j _ hj _
      conv => whnf
      repeat' (first | ((first | refine Split.mk (fun h => ?_) (fun h => ?_) | refine CondG.mk (fun h => ?_) (fun h => ?_)) <;> (try simp only [decide_eq_true_eq, decide_eq_false_iff_not, Bool.not_eq_true', Bool.not_eq_false', beq_iff_eq, beq_eq_false_iff_ne, bne_iff_ne, bne_eq_false_iff_eq] at h) <;> (first | (exfalso; first | omega | exact h trivial) | (conv => whnf))) | (refine Ask.mk (by first | omega | (unfold roomOK; simp [cutRows]; done) | (unfold roomOK; simp [cutRows]; omega) | (simp [cutRows]; done) | (simp [cutRows]; omega)) ?_; conv => whnf) | (refine AppG.mk (by first | omega | (unfold roomOK; simp [cutRows]; done) | (unfold roomOK; simp [cutRows]; omega) | (simp [cutRows]; done) | (simp [cutRows]; omega)) ?_; conv => whnf) | (refine SliceG.fr ?_; conv => whnf) | (refine idx_at _ (by with_reducible rfl) (by first | assumption | omega) ?_; conv => whnf) | ((with_reducible refine row_map (by first | assumption | omega) ?_); conv => whnf) | ((with_reducible refine row_set (by first | assumption | omega | (simp only [List.length_set]; omega) | (simp; omega)) ?_); conv => whnf) | ((with_reducible refine sm_look (ek := ekB) (ev := evT) keyStr _ _ (false) ?_ ?_); exact rfl; conv => whnf) | ((with_reducible refine sm_upd (ek := ekB) (ev := evT) keyStr _ _ true ?_); conv => whnf) | ((with_reducible refine sm_del (ek := ekB) (ev := evT) keyStr _ _ ?_); conv => whnf) | ((with_reducible refine sm_entry (ek := ekB) (ev := evT) keyStr _ _ (false) ?_ ?_); exact rfl; conv => whnf) | fail)
      exact count_next () hj (by rw [wrap_succ hj (by omega), putAll_succ _ _ hj]; rfl) trivial
    · intro _ _
      rw [List.take_length]
      conv => whnf
      repeat' (first | ((first | refine Split.mk (fun h => ?_) (fun h => ?_) | refine CondG.mk (fun h => ?_) (fun h => ?_)) <;> (try simp only [decide_eq_true_eq, decide_eq_false_iff_not, Bool.not_eq_true', Bool.not_eq_false', beq_iff_eq, beq_eq_false_iff_ne, bne_iff_ne, bne_eq_false_iff_eq] at h) <;> (first | (exfalso; first | omega | exact h trivial) | (conv => whnf))) | (refine Ask.mk (by first | omega | (unfold roomOK; simp [cutRows]; done) | (unfold roomOK; simp [cutRows]; omega) | (simp [cutRows]; done) | (simp [cutRows]; omega)) ?_; conv => whnf) | (refine AppG.mk (by first | omega | (unfold roomOK; simp [cutRows]; done) | (unfold roomOK; simp [cutRows]; omega) | (simp [cutRows]; done) | (simp [cutRows]; omega)) ?_; conv => whnf) | (refine SliceG.fr ?_; conv => whnf) | (refine idx_at _ (by with_reducible rfl) (by first | assumption | omega) ?_; conv => whnf) | ((with_reducible refine row_map (by first | assumption | omega) ?_); conv => whnf) | ((with_reducible refine row_set (by first | assumption | omega | (simp only [List.length_set]; omega) | (simp; omega)) ?_); conv => whnf) | fail)
      exact count_next () hk (by rw [wrap_succ hk (by omega), elsOf_succ s down hk, putAll_app, ← h3]; rfl) trivial
  · intro _ _
    rw [List.take_length]
    conv => whnf
    repeat' (first | ((first | refine Split.mk (fun h => ?_) (fun h => ?_) | refine CondG.mk (fun h => ?_) (fun h => ?_)) <;> (try simp only [decide_eq_true_eq, decide_eq_false_iff_not, Bool.not_eq_true', Bool.not_eq_false', beq_iff_eq, beq_eq_false_iff_ne, bne_iff_ne, bne_eq_false_iff_eq] at h) <;> (first | (exfalso; first | omega | exact h trivial) | (conv => whnf))) | (refine Ask.mk (by first | omega | (unfold roomOK; simp [cutRows]; done) | (unfold roomOK; simp [cutRows]; omega) | (simp [cutRows]; done) | (simp [cutRows]; omega)) ?_; conv => whnf) | (refine AppG.mk (by first | omega | (unfold roomOK; simp [cutRows]; done) | (unfold roomOK; simp [cutRows]; omega) | (simp [cutRows]; done) | (simp [cutRows]; omega)) ?_; conv => whnf) | (refine SliceG.fr ?_; conv => whnf) | (refine idx_at _ (by with_reducible rfl) (by first | assumption | omega) ?_; conv => whnf) | ((with_reducible refine row_map (by first | assumption | omega) ?_); conv => whnf) | ((with_reducible refine row_set (by first | assumption | omega | (simp only [List.length_set]; omega) | (simp; omega)) ?_); conv => whnf) | fail)
    refine loop_for (up.length) [] [0, 7, 39, 40, 41] (fun k (_ : Unit) => [(41, .c (.int .i64 (k : Int)))]) (fun k (_ : Unit) => [(0, smO ekB evT (putAll (putAll SM.nil (elsOf s down) true) (elsOf s (up.take k)) false))]) (fun k (_ : Unit) => True) (()) ?_
    conv => whnf
    refine ⟨(by first | rfl | (simp; done) | (simp; rfl)), (by trivial), ?_, ?_⟩
    · intro k _ hk _
      obtain ⟨i, hi, h2, h3, h4⟩ := hat _ (hu.has _ (List.getElem_mem hk))
      have hem : (s[i].els.map encS).length = s[i].els.length := List.length_map ..
      conv => whnf
      repeat' (first | ((first | refine Split.mk (fun h => ?_) (fun h => ?_) | refine CondG.mk (fun h => ?_) (fun h => ?_)) <;> (try simp only [decide_eq_true_eq, decide_eq_false_iff_not, Bool.not_eq_true', Bool.not_eq_false', beq_iff_eq, beq_eq_false_iff_ne, bne_iff_ne, bne_eq_false_iff_eq] at h) <;> (first | (exfalso; first | omega | exact h trivial) | (conv => whnf))) | (refine CallX.mk _ _ (by first | exact fFind_pc s hs.rise (by omega) _) ?_; conv => whnf) | (refine CallG.mk _ _ (by first | exact fFind_pc s hs.rise (by omega) _) ?_; conv => whnf) | (refine Ask.mk (by first | omega | (unfold roomOK; simp [cutRows]; done) | (unfold roomOK; simp [cutRows]; omega) | (simp [cutRows]; done) | (simp [cutRows]; omega)) ?_; conv => whnf) | (refine AppG.mk (by first | omega | (unfold roomOK; simp [cutRows]; done) | (unfold roomOK; simp [cutRows]; omega) | (simp [cutRows]; done) | (simp [cutRows]; omega)) ?_; conv => whnf) | (refine SliceG.fr ?_; conv => whnf) | (refine idx_at _ (by with_reducible rfl) (by first | assumption | omega) ?_; conv => whnf) | ((with_reducible refine row_map (by first | assumption | omega) ?_); conv => whnf) | ((with_reducible refine row_set (by first | assumption | omega | (simp only [List.length_set]; omega) | (simp; omega)) ?_); conv => whnf) | ((rw [h2]; refine idx_map i hi rfl ?_); conv => whnf) | fail)
      refine loop_for (s[i].els.length) [] [0, 7, 39, 40, 41, 51, 52, 53] (fun j (_ : Unit) => [(53, .c (.int .i64 (j : Int)))]) (fun j (_ : Unit) => [(0, smO ekB evT (putAll (putAll (putAll SM.nil (elsOf s down) true) (elsOf s (up.take k)) false) (s[i].els.take j) false))]) (fun j (_ : Unit) => True) (()) ?_
      conv => whnf
      refine ⟨(by first | rfl | (simp; done) | (simp; rfl)), (by trivial), ?_, ?_⟩
      · intro j _ hj _
        conv => whnf
        repeat' (first | ((first | refine Split.mk (fun h => ?_) (fun h => ?_) | refine CondG.mk (fun h => ?_) (fun h => ?_)) <;> (try simp only [decide_eq_true_eq, decide_eq_false_iff_not, Bool.not_eq_true', Bool.not_eq_false', beq_iff_eq, beq_eq_false_iff_ne, bne_iff_ne, bne_eq_false_iff_eq] at h) <;> (first | (exfalso; first | omega | exact h trivial) | (conv => whnf))) | (refine Ask.mk (by first | omega | (unfold roomOK; simp [cutRows]; done) | (unfold roomOK; simp [cutRows]; omega) | (simp [cutRows]; done) | (simp [cutRows]; omega)) ?_; conv => whnf) | (refine AppG.mk (by first | omega | (unfold roomOK; simp [cutRows]; done) | (unfold roomOK; simp [cutRows]; omega) | (simp [cutRows]; done) | (simp [cutRows]; omega)) ?_; conv => whnf) | (refine SliceG.fr ?_; conv => whnf) | (refine idx_at _ (by with_reducible rfl) (by first | assumption | omega) ?_; conv => whnf) | ((with_reducible refine row_map (by first | assumption | omega) ?_); conv => whnf) | ((with_reducible refine row_set (by first | assumption | omega | (simp only [List.length_set]; omega) | (simp; omega)) ?_); conv => whnf) | ((with_reducible refine sm_look (ek := ekB) (ev := evT) keyStr _ _ (false) ?_ ?_); exact rfl; conv => whnf) | ((with_reducible refine sm_upd (ek := ekB) (ev := evT) keyStr _ _ false ?_); conv => whnf) | ((with_reducible refine sm_del (ek := ekB) (ev := evT) keyStr _ _ ?_); conv => whnf) | ((with_reducible refine sm_entry (ek := ekB) (ev := evT) keyStr _ _ (false) ?_ ?_); exact rfl; conv => whnf) | fail)
        exact count_next () hj (by rw [wrap_succ hj (by omega), putAll_succ _ _ hj]; rfl) trivial
      · intro _ _
        rw [List.take_length]
        conv => whnf
        repeat' (first | ((first | refine Split.mk (fun h => ?_) (fun h => ?_) | refine CondG.mk (fun h => ?_) (fun h => ?_)) <;> (try simp only [decide_eq_true_eq, decide_eq_false_iff_not, Bool.not_eq_true', Bool.not_eq_false', beq_iff_eq, beq_eq_false_iff_ne, bne_iff_ne, bne_eq_false_iff_eq] at h) <;> (first | (exfalso; first | omega | exact h trivial) | (conv => whnf))) | (refine Ask.mk (by first | omega | (unfold roomOK; simp [cutRows]; done) | (unfold roomOK; simp [cutRows]; omega) | (simp [cutRows]; done) | (simp [cutRows]; omega)) ?_; conv => whnf) | (refine AppG.mk (by first | omega | (unfold roomOK; simp [cutRows]; done) | (unfold roomOK; simp [cutRows]; omega) | (simp [cutRows]; done) | (simp [cutRows]; omega)) ?_; conv => whnf) | (refine SliceG.fr ?_; conv => whnf) | (refine idx_at _ (by with_reducible rfl) (by first | assumption | omega) ?_; conv => whnf) | ((with_reducible refine row_map (by first | assumption | omega) ?_); conv => whnf) | ((with_reducible refine row_set (by first | assumption | omega | (simp only [List.length_set]; omega) | (simp; omega)) ?_); conv => whnf) | fail)
        exact count_next () hk (by rw [wrap_succ hk (by omega), elsOf_succ s up hk, putAll_app, ← h3]; rfl) trivial
    · intro _ _
      rw [List.take_length]
      have hml : (susM s down up).es.length ≤ 1000000 := by
        have h1 := putAll_len (b := false) (elsOf s up) (putAll SM.nil (elsOf s down) true)
        have h2 := putAll_len (b := true) (elsOf s down) (SM.nil : MB)
        have h3 := elsOf_len hs hd.has
        have h4 := elsOf_len hs hu.has
        have h5 : (SM.nil : MB).es.length = 0 := rfl
        unfold susM; omega
      conv => whnf
      repeat' (first | ((first | refine Split.mk (fun h => ?_) (fun h => ?_) | refine CondG.mk (fun h => ?_) (fun h => ?_)) <;> (try simp only [decide_eq_true_eq, decide_eq_false_iff_not, Bool.not_eq_true', Bool.not_eq_false', beq_iff_eq, beq_eq_false_iff_ne, bne_iff_ne, bne_eq_false_iff_eq] at h) <;> (first | (exfalso; first | omega | exact h trivial) | (conv => whnf))) | (refine CallX.mk _ _ (by first | exact fRising_pc (susM s down up) (susM_ok ..) hml) ?_; conv => whnf) | (refine CallG.mk _ _ (by first | exact fRising_pc (susM s down up) (susM_ok ..) hml) ?_; conv => whnf) | (refine Ask.mk (by first | omega | (unfold roomOK; simp [cutRows]; done) | (unfold roomOK; simp [cutRows]; omega) | (simp [cutRows]; done) | (simp [cutRows]; omega)) ?_; conv => whnf) | (refine AppG.mk (by first | omega | (unfold roomOK; simp [cutRows]; done) | (unfold roomOK; simp [cutRows]; omega) | (simp [cutRows]; done) | (simp [cutRows]; omega)) ?_; conv => whnf) | (refine SliceG.fr ?_; conv => whnf) | (refine idx_at _ (by with_reducible rfl) (by first | assumption | omega) ?_; conv => whnf) | ((with_reducible refine row_map (by first | assumption | omega) ?_); conv => whnf) | ((with_reducible refine row_set (by first | assumption | omega | (simp only [List.length_set]; omega) | (simp; omega)) ?_); conv => whnf) | fail)
      first
        | exact .mk ⟨rfl, rfl⟩
        | exact .weak [] (.refl _) rfl (Nat.le_refl _)
        | exact .weak [_] (.refl _) rfl (Nat.le_refl _)
set_option maxRecDepth 100000 in
set_option maxHeartbeats 4000000 in
theorem fHas_pc {l : List ByteArray} (h : Rise id l) (hl : l.length ≤ 1000000) (t : ByteArray) : PCp 145 [.c (.lst 1 (l.map encS)), .c (.str t)] [] (.c (.bool (decide (t ∈ l)))) [] := by
  refine fn_sound (mt := mts) tab_fits tab_mixed Tryz.func145 (by rfl) (by kernel_rfl) (by kernel_rfl) Tryz.results145 (Nat.le_of_ble_eq_true (by kernel_rfl)) ?_
  conv => whnf
  repeat' (first | ((first | refine Split.mk (fun h => ?_) (fun h => ?_) | refine CondG.mk (fun h => ?_) (fun h => ?_)) <;> (try simp only [decide_eq_true_eq, decide_eq_false_iff_not, Bool.not_eq_true', Bool.not_eq_false', beq_iff_eq, beq_eq_false_iff_ne, bne_iff_ne, bne_eq_false_iff_eq] at h) <;> (first | (exfalso; first | omega | exact h trivial) | (conv => whnf))) | (refine CallX.mk _ _ (by first | exact binG_pc h hl t) ?_; conv => whnf) | (refine CallG.mk _ _ (by first | exact binG_pc h hl t) ?_; conv => whnf) | (refine Ask.mk (by first | omega | (unfold roomOK; simp [cutRows]; done) | (unfold roomOK; simp [cutRows]; omega) | (simp [cutRows]; done) | (simp [cutRows]; omega)) ?_; conv => whnf) | (refine AppG.mk (by first | omega | (unfold roomOK; simp [cutRows]; done) | (unfold roomOK; simp [cutRows]; omega) | (simp [cutRows]; done) | (simp [cutRows]; omega)) ?_; conv => whnf) | (refine SliceG.fr ?_; conv => whnf) | (refine idx_at _ (by with_reducible rfl) (by first | assumption | omega) ?_; conv => whnf) | ((with_reducible refine row_map (by first | assumption | omega) ?_); conv => whnf) | ((with_reducible refine row_set (by first | assumption | omega | (simp only [List.length_set]; omega) | (simp; omega)) ?_); conv => whnf) | fail)
  exact finb rfl
set_option maxRecDepth 100000 in
set_option maxHeartbeats 4000000 in
theorem ixU_pc (cs : List (List V)) (g : Nat) (p : ByteArray → Bool) (l : List ByteArray) (hl : l.length ≤ 1000000) (hg : ∀ x ∈ l, PCp g [.c (.str x), .c (.ptr 0 0)] [.box [.lst 1 cs]] (.c (.bool (p x))) [.box [.lst 1 cs]]) : PCp 173 [.c (.lst 1 (l.map encS)), .c (.fn g [.ptr 0 0])] [.box [.lst 1 cs]] (.c (.int .i64 (idxP p l))) [.box [.lst 1 cs]] := by
  have hlm : (l.map encS).length = l.length := List.length_map ..
  refine fn_sound (mt := mts) tab_fits tab_mixed Tryz.func173 (by rfl) (by kernel_rfl) (by kernel_rfl) Tryz.results173 (Nat.le_of_ble_eq_true (by kernel_rfl)) ?_
  conv => whnf
  refine loop_count (l.length) [] [0, 1, 7, 8] (fun k (_ : Unit) => ⟨[(0, .c (.lst 1 (l.map encS))), (1, .c (.fn g [.ptr 0 0])), (7, .c (.int .i64 (l.map encS).length)), (8, .c (.int .i64 k))], [(0, .box [.lst 1 cs])], 1⟩) (fun k (_ : Unit) => ∀ i (hi : i < l.length), i < k → p l[i] = false) (()) ?_ ?_ ?_
  · conv => whnf
    exact ⟨rfl, by intro i hi h; omega⟩
  · intro k _ hk hi
    conv => whnf
    repeat' (first | ((first | refine Split.mk (fun h => ?_) (fun h => ?_) | refine CondG.mk (fun h => ?_) (fun h => ?_)) <;> (try simp only [decide_eq_true_eq, decide_eq_false_iff_not, Bool.not_eq_true', Bool.not_eq_false', beq_iff_eq, beq_eq_false_iff_ne, bne_iff_ne, bne_eq_false_iff_eq] at h) <;> (first | (exfalso; first | omega | exact h trivial) | (conv => whnf))) | (refine CallX.mk _ _ (by first | exact hg l[k] (List.getElem_mem hk)) ?_; conv => whnf) | (refine CallG.mk _ _ (by first | exact hg l[k] (List.getElem_mem hk)) ?_; conv => whnf) | (refine Ask.mk (by first | omega | (unfold roomOK; simp [cutRows]; done) | (unfold roomOK; simp [cutRows]; omega) | (simp [cutRows]; done) | (simp [cutRows]; omega)) ?_; conv => whnf) | (refine AppG.mk (by first | omega | (unfold roomOK; simp [cutRows]; done) | (unfold roomOK; simp [cutRows]; omega) | (simp [cutRows]; done) | (simp [cutRows]; omega)) ?_; conv => whnf) | (refine SliceG.fr ?_; conv => whnf) | (refine idx_at _ (by with_reducible rfl) (by first | assumption | omega) ?_; conv => whnf) | ((with_reducible refine row_map (by first | assumption | omega) ?_); conv => whnf) | ((with_reducible refine row_set (by first | assumption | omega | (simp only [List.length_set]; omega) | (simp; omega)) ?_); conv => whnf) | fail)
    · exact .mk ⟨by rw [idxP_hit hk (fun i hi' => hi i (by omega) hi') h]; rfl, rfl⟩
    · refine count_next () hk (by rw [wrap_succ hk (by omega)]; rfl) ?_
      exact all_succ' hi h
  · intro _ hi
    conv => whnf
    repeat' (first | ((first | refine Split.mk (fun h => ?_) (fun h => ?_) | refine CondG.mk (fun h => ?_) (fun h => ?_)) <;> (try simp only [decide_eq_true_eq, decide_eq_false_iff_not, Bool.not_eq_true', Bool.not_eq_false', beq_iff_eq, beq_eq_false_iff_ne] at h) <;> (first | (exfalso; first | omega | exact h trivial) | (conv => whnf))) | (refine Ask.mk (by first | omega | (unfold roomOK; simp [cutRows]; done) | (unfold roomOK; simp [cutRows]; omega)) ?_; conv => whnf) | (refine AppG.mk (by first | omega | (unfold roomOK; simp [cutRows]; done) | (unfold roomOK; simp [cutRows]; omega)) ?_; conv => whnf) | (refine SliceG.fr ?_; conv => whnf) | fail)
    exact .mk ⟨by rw [idxP_miss (fun i h => hi i h h)]; rfl, rfl⟩
set_option maxRecDepth 100000 in
set_option maxHeartbeats 4000000 in
theorem ixUC_pc (cs : List (List V)) (g : Nat) (p : ByteArray → Bool) (l : List ByteArray) (hl : l.length ≤ 1000000) (hg : ∀ x ∈ l, PCp g [.c (.str x), .c (.ptr 0 0)] [.box [.lst 1 cs]] (.c (.bool (p x))) [.box [.lst 1 cs]]) : PCp 143 [.c (.lst 1 (l.map encS)), .c (.fn g [.ptr 0 0])] [.box [.lst 1 cs]] (.c (.bool (l.any p))) [.box [.lst 1 cs]] := by
  refine fn_sound (mt := mts) tab_fits tab_mixed Tryz.func143 (by rfl) (by kernel_rfl) (by kernel_rfl) Tryz.results143 (Nat.le_of_ble_eq_true (by kernel_rfl)) ?_
  conv => whnf
  repeat' (first | ((first | refine Split.mk (fun h => ?_) (fun h => ?_) | refine CondG.mk (fun h => ?_) (fun h => ?_)) <;> (try simp only [decide_eq_true_eq, decide_eq_false_iff_not, Bool.not_eq_true', Bool.not_eq_false', beq_iff_eq, beq_eq_false_iff_ne] at h) <;> (first | (exfalso; first | omega | exact h trivial) | (conv => whnf))) | (refine CallX.mk _ _ (by first | exact ixU_pc cs g p l hl hg) ?_; conv => whnf) | (refine CallG.mk _ _ (by first | exact ixU_pc cs g p l hl hg) ?_; conv => whnf) | (refine Ask.mk (by first | omega | (unfold roomOK; simp [cutRows]; done) | (unfold roomOK; simp [cutRows]; omega)) ?_; conv => whnf) | (refine AppG.mk (by first | omega | (unfold roomOK; simp [cutRows]; done) | (unfold roomOK; simp [cutRows]; omega)) ?_; conv => whnf) | (refine SliceG.fr ?_; conv => whnf) | fail)
  exact .mk ⟨by rw [← idxP_any]; rfl, rfl⟩
set_option maxRecDepth 100000 in
set_option maxHeartbeats 4000000 in
theorem fState1_pc {up : List ByteArray} (h : Rise id up) (hl : up.length ≤ 1000000) (x : ByteArray) : PCp 144 [.c (.str x), .c (.ptr 0 0)] [.box [.lst 1 (up.map encS)]] (.c (.bool (decide (x ∈ up)))) [.box [.lst 1 (up.map encS)]] := by
  refine fn_sound (mt := mts) tab_fits tab_mixed Tryz.func144 (by rfl) (by kernel_rfl) (by kernel_rfl) Tryz.results144 (Nat.le_of_ble_eq_true (by kernel_rfl)) ?_
  conv => whnf
  repeat' (first | ((first | refine Split.mk (fun h => ?_) (fun h => ?_) | refine CondG.mk (fun h => ?_) (fun h => ?_)) <;> (try simp only [decide_eq_true_eq, decide_eq_false_iff_not, Bool.not_eq_true', Bool.not_eq_false', beq_iff_eq, beq_eq_false_iff_ne, bne_iff_ne, bne_eq_false_iff_eq] at h) <;> (first | (exfalso; first | omega | exact h trivial) | (conv => whnf))) | (refine CallX.mk _ _ (by first | exact fHas_pc h hl x) ?_; conv => whnf) | (refine CallG.mk _ _ (by first | exact fHas_pc h hl x) ?_; conv => whnf) | (refine Ask.mk (by first | omega | (unfold roomOK; simp [cutRows]; done) | (unfold roomOK; simp [cutRows]; omega) | (simp [cutRows]; done) | (simp [cutRows]; omega)) ?_; conv => whnf) | (refine AppG.mk (by first | omega | (unfold roomOK; simp [cutRows]; done) | (unfold roomOK; simp [cutRows]; omega) | (simp [cutRows]; done) | (simp [cutRows]; omega)) ?_; conv => whnf) | (refine SliceG.fr ?_; conv => whnf) | (refine idx_at _ (by with_reducible rfl) (by first | assumption | omega) ?_; conv => whnf) | ((with_reducible refine row_map (by first | assumption | omega) ?_); conv => whnf) | ((with_reducible refine row_set (by first | assumption | omega | (simp only [List.length_set]; omega) | (simp; omega)) ?_); conv => whnf) | fail)
  exact .mk ⟨rfl, rfl⟩
set_option maxRecDepth 100000 in
set_option maxHeartbeats 4000000 in
theorem fState_pc (s : List Sv) (hx : ∀ x ∈ s, x.els.length ≤ 1000000) (down up : List ByteArray) : PCp 100 [.c (.lst 3 (s.map encSv)), .c (.lst 1 (down.map encS)), .c (.lst 1 (up.map encS))] [] (.c (.int .i64 (seenErr s down up))) [] := by
  have hdm : (down.map encS).length = down.length := List.length_map ..
  refine fn_sound (mt := mts) tab_fits tab_mixed Tryz.func100 (by rfl) (by kernel_rfl) (by kernel_rfl) Tryz.results100 (Nat.le_of_ble_eq_true (by kernel_rfl)) ?_
  conv => whnf
  repeat' (first | ((first | refine Split.mk (fun h => ?_) (fun h => ?_) | refine CondG.mk (fun h => ?_) (fun h => ?_)) <;> (try simp only [decide_eq_true_eq, decide_eq_false_iff_not, Bool.not_eq_true', Bool.not_eq_false', beq_iff_eq, beq_eq_false_iff_ne, bne_iff_ne, bne_eq_false_iff_eq] at h) <;> (first | (exfalso; first | omega | exact h trivial) | (conv => whnf))) | (refine CallX.mk _ _ (by first | exact checkServices_pc s hx) ?_; conv => whnf) | (refine CallG.mk _ _ (by first | exact checkServices_pc s hx) ?_; conv => whnf) | (refine Ask.mk (by first | omega | (unfold roomOK; simp [cutRows]; done) | (unfold roomOK; simp [cutRows]; omega) | (simp [cutRows]; done) | (simp [cutRows]; omega)) ?_; conv => whnf) | (refine AppG.mk (by first | omega | (unfold roomOK; simp [cutRows]; done) | (unfold roomOK; simp [cutRows]; omega) | (simp [cutRows]; done) | (simp [cutRows]; omega)) ?_; conv => whnf) | (refine SliceG.fr ?_; conv => whnf) | (refine idx_at _ (by with_reducible rfl) (by first | assumption | omega) ?_; conv => whnf) | ((with_reducible refine row_map (by first | assumption | omega) ?_); conv => whnf) | ((with_reducible refine row_set (by first | assumption | omega | (simp only [List.length_set]; omega) | (simp; omega)) ?_); conv => whnf) | fail)
  · exact fini (by rw [seenErr, if_pos (by assumption)])
  have hs0 : svFault s = 0 := by simp_all
  have hs := svFault_ok hs0
  repeat' (first | ((first | refine Split.mk (fun h => ?_) (fun h => ?_) | refine CondG.mk (fun h => ?_) (fun h => ?_)) <;> (try simp only [decide_eq_true_eq, decide_eq_false_iff_not, Bool.not_eq_true', Bool.not_eq_false', beq_iff_eq, beq_eq_false_iff_ne, bne_iff_ne, bne_eq_false_iff_eq] at h) <;> (first | (exfalso; first | omega | exact h trivial) | (conv => whnf))) | (refine CallX.mk _ _ (by first | exact listFault_pc s hs _ | exact first_pc [_, _] (by simp)) ?_; conv => whnf) | (refine CallG.mk _ _ (by first | exact listFault_pc s hs _ | exact first_pc [_, _] (by simp)) ?_; conv => whnf) | (refine Ask.mk (by first | omega | (unfold roomOK; simp [cutRows]; done) | (unfold roomOK; simp [cutRows]; omega) | (simp [cutRows]; done) | (simp [cutRows]; omega)) ?_; conv => whnf) | (refine AppG.mk (by first | omega | (unfold roomOK; simp [cutRows]; done) | (unfold roomOK; simp [cutRows]; omega) | (simp [cutRows]; done) | (simp [cutRows]; omega)) ?_; conv => whnf) | (refine SliceG.fr ?_; conv => whnf) | (refine idx_at _ (by with_reducible rfl) (by first | assumption | omega) ?_; conv => whnf) | ((with_reducible refine row_map (by first | assumption | omega) ?_); conv => whnf) | ((with_reducible refine row_set (by first | assumption | omega | (simp only [List.length_set]; omega) | (simp; omega)) ?_); conv => whnf) | fail)
  · refine fini ?_
    rw [seenErr, if_neg (by simp [hs0])]
    simp only [firstErr] at *
    (repeat' split) <;> first | rfl | omega | (simp_all; done)
  have hf : stErr s down = 0 ∧ stErr s up = 0 := by
    rename_i h
    simp only [firstErr] at h
    by_cases h1 : stErr s down = 0 <;> by_cases h2 : stErr s up = 0 <;> simp_all
  obtain ⟨hd, hu⟩ := hf
  have hdo := stErr_ok hd
  have huo := stErr_ok hu
  have hdl := hdo.len
  have hul := huo.len
  repeat' (first | ((first | refine Split.mk (fun h => ?_) (fun h => ?_) | refine CondG.mk (fun h => ?_) (fun h => ?_)) <;> (try simp only [decide_eq_true_eq, decide_eq_false_iff_not, Bool.not_eq_true', Bool.not_eq_false', beq_iff_eq, beq_eq_false_iff_ne, bne_iff_ne, bne_eq_false_iff_eq] at h) <;> (first | (exfalso; first | omega | exact h trivial) | (conv => whnf))) | (refine CallX.mk _ _ (by first | exact ixUC_pc (up.map encS) 144 (fun x => decide (x ∈ up)) down (by omega) (fun x _ => fState1_pc huo.rise (by omega) x)) ?_; conv => whnf) | (refine CallG.mk _ _ (by first | exact ixUC_pc (up.map encS) 144 (fun x => decide (x ∈ up)) down (by omega) (fun x _ => fState1_pc huo.rise (by omega) x)) ?_; conv => whnf) | (refine Ask.mk (by first | omega | (unfold roomOK; simp [cutRows]; done) | (unfold roomOK; simp [cutRows]; omega) | (simp [cutRows]; done) | (simp [cutRows]; omega)) ?_; conv => whnf) | (refine AppG.mk (by first | omega | (unfold roomOK; simp [cutRows]; done) | (unfold roomOK; simp [cutRows]; omega) | (simp [cutRows]; done) | (simp [cutRows]; omega)) ?_; conv => whnf) | (refine SliceG.fr ?_; conv => whnf) | (refine idx_at _ (by with_reducible rfl) (by first | assumption | omega) ?_; conv => whnf) | ((with_reducible refine row_map (by first | assumption | omega) ?_); conv => whnf) | ((with_reducible refine row_set (by first | assumption | omega | (simp only [List.length_set]; omega) | (simp; omega)) ?_); conv => whnf) | fail)
  all_goals
    refine fini ?_
    rw [seenErr, if_neg (by simp [hs0]), if_neg (by simp [hd]), if_neg (by simp [hu])]
    simp_all
set_option maxRecDepth 100000 in
set_option maxHeartbeats 4000000 in
theorem suspectsP_pc (s : List Sv) (hx : ∀ x ∈ s, x.els.length ≤ 1000000) (down up : List ByteArray) : PCp 60 [.c (.lst 3 (s.map encSv)), .c (.lst 1 (down.map encS)), .c (.lst 1 (up.map encS))] [] (.tup [.c (.lst 1 ((if seenErr s down up = 0 then susV s down up else []).map encS)), .c (.int .i64 (seenErr s down up))]) [] := by
  refine fn_sound (mt := mts) tab_fits tab_mixed Tryz.func60 (by rfl) (by kernel_rfl) (by kernel_rfl) Tryz.results60 (Nat.le_of_ble_eq_true (by kernel_rfl)) ?_
  conv => whnf
  repeat' (first | ((first | refine Split.mk (fun h => ?_) (fun h => ?_) | refine CondG.mk (fun h => ?_) (fun h => ?_)) <;> (try simp only [decide_eq_true_eq, decide_eq_false_iff_not, Bool.not_eq_true', Bool.not_eq_false', beq_iff_eq, beq_eq_false_iff_ne, bne_iff_ne, bne_eq_false_iff_eq] at h) <;> (first | (exfalso; first | omega | exact h trivial) | (conv => whnf))) | (refine CallX.mk _ _ (by first | exact fState_pc s hx down up) ?_; conv => whnf) | (refine CallG.mk _ _ (by first | exact fState_pc s hx down up) ?_; conv => whnf) | (refine Ask.mk (by first | omega | (unfold roomOK; simp [cutRows]; done) | (unfold roomOK; simp [cutRows]; omega) | (simp [cutRows]; done) | (simp [cutRows]; omega)) ?_; conv => whnf) | (refine AppG.mk (by first | omega | (unfold roomOK; simp [cutRows]; done) | (unfold roomOK; simp [cutRows]; omega) | (simp [cutRows]; done) | (simp [cutRows]; omega)) ?_; conv => whnf) | (refine SliceG.fr ?_; conv => whnf) | (refine idx_at _ (by with_reducible rfl) (by first | assumption | omega) ?_; conv => whnf) | ((with_reducible refine row_map (by first | assumption | omega) ?_); conv => whnf) | ((with_reducible refine row_set (by first | assumption | omega | (simp only [List.length_set]; omega) | (simp; omega)) ?_); conv => whnf) | fail)
  · rw [if_neg (by assumption)]
    refine .weak [] (.tup _ _ rfl ?_) rfl (Nat.le_refl _)
    intro i a b ha hb
    match i with
    | 0 => cases ha; cases hb; exact .nil 1
    | 1 => cases ha; cases hb; exact .refl _
  · have h0 : seenErr s down up = 0 := by simp_all
    have hs0 : svFault s = 0 := by
      unfold seenErr at h0
      split at h0
      · omega
      · omega
    have hd0 : stErr s down = 0 := by
      unfold seenErr at h0
      rw [if_neg (by omega)] at h0
      split at h0
      · omega
      · omega
    have hu0 : stErr s up = 0 := by
      unfold seenErr at h0
      rw [if_neg (by omega), if_neg (by omega)] at h0
      split at h0
      · omega
      · omega
    rw [if_pos h0]
    repeat' (first | ((first | refine Split.mk (fun h => ?_) (fun h => ?_) | refine CondG.mk (fun h => ?_) (fun h => ?_)) <;> (try simp only [decide_eq_true_eq, decide_eq_false_iff_not, Bool.not_eq_true', Bool.not_eq_false', beq_iff_eq, beq_eq_false_iff_ne, bne_iff_ne, bne_eq_false_iff_eq] at h) <;> (first | (exfalso; first | omega | exact h trivial) | (conv => whnf))) | (refine CallX.mk _ _ (by first | exact fSuspects_pc s (svFault_ok hs0) down up (stErr_ok hd0) (stErr_ok hu0)) ?_; conv => whnf) | (refine CallG.mk _ _ (by first | exact fSuspects_pc s (svFault_ok hs0) down up (stErr_ok hd0) (stErr_ok hu0)) ?_; conv => whnf) | (refine Ask.mk (by first | omega | (unfold roomOK; simp [cutRows]; done) | (unfold roomOK; simp [cutRows]; omega) | (simp [cutRows]; done) | (simp [cutRows]; omega)) ?_; conv => whnf) | (refine AppG.mk (by first | omega | (unfold roomOK; simp [cutRows]; done) | (unfold roomOK; simp [cutRows]; omega) | (simp [cutRows]; done) | (simp [cutRows]; omega)) ?_; conv => whnf) | (refine SliceG.fr ?_; conv => whnf) | (refine idx_at _ (by with_reducible rfl) (by first | assumption | omega) ?_; conv => whnf) | ((with_reducible refine row_map (by first | assumption | omega) ?_); conv => whnf) | ((with_reducible refine row_set (by first | assumption | omega | (simp only [List.length_set]; omega) | (simp; omega)) ?_); conv => whnf) | fail)
    exact .mk ⟨by rw [h0]; rfl, rfl⟩
end Go.Proofs.YtobcplhaabaemaaGreat

/- A plant of one cable, by constants. -/
namespace Go.Proofs.YtobcplhaabaemaaGreat
set_option linter.unusedVariables false
set_option linter.unusedSimpArgs false
open Abs

abbrev cA : V := .str ⟨#[97]⟩
abbrev cB : V := .str ⟨#[98]⟩
abbrev cC : V := .str ⟨#[99]⟩
abbrev n1 : V := .int .i64 1
abbrev tSites : V := .lst 2 [[cA, .int .i64 1], [cB, .int .i64 4]]
abbrev tCables : V := .lst 5 [[cC, cA, cB, .int .i64 5, .int .i64 1]]
abbrev tinyL : List V := [tSites, tCables, .nils]
abbrev kindsO : Ob := .map 2 [(0, .c cA, .c (.int .i64 1)), (1, .c cB, .c (.int .i64 4))]
abbrev cabsO : Ob := .map 1 [(0, .c cC, .agg [cC, cA, cB, .int .i64 5, .int .i64 1])]
abbrev webO : List Ob := [.box [tSites, tCables, .nils, .mp 1, .mp 2, .mp 3, .nilm], kindsO, cabsO, .map 0 []]
set_option maxRecDepth 100000 in
set_option maxHeartbeats 4000000 in
theorem tiny_c : PCp 58 [] [] (.agg tinyL) [] := by
  refine fn_sound (mt := mts) tab_fits tab_mixed Tryz.func58 (by rfl) (by kernel_rfl) (by kernel_rfl) Tryz.results58 (Nat.le_of_ble_eq_true (by kernel_rfl)) ?_
  conv => whnf
  repeat' (first | (refine CondG.mk (fun h => ?_) (fun h => absurd h (by decide +kernel)); clear h; conv => whnf) | (refine CondG.mk (fun h => absurd h (by decide +kernel)) (fun h => ?_); clear h; conv => whnf) | (refine Split.mk (fun h => ?_) (fun h => absurd h (by decide +kernel)); clear h; conv => whnf) | (refine Split.mk (fun h => absurd h (by decide +kernel)) (fun h => ?_); clear h; conv => whnf) | (refine Ask.mk (by first | decide | (unfold roomOK; decide)) ?_; conv => whnf) | (refine AppG.mk (by first | decide | (unfold roomOK; decide)) ?_; conv => whnf) | (refine SliceG.fr ?_; conv => whnf) | (refine IdxG.mk _ ⟨by decide, by rfl⟩ ?_; conv => whnf) | (refine RowG.mk _ (by rfl) ?_; conv => whnf) | (refine look_no (by decide +kernel) ?_; conv => whnf) | (refine look_ix 0 (by rfl) (by decide +kernel) ?_; conv => whnf) | (refine look_ix 1 (by rfl) (by decide +kernel) ?_; conv => whnf) | (refine look_ix 2 (by rfl) (by decide +kernel) ?_; conv => whnf) | (refine upd_no (by decide +kernel) ?_; conv => whnf) | (refine LoopG.un 12 ?_; conv => whnf) | fail)
  all_goals first | exact .mk ⟨rfl, rfl⟩ | trace_state
set_option maxRecDepth 100000 in
set_option maxHeartbeats 4000000 in
theorem siteF_c1 : PCp 194 [.agg [cA, .int .i64 1]] [] (.c (.int .i64 0)) [] := by
  refine fn_sound (mt := mts) tab_fits tab_mixed Tryz.func194 (by rfl) (by kernel_rfl) (by kernel_rfl) Tryz.results194 (Nat.le_of_ble_eq_true (by kernel_rfl)) ?_
  conv => whnf
  repeat' (first | (refine CondG.mk (fun h => ?_) (fun h => absurd h (by decide +kernel)); clear h; conv => whnf) | (refine CondG.mk (fun h => absurd h (by decide +kernel)) (fun h => ?_); clear h; conv => whnf) | (refine Split.mk (fun h => ?_) (fun h => absurd h (by decide +kernel)); clear h; conv => whnf) | (refine Split.mk (fun h => absurd h (by decide +kernel)) (fun h => ?_); clear h; conv => whnf) | (refine CallX.mk _ _ (by first | exact bKey_pc _ | exact bOut_pc _ _ _) ?_; conv => whnf) | (refine CallG.mk _ _ (by first | exact bKey_pc _ | exact bOut_pc _ _ _) ?_; conv => whnf) | (refine Ask.mk (by first | decide | (unfold roomOK; decide)) ?_; conv => whnf) | (refine AppG.mk (by first | decide | (unfold roomOK; decide)) ?_; conv => whnf) | (refine SliceG.fr ?_; conv => whnf) | (refine IdxG.mk _ ⟨by decide, by rfl⟩ ?_; conv => whnf) | (refine RowG.mk _ (by rfl) ?_; conv => whnf) | (refine look_no (by decide +kernel) ?_; conv => whnf) | (refine look_ix 0 (by rfl) (by decide +kernel) ?_; conv => whnf) | (refine look_ix 1 (by rfl) (by decide +kernel) ?_; conv => whnf) | (refine look_ix 2 (by rfl) (by decide +kernel) ?_; conv => whnf) | (refine upd_no (by decide +kernel) ?_; conv => whnf) | (refine LoopG.un 12 ?_; conv => whnf) | fail)
  all_goals first | exact .mk ⟨rfl, rfl⟩ | trace_state
set_option maxRecDepth 100000 in
set_option maxHeartbeats 4000000 in
theorem siteF_c2 : PCp 194 [.agg [cB, .int .i64 4]] [] (.c (.int .i64 0)) [] := by
  refine fn_sound (mt := mts) tab_fits tab_mixed Tryz.func194 (by rfl) (by kernel_rfl) (by kernel_rfl) Tryz.results194 (Nat.le_of_ble_eq_true (by kernel_rfl)) ?_
  conv => whnf
  repeat' (first | (refine CondG.mk (fun h => ?_) (fun h => absurd h (by decide +kernel)); clear h; conv => whnf) | (refine CondG.mk (fun h => absurd h (by decide +kernel)) (fun h => ?_); clear h; conv => whnf) | (refine Split.mk (fun h => ?_) (fun h => absurd h (by decide +kernel)); clear h; conv => whnf) | (refine Split.mk (fun h => absurd h (by decide +kernel)) (fun h => ?_); clear h; conv => whnf) | (refine CallX.mk _ _ (by first | exact bKey_pc _ | exact bOut_pc _ _ _) ?_; conv => whnf) | (refine CallG.mk _ _ (by first | exact bKey_pc _ | exact bOut_pc _ _ _) ?_; conv => whnf) | (refine Ask.mk (by first | decide | (unfold roomOK; decide)) ?_; conv => whnf) | (refine AppG.mk (by first | decide | (unfold roomOK; decide)) ?_; conv => whnf) | (refine SliceG.fr ?_; conv => whnf) | (refine IdxG.mk _ ⟨by decide, by rfl⟩ ?_; conv => whnf) | (refine RowG.mk _ (by rfl) ?_; conv => whnf) | (refine look_no (by decide +kernel) ?_; conv => whnf) | (refine look_ix 0 (by rfl) (by decide +kernel) ?_; conv => whnf) | (refine look_ix 1 (by rfl) (by decide +kernel) ?_; conv => whnf) | (refine look_ix 2 (by rfl) (by decide +kernel) ?_; conv => whnf) | (refine upd_no (by decide +kernel) ?_; conv => whnf) | (refine LoopG.un 12 ?_; conv => whnf) | fail)
  all_goals first | exact .mk ⟨rfl, rfl⟩ | trace_state
set_option maxRecDepth 100000 in
set_option maxHeartbeats 4000000 in
theorem sitesF_c : PCp 154 [.c tSites] [] (.c (.int .i64 0)) [] := by
  refine fn_sound (mt := mts) tab_fits tab_mixed Tryz.func154 (by rfl) (by kernel_rfl) (by kernel_rfl) Tryz.results154 (Nat.le_of_ble_eq_true (by kernel_rfl)) ?_
  conv => whnf
  repeat' (first | (refine CondG.mk (fun h => ?_) (fun h => absurd h (by decide +kernel)); clear h; conv => whnf) | (refine CondG.mk (fun h => absurd h (by decide +kernel)) (fun h => ?_); clear h; conv => whnf) | (refine Split.mk (fun h => ?_) (fun h => absurd h (by decide +kernel)); clear h; conv => whnf) | (refine Split.mk (fun h => absurd h (by decide +kernel)) (fun h => ?_); clear h; conv => whnf) | (refine CallX.mk _ _ (by first | exact siteF_c1 | exact siteF_c2) ?_; conv => whnf) | (refine CallG.mk _ _ (by first | exact siteF_c1 | exact siteF_c2) ?_; conv => whnf) | (refine Ask.mk (by first | decide | (unfold roomOK; decide)) ?_; conv => whnf) | (refine AppG.mk (by first | decide | (unfold roomOK; decide)) ?_; conv => whnf) | (refine SliceG.fr ?_; conv => whnf) | (refine IdxG.mk _ ⟨by decide, by rfl⟩ ?_; conv => whnf) | (refine RowG.mk _ (by rfl) ?_; conv => whnf) | (refine look_no (by decide +kernel) ?_; conv => whnf) | (refine look_ix 0 (by rfl) (by decide +kernel) ?_; conv => whnf) | (refine look_ix 1 (by rfl) (by decide +kernel) ?_; conv => whnf) | (refine look_ix 2 (by rfl) (by decide +kernel) ?_; conv => whnf) | (refine upd_no (by decide +kernel) ?_; conv => whnf) | (refine LoopG.un 12 ?_; conv => whnf) | fail)
  all_goals first | exact .mk ⟨rfl, rfl⟩ | trace_state
set_option maxRecDepth 100000 in
set_option maxHeartbeats 4000000 in
theorem cabF_c : PCp 195 [.agg [cC, cA, cB, .int .i64 5, .int .i64 1], .c (.mp 0)] [kindsO] (.c (.int .i64 0)) [kindsO] := by
  refine fn_sound (mt := mts) tab_fits tab_mixed Tryz.func195 (by rfl) (by kernel_rfl) (by kernel_rfl) Tryz.results195 (Nat.le_of_ble_eq_true (by kernel_rfl)) ?_
  conv => whnf
  repeat' (first | (refine CondG.mk (fun h => ?_) (fun h => absurd h (by decide +kernel)); clear h; conv => whnf) | (refine CondG.mk (fun h => absurd h (by decide +kernel)) (fun h => ?_); clear h; conv => whnf) | (refine Split.mk (fun h => ?_) (fun h => absurd h (by decide +kernel)); clear h; conv => whnf) | (refine Split.mk (fun h => absurd h (by decide +kernel)) (fun h => ?_); clear h; conv => whnf) | (refine CallX.mk _ _ (by first | exact bKey_pc _ | exact bOut_pc _ _ _) ?_; conv => whnf) | (refine CallG.mk _ _ (by first | exact bKey_pc _ | exact bOut_pc _ _ _) ?_; conv => whnf) | (refine Ask.mk (by first | decide | (unfold roomOK; decide)) ?_; conv => whnf) | (refine AppG.mk (by first | decide | (unfold roomOK; decide)) ?_; conv => whnf) | (refine SliceG.fr ?_; conv => whnf) | (refine IdxG.mk _ ⟨by decide, by rfl⟩ ?_; conv => whnf) | (refine RowG.mk _ (by rfl) ?_; conv => whnf) | (refine look_no (by decide +kernel) ?_; conv => whnf) | (refine look_ix 0 (by rfl) (by decide +kernel) ?_; conv => whnf) | (refine look_ix 1 (by rfl) (by decide +kernel) ?_; conv => whnf) | (refine look_ix 2 (by rfl) (by decide +kernel) ?_; conv => whnf) | (refine upd_no (by decide +kernel) ?_; conv => whnf) | (refine LoopG.un 12 ?_; conv => whnf) | fail)
  all_goals first | exact .mk ⟨rfl, rfl⟩ | trace_state
set_option maxRecDepth 100000 in
set_option maxHeartbeats 4000000 in
theorem cabsF_c : PCp 155 [.c tCables, .c (.mp 0)] [kindsO] (.c (.int .i64 0)) [kindsO] := by
  refine fn_sound (mt := mts) tab_fits tab_mixed Tryz.func155 (by rfl) (by kernel_rfl) (by kernel_rfl) Tryz.results155 (Nat.le_of_ble_eq_true (by kernel_rfl)) ?_
  conv => whnf
  repeat' (first | (refine CondG.mk (fun h => ?_) (fun h => absurd h (by decide +kernel)); clear h; conv => whnf) | (refine CondG.mk (fun h => absurd h (by decide +kernel)) (fun h => ?_); clear h; conv => whnf) | (refine Split.mk (fun h => ?_) (fun h => absurd h (by decide +kernel)); clear h; conv => whnf) | (refine Split.mk (fun h => absurd h (by decide +kernel)) (fun h => ?_); clear h; conv => whnf) | (refine CallX.mk _ _ (by first | exact cabF_c) ?_; conv => whnf) | (refine CallG.mk _ _ (by first | exact cabF_c) ?_; conv => whnf) | (refine Ask.mk (by first | decide | (unfold roomOK; decide)) ?_; conv => whnf) | (refine AppG.mk (by first | decide | (unfold roomOK; decide)) ?_; conv => whnf) | (refine SliceG.fr ?_; conv => whnf) | (refine IdxG.mk _ ⟨by decide, by rfl⟩ ?_; conv => whnf) | (refine RowG.mk _ (by rfl) ?_; conv => whnf) | (refine look_no (by decide +kernel) ?_; conv => whnf) | (refine look_ix 0 (by rfl) (by decide +kernel) ?_; conv => whnf) | (refine look_ix 1 (by rfl) (by decide +kernel) ?_; conv => whnf) | (refine look_ix 2 (by rfl) (by decide +kernel) ?_; conv => whnf) | (refine upd_no (by decide +kernel) ?_; conv => whnf) | (refine LoopG.un 12 ?_; conv => whnf) | fail)
  all_goals first | exact .mk ⟨rfl, rfl⟩ | trace_state
set_option maxRecDepth 100000 in
set_option maxHeartbeats 4000000 in
theorem splsF_c : PCp 156 [.agg tinyL, .c (.mp 0)] [kindsO] (.c (.int .i64 0)) [kindsO] := by
  refine fn_sound (mt := mts) tab_fits tab_mixed Tryz.func156 (by rfl) (by kernel_rfl) (by kernel_rfl) Tryz.results156 (Nat.le_of_ble_eq_true (by kernel_rfl)) ?_
  conv => whnf
  repeat' (first | (refine CondG.mk (fun h => ?_) (fun h => absurd h (by decide +kernel)); clear h; conv => whnf) | (refine CondG.mk (fun h => absurd h (by decide +kernel)) (fun h => ?_); clear h; conv => whnf) | (refine Split.mk (fun h => ?_) (fun h => absurd h (by decide +kernel)); clear h; conv => whnf) | (refine Split.mk (fun h => absurd h (by decide +kernel)) (fun h => ?_); clear h; conv => whnf) | (refine Ask.mk (by first | decide | (unfold roomOK; decide)) ?_; conv => whnf) | (refine AppG.mk (by first | decide | (unfold roomOK; decide)) ?_; conv => whnf) | (refine SliceG.fr ?_; conv => whnf) | (refine IdxG.mk _ ⟨by decide, by rfl⟩ ?_; conv => whnf) | (refine RowG.mk _ (by rfl) ?_; conv => whnf) | (refine look_no (by decide +kernel) ?_; conv => whnf) | (refine look_ix 0 (by rfl) (by decide +kernel) ?_; conv => whnf) | (refine look_ix 1 (by rfl) (by decide +kernel) ?_; conv => whnf) | (refine look_ix 2 (by rfl) (by decide +kernel) ?_; conv => whnf) | (refine upd_no (by decide +kernel) ?_; conv => whnf) | (refine LoopG.un 12 ?_; conv => whnf) | fail)
  all_goals first | exact .mk ⟨rfl, rfl⟩ | trace_state
set_option maxRecDepth 100000 in
set_option maxHeartbeats 4000000 in
theorem checkPlant_c : PCp 109 [.agg tinyL] [] (.c (.int .i64 0)) [] := by
  refine fn_sound (mt := mts) tab_fits tab_mixed Tryz.func109 (by rfl) (by kernel_rfl) (by kernel_rfl) Tryz.results109 (Nat.le_of_ble_eq_true (by kernel_rfl)) ?_
  conv => whnf
  repeat' (first | (refine CondG.mk (fun h => ?_) (fun h => absurd h (by decide +kernel)); clear h; conv => whnf) | (refine CondG.mk (fun h => absurd h (by decide +kernel)) (fun h => ?_); clear h; conv => whnf) | (refine Split.mk (fun h => ?_) (fun h => absurd h (by decide +kernel)); clear h; conv => whnf) | (refine Split.mk (fun h => absurd h (by decide +kernel)) (fun h => ?_); clear h; conv => whnf) | (refine CallX.mk _ _ (by first | exact sitesF_c | exact cabsF_c | exact splsF_c) ?_; conv => whnf) | (refine CallG.mk _ _ (by first | exact sitesF_c | exact cabsF_c | exact splsF_c) ?_; conv => whnf) | (refine Ask.mk (by first | decide | (unfold roomOK; decide)) ?_; conv => whnf) | (refine AppG.mk (by first | decide | (unfold roomOK; decide)) ?_; conv => whnf) | (refine SliceG.fr ?_; conv => whnf) | (refine IdxG.mk _ ⟨by decide, by rfl⟩ ?_; conv => whnf) | (refine RowG.mk _ (by rfl) ?_; conv => whnf) | (refine look_no (by decide +kernel) ?_; conv => whnf) | (refine look_ix 0 (by rfl) (by decide +kernel) ?_; conv => whnf) | (refine look_ix 1 (by rfl) (by decide +kernel) ?_; conv => whnf) | (refine look_ix 2 (by rfl) (by decide +kernel) ?_; conv => whnf) | (refine upd_no (by decide +kernel) ?_; conv => whnf) | (refine LoopG.un 12 ?_; conv => whnf) | fail)
  all_goals first | exact .mk ⟨rfl, rfl⟩ | trace_state
theorem sbool {a b : Bool} (h : a = b) : oneOf [S.c (.bool a)] = S.c (.bool b) := by rw [h]; rfl
set_option maxRecDepth 100000 in
set_option maxHeartbeats 4000000 in
theorem siteC1_c : PCp 167 [.agg [cA, .int .i64 1], .c (.ptr 0 0)] [.box [cB]] (.c (.bool false)) [.box [cB]] := by
  refine fn_sound (mt := mts) tab_fits tab_mixed Tryz.func167 (by rfl) (by kernel_rfl) (by kernel_rfl) Tryz.results167 (Nat.le_of_ble_eq_true (by kernel_rfl)) ?_
  conv => whnf
  repeat' (first | (refine CondG.mk (fun h => ?_) (fun h => absurd h (by decide +kernel)); clear h; conv => whnf) | (refine CondG.mk (fun h => absurd h (by decide +kernel)) (fun h => ?_); clear h; conv => whnf) | (refine Split.mk (fun h => ?_) (fun h => absurd h (by decide +kernel)); clear h; conv => whnf) | (refine Split.mk (fun h => absurd h (by decide +kernel)) (fun h => ?_); clear h; conv => whnf) | (refine Ask.mk (by first | decide | (unfold roomOK; decide)) ?_; conv => whnf) | (refine AppG.mk (by first | decide | (unfold roomOK; decide)) ?_; conv => whnf) | (refine SliceG.fr ?_; conv => whnf) | (refine IdxG.mk _ ⟨by decide, by rfl⟩ ?_; conv => whnf) | (refine RowG.mk _ (by rfl) ?_; conv => whnf) | (refine look_no (by decide +kernel) ?_; conv => whnf) | (refine look_ix 0 (by rfl) (by decide +kernel) ?_; conv => whnf) | (refine look_ix 1 (by rfl) (by decide +kernel) ?_; conv => whnf) | (refine look_ix 2 (by rfl) (by decide +kernel) ?_; conv => whnf) | (refine upd_no (by decide +kernel) ?_; conv => whnf) | (refine LoopG.un 12 ?_; conv => whnf) | fail)
  exact .mk ⟨sbool (by decide +kernel), rfl⟩
set_option maxRecDepth 100000 in
set_option maxHeartbeats 4000000 in
theorem siteC2_c : PCp 167 [.agg [cB, .int .i64 4], .c (.ptr 0 0)] [.box [cB]] (.c (.bool true)) [.box [cB]] := by
  refine fn_sound (mt := mts) tab_fits tab_mixed Tryz.func167 (by rfl) (by kernel_rfl) (by kernel_rfl) Tryz.results167 (Nat.le_of_ble_eq_true (by kernel_rfl)) ?_
  conv => whnf
  repeat' (first | (refine CondG.mk (fun h => ?_) (fun h => absurd h (by decide +kernel)); clear h; conv => whnf) | (refine CondG.mk (fun h => absurd h (by decide +kernel)) (fun h => ?_); clear h; conv => whnf) | (refine Split.mk (fun h => ?_) (fun h => absurd h (by decide +kernel)); clear h; conv => whnf) | (refine Split.mk (fun h => absurd h (by decide +kernel)) (fun h => ?_); clear h; conv => whnf) | (refine Ask.mk (by first | decide | (unfold roomOK; decide)) ?_; conv => whnf) | (refine AppG.mk (by first | decide | (unfold roomOK; decide)) ?_; conv => whnf) | (refine SliceG.fr ?_; conv => whnf) | (refine IdxG.mk _ ⟨by decide, by rfl⟩ ?_; conv => whnf) | (refine RowG.mk _ (by rfl) ?_; conv => whnf) | (refine look_no (by decide +kernel) ?_; conv => whnf) | (refine look_ix 0 (by rfl) (by decide +kernel) ?_; conv => whnf) | (refine look_ix 1 (by rfl) (by decide +kernel) ?_; conv => whnf) | (refine look_ix 2 (by rfl) (by decide +kernel) ?_; conv => whnf) | (refine upd_no (by decide +kernel) ?_; conv => whnf) | (refine LoopG.un 12 ?_; conv => whnf) | fail)
  exact .mk ⟨sbool (by decide +kernel), rfl⟩
set_option maxRecDepth 100000 in
set_option maxHeartbeats 4000000 in
theorem siteIx_c : PCp 201 [.c tSites, .c (.fn 167 [.ptr 0 0])] [.box [cB]] (.c (.int .i64 1)) [.box [cB]] := by
  refine fn_sound (mt := mts) tab_fits tab_mixed Tryz.func201 (by rfl) (by kernel_rfl) (by kernel_rfl) Tryz.results201 (Nat.le_of_ble_eq_true (by kernel_rfl)) ?_
  conv => whnf
  repeat' (first | (refine CondG.mk (fun h => ?_) (fun h => absurd h (by decide +kernel)); clear h; conv => whnf) | (refine CondG.mk (fun h => absurd h (by decide +kernel)) (fun h => ?_); clear h; conv => whnf) | (refine Split.mk (fun h => ?_) (fun h => absurd h (by decide +kernel)); clear h; conv => whnf) | (refine Split.mk (fun h => absurd h (by decide +kernel)) (fun h => ?_); clear h; conv => whnf) | (refine CallX.mk _ _ (by first | exact siteC1_c | exact siteC2_c) ?_; conv => whnf) | (refine CallG.mk _ _ (by first | exact siteC1_c | exact siteC2_c) ?_; conv => whnf) | (refine Ask.mk (by first | decide | (unfold roomOK; decide)) ?_; conv => whnf) | (refine AppG.mk (by first | decide | (unfold roomOK; decide)) ?_; conv => whnf) | (refine SliceG.fr ?_; conv => whnf) | (refine IdxG.mk _ ⟨by decide, by rfl⟩ ?_; conv => whnf) | (refine RowG.mk _ (by rfl) ?_; conv => whnf) | (refine look_no (by decide +kernel) ?_; conv => whnf) | (refine look_ix 0 (by rfl) (by decide +kernel) ?_; conv => whnf) | (refine look_ix 1 (by rfl) (by decide +kernel) ?_; conv => whnf) | (refine look_ix 2 (by rfl) (by decide +kernel) ?_; conv => whnf) | (refine upd_no (by decide +kernel) ?_; conv => whnf) | (refine LoopG.un 12 ?_; conv => whnf) | fail)
  all_goals first | exact .mk ⟨rfl, rfl⟩ | trace_state
set_option maxRecDepth 100000 in
set_option maxHeartbeats 4000000 in
theorem siteCt_c : PCp 166 [.c tSites, .c (.fn 167 [.ptr 0 0])] [.box [cB]] (.c (.bool true)) [.box [cB]] := by
  refine fn_sound (mt := mts) tab_fits tab_mixed Tryz.func166 (by rfl) (by kernel_rfl) (by kernel_rfl) Tryz.results166 (Nat.le_of_ble_eq_true (by kernel_rfl)) ?_
  conv => whnf
  repeat' (first | (refine CondG.mk (fun h => ?_) (fun h => absurd h (by decide +kernel)); clear h; conv => whnf) | (refine CondG.mk (fun h => absurd h (by decide +kernel)) (fun h => ?_); clear h; conv => whnf) | (refine Split.mk (fun h => ?_) (fun h => absurd h (by decide +kernel)); clear h; conv => whnf) | (refine Split.mk (fun h => absurd h (by decide +kernel)) (fun h => ?_); clear h; conv => whnf) | (refine CallX.mk _ _ (by first | exact siteIx_c) ?_; conv => whnf) | (refine CallG.mk _ _ (by first | exact siteIx_c) ?_; conv => whnf) | (refine Ask.mk (by first | decide | (unfold roomOK; decide)) ?_; conv => whnf) | (refine AppG.mk (by first | decide | (unfold roomOK; decide)) ?_; conv => whnf) | (refine SliceG.fr ?_; conv => whnf) | (refine IdxG.mk _ ⟨by decide, by rfl⟩ ?_; conv => whnf) | (refine RowG.mk _ (by rfl) ?_; conv => whnf) | (refine look_no (by decide +kernel) ?_; conv => whnf) | (refine look_ix 0 (by rfl) (by decide +kernel) ?_; conv => whnf) | (refine look_ix 1 (by rfl) (by decide +kernel) ?_; conv => whnf) | (refine look_ix 2 (by rfl) (by decide +kernel) ?_; conv => whnf) | (refine upd_no (by decide +kernel) ?_; conv => whnf) | (refine LoopG.un 12 ?_; conv => whnf) | fail)
  all_goals first | exact .mk ⟨rfl, rfl⟩ | trace_state
set_option maxRecDepth 100000 in
set_option maxHeartbeats 4000000 in
theorem siteFault_c : PCp 131 [.agg tinyL, .c cB] [] (.c (.int .i64 0)) [] := by
  refine fn_sound (mt := mts) tab_fits tab_mixed Tryz.func131 (by rfl) (by kernel_rfl) (by kernel_rfl) Tryz.results131 (Nat.le_of_ble_eq_true (by kernel_rfl)) ?_
  conv => whnf
  repeat' (first | (refine CondG.mk (fun h => ?_) (fun h => absurd h (by decide +kernel)); clear h; conv => whnf) | (refine CondG.mk (fun h => absurd h (by decide +kernel)) (fun h => ?_); clear h; conv => whnf) | (refine Split.mk (fun h => ?_) (fun h => absurd h (by decide +kernel)); clear h; conv => whnf) | (refine Split.mk (fun h => absurd h (by decide +kernel)) (fun h => ?_); clear h; conv => whnf) | (refine CallX.mk _ _ (by first | exact checkPlant_c | exact siteCt_c) ?_; conv => whnf) | (refine CallG.mk _ _ (by first | exact checkPlant_c | exact siteCt_c) ?_; conv => whnf) | (refine Ask.mk (by first | decide | (unfold roomOK; decide)) ?_; conv => whnf) | (refine AppG.mk (by first | decide | (unfold roomOK; decide)) ?_; conv => whnf) | (refine SliceG.fr ?_; conv => whnf) | (refine IdxG.mk _ ⟨by decide, by rfl⟩ ?_; conv => whnf) | (refine RowG.mk _ (by rfl) ?_; conv => whnf) | (refine look_no (by decide +kernel) ?_; conv => whnf) | (refine look_ix 0 (by rfl) (by decide +kernel) ?_; conv => whnf) | (refine look_ix 1 (by rfl) (by decide +kernel) ?_; conv => whnf) | (refine look_ix 2 (by rfl) (by decide +kernel) ?_; conv => whnf) | (refine upd_no (by decide +kernel) ?_; conv => whnf) | (refine LoopG.un 12 ?_; conv => whnf) | fail)
  all_goals first | exact .mk ⟨rfl, rfl⟩ | trace_state
set_option maxRecDepth 100000 in
set_option maxHeartbeats 4000000 in
theorem webNew_c : PCp 110 [.agg tinyL] [] (.c (.ptr 0 0)) webO := by
  refine fn_sound (mt := mts) tab_fits tab_mixed Tryz.func110 (by rfl) (by kernel_rfl) (by kernel_rfl) Tryz.results110 (Nat.le_of_ble_eq_true (by kernel_rfl)) ?_
  conv => whnf
  repeat' (first | (refine CondG.mk (fun h => ?_) (fun h => absurd h (by decide +kernel)); clear h; conv => whnf) | (refine CondG.mk (fun h => absurd h (by decide +kernel)) (fun h => ?_); clear h; conv => whnf) | (refine Split.mk (fun h => ?_) (fun h => absurd h (by decide +kernel)); clear h; conv => whnf) | (refine Split.mk (fun h => absurd h (by decide +kernel)) (fun h => ?_); clear h; conv => whnf) | (refine Ask.mk (by first | decide | (unfold roomOK; decide)) ?_; conv => whnf) | (refine AppG.mk (by first | decide | (unfold roomOK; decide)) ?_; conv => whnf) | (refine SliceG.fr ?_; conv => whnf) | (refine IdxG.mk _ ⟨by decide, by rfl⟩ ?_; conv => whnf) | (refine RowG.mk _ (by rfl) ?_; conv => whnf) | (refine look_no (by decide +kernel) ?_; conv => whnf) | (refine look_ix 0 (by rfl) (by decide +kernel) ?_; conv => whnf) | (refine look_ix 1 (by rfl) (by decide +kernel) ?_; conv => whnf) | (refine look_ix 2 (by rfl) (by decide +kernel) ?_; conv => whnf) | (refine upd_no (by decide +kernel) ?_; conv => whnf) | (refine LoopG.un 12 ?_; conv => whnf) | fail)
  all_goals first | exact .mk ⟨rfl, rfl⟩ | trace_state
set_option maxRecDepth 100000 in
set_option maxHeartbeats 4000000 in
theorem webHas_c : PCp 132 [.c (.ptr 0 0), .agg [cC, n1]] webO (.c (.bool true)) webO := by
  refine fn_sound (mt := mts) tab_fits tab_mixed Tryz.func132 (by rfl) (by kernel_rfl) (by kernel_rfl) Tryz.results132 (Nat.le_of_ble_eq_true (by kernel_rfl)) ?_
  conv => whnf
  repeat' (first | (refine CondG.mk (fun h => ?_) (fun h => absurd h (by decide +kernel)); clear h; conv => whnf) | (refine CondG.mk (fun h => absurd h (by decide +kernel)) (fun h => ?_); clear h; conv => whnf) | (refine Split.mk (fun h => ?_) (fun h => absurd h (by decide +kernel)); clear h; conv => whnf) | (refine Split.mk (fun h => absurd h (by decide +kernel)) (fun h => ?_); clear h; conv => whnf) | (refine CallX.mk _ _ (by first | exact bOut_pc _ _ _) ?_; conv => whnf) | (refine CallG.mk _ _ (by first | exact bOut_pc _ _ _) ?_; conv => whnf) | (refine Ask.mk (by first | decide | (unfold roomOK; decide)) ?_; conv => whnf) | (refine AppG.mk (by first | decide | (unfold roomOK; decide)) ?_; conv => whnf) | (refine SliceG.fr ?_; conv => whnf) | (refine IdxG.mk _ ⟨by decide, by rfl⟩ ?_; conv => whnf) | (refine RowG.mk _ (by rfl) ?_; conv => whnf) | (refine look_no (by decide +kernel) ?_; conv => whnf) | (refine look_ix 0 (by rfl) (by decide +kernel) ?_; conv => whnf) | (refine look_ix 1 (by rfl) (by decide +kernel) ?_; conv => whnf) | (refine look_ix 2 (by rfl) (by decide +kernel) ?_; conv => whnf) | (refine upd_no (by decide +kernel) ?_; conv => whnf) | (refine LoopG.un 12 ?_; conv => whnf) | fail)
  all_goals first | exact .mk ⟨rfl, rfl⟩ | exact .mk ⟨sbool (by decide +kernel), rfl⟩ | trace_state
set_option maxRecDepth 100000 in
set_option maxHeartbeats 4000000 in
theorem webTouches_c : PCp 133 [.c (.ptr 0 0), .agg [cC, n1], .c cB] webO (.c (.bool true)) webO := by
  refine fn_sound (mt := mts) tab_fits tab_mixed Tryz.func133 (by rfl) (by kernel_rfl) (by kernel_rfl) Tryz.results133 (Nat.le_of_ble_eq_true (by kernel_rfl)) ?_
  conv => whnf
  repeat' (first | (refine CondG.mk (fun h => ?_) (fun h => absurd h (by decide +kernel)); clear h; conv => whnf) | (refine CondG.mk (fun h => absurd h (by decide +kernel)) (fun h => ?_); clear h; conv => whnf) | (refine Split.mk (fun h => ?_) (fun h => absurd h (by decide +kernel)); clear h; conv => whnf) | (refine Split.mk (fun h => absurd h (by decide +kernel)) (fun h => ?_); clear h; conv => whnf) | (refine Ask.mk (by first | decide | (unfold roomOK; decide)) ?_; conv => whnf) | (refine AppG.mk (by first | decide | (unfold roomOK; decide)) ?_; conv => whnf) | (refine SliceG.fr ?_; conv => whnf) | (refine IdxG.mk _ ⟨by decide, by rfl⟩ ?_; conv => whnf) | (refine RowG.mk _ (by rfl) ?_; conv => whnf) | (refine look_no (by decide +kernel) ?_; conv => whnf) | (refine look_ix 0 (by rfl) (by decide +kernel) ?_; conv => whnf) | (refine look_ix 1 (by rfl) (by decide +kernel) ?_; conv => whnf) | (refine look_ix 2 (by rfl) (by decide +kernel) ?_; conv => whnf) | (refine upd_no (by decide +kernel) ?_; conv => whnf) | (refine LoopG.un 12 ?_; conv => whnf) | fail)
  all_goals first | exact .mk ⟨rfl, rfl⟩ | exact .mk ⟨sbool (by decide +kernel), rfl⟩ | trace_state
set_option maxRecDepth 100000 in
set_option maxHeartbeats 4000000 in
theorem endOf_c : PCp 92 [.agg tinyL, .agg [cC, n1], .c cB] [] (.tup [.c (.ptr 0 0), .c (.int .i64 0)]) webO := by
  refine fn_sound (mt := mts) tab_fits tab_mixed Tryz.func92 (by rfl) (by kernel_rfl) (by kernel_rfl) Tryz.results92 (Nat.le_of_ble_eq_true (by kernel_rfl)) ?_
  conv => whnf
  repeat' (first | (refine CondG.mk (fun h => ?_) (fun h => absurd h (by decide +kernel)); clear h; conv => whnf) | (refine CondG.mk (fun h => absurd h (by decide +kernel)) (fun h => ?_); clear h; conv => whnf) | (refine Split.mk (fun h => ?_) (fun h => absurd h (by decide +kernel)); clear h; conv => whnf) | (refine Split.mk (fun h => absurd h (by decide +kernel)) (fun h => ?_); clear h; conv => whnf) | (refine CallX.mk _ _ (by first | exact siteFault_c | exact webNew_c | exact webHas_c | exact webTouches_c) ?_; conv => whnf) | (refine CallG.mk _ _ (by first | exact siteFault_c | exact webNew_c | exact webHas_c | exact webTouches_c) ?_; conv => whnf) | (refine Ask.mk (by first | decide | (unfold roomOK; decide)) ?_; conv => whnf) | (refine AppG.mk (by first | decide | (unfold roomOK; decide)) ?_; conv => whnf) | (refine SliceG.fr ?_; conv => whnf) | (refine IdxG.mk _ ⟨by decide, by rfl⟩ ?_; conv => whnf) | (refine RowG.mk _ (by rfl) ?_; conv => whnf) | (refine look_no (by decide +kernel) ?_; conv => whnf) | (refine look_ix 0 (by rfl) (by decide +kernel) ?_; conv => whnf) | (refine look_ix 1 (by rfl) (by decide +kernel) ?_; conv => whnf) | (refine look_ix 2 (by rfl) (by decide +kernel) ?_; conv => whnf) | (refine upd_no (by decide +kernel) ?_; conv => whnf) | (refine LoopG.un 12 ?_; conv => whnf) | fail)
  all_goals first | exact .mk ⟨rfl, rfl⟩ | trace_state
abbrev spl0 : List V := [.str ⟨#[]⟩, .str ⟨#[]⟩, .int .i64 0, .str ⟨#[]⟩, .int .i64 0, .int .i64 0]
set_option maxRecDepth 100000 in
set_option maxHeartbeats 4000000 in
theorem webAt_c (s : V) (hs : s = cA ∨ s = cB) : PCp 93 [.c (.ptr 0 0), .agg [s, cC, n1]] webO (.tup [.agg spl0, .c (.bool false)]) webO := by
  rcases hs with rfl | rfl
  · refine fn_sound (mt := mts) tab_fits tab_mixed Tryz.func93 (by rfl) (by kernel_rfl) (by kernel_rfl) Tryz.results93 (Nat.le_of_ble_eq_true (by kernel_rfl)) ?_
    conv => whnf
    repeat' (first | (refine CondG.mk (fun h => ?_) (fun h => absurd h (by decide +kernel)); clear h; conv => whnf) | (refine CondG.mk (fun h => absurd h (by decide +kernel)) (fun h => ?_); clear h; conv => whnf) | (refine Split.mk (fun h => ?_) (fun h => absurd h (by decide +kernel)); clear h; conv => whnf) | (refine Split.mk (fun h => absurd h (by decide +kernel)) (fun h => ?_); clear h; conv => whnf) | (refine Ask.mk (by first | decide | (unfold roomOK; decide)) ?_; conv => whnf) | (refine AppG.mk (by first | decide | (unfold roomOK; decide)) ?_; conv => whnf) | (refine SliceG.fr ?_; conv => whnf) | (refine IdxG.mk _ ⟨by decide, by rfl⟩ ?_; conv => whnf) | (refine RowG.mk _ (by rfl) ?_; conv => whnf) | (refine look_no (by decide +kernel) ?_; conv => whnf) | (refine look_ix 0 (by rfl) (by decide +kernel) ?_; conv => whnf) | (refine look_ix 1 (by rfl) (by decide +kernel) ?_; conv => whnf) | (refine look_ix 2 (by rfl) (by decide +kernel) ?_; conv => whnf) | (refine upd_no (by decide +kernel) ?_; conv => whnf) | (refine LoopG.un 12 ?_; conv => whnf) | fail)
    all_goals first | exact .mk ⟨rfl, rfl⟩ | trace_state
  · refine fn_sound (mt := mts) tab_fits tab_mixed Tryz.func93 (by rfl) (by kernel_rfl) (by kernel_rfl) Tryz.results93 (Nat.le_of_ble_eq_true (by kernel_rfl)) ?_
    conv => whnf
    repeat' (first | (refine CondG.mk (fun h => ?_) (fun h => absurd h (by decide +kernel)); clear h; conv => whnf) | (refine CondG.mk (fun h => absurd h (by decide +kernel)) (fun h => ?_); clear h; conv => whnf) | (refine Split.mk (fun h => ?_) (fun h => absurd h (by decide +kernel)); clear h; conv => whnf) | (refine Split.mk (fun h => absurd h (by decide +kernel)) (fun h => ?_); clear h; conv => whnf) | (refine Ask.mk (by first | decide | (unfold roomOK; decide)) ?_; conv => whnf) | (refine AppG.mk (by first | decide | (unfold roomOK; decide)) ?_; conv => whnf) | (refine SliceG.fr ?_; conv => whnf) | (refine IdxG.mk _ ⟨by decide, by rfl⟩ ?_; conv => whnf) | (refine RowG.mk _ (by rfl) ?_; conv => whnf) | (refine look_no (by decide +kernel) ?_; conv => whnf) | (refine look_ix 0 (by rfl) (by decide +kernel) ?_; conv => whnf) | (refine look_ix 1 (by rfl) (by decide +kernel) ?_; conv => whnf) | (refine look_ix 2 (by rfl) (by decide +kernel) ?_; conv => whnf) | (refine upd_no (by decide +kernel) ?_; conv => whnf) | (refine LoopG.un 12 ?_; conv => whnf) | fail)
    all_goals first | exact .mk ⟨rfl, rfl⟩ | trace_state
set_option maxRecDepth 100000 in
set_option maxHeartbeats 4000000 in
theorem webHop_c : PCp 134 [.c (.ptr 0 0), .agg [cB, cC, n1]] webO (.agg [cC, n1, cB, cA]) webO := by
  refine fn_sound (mt := mts) tab_fits tab_mixed Tryz.func134 (by rfl) (by kernel_rfl) (by kernel_rfl) Tryz.results134 (Nat.le_of_ble_eq_true (by kernel_rfl)) ?_
  conv => whnf
  repeat' (first | (refine CondG.mk (fun h => ?_) (fun h => absurd h (by decide +kernel)); clear h; conv => whnf) | (refine CondG.mk (fun h => absurd h (by decide +kernel)) (fun h => ?_); clear h; conv => whnf) | (refine Split.mk (fun h => ?_) (fun h => absurd h (by decide +kernel)); clear h; conv => whnf) | (refine Split.mk (fun h => absurd h (by decide +kernel)) (fun h => ?_); clear h; conv => whnf) | (refine Ask.mk (by first | decide | (unfold roomOK; decide)) ?_; conv => whnf) | (refine AppG.mk (by first | decide | (unfold roomOK; decide)) ?_; conv => whnf) | (refine SliceG.fr ?_; conv => whnf) | (refine IdxG.mk _ ⟨by decide, by rfl⟩ ?_; conv => whnf) | (refine RowG.mk _ (by rfl) ?_; conv => whnf) | (refine look_no (by decide +kernel) ?_; conv => whnf) | (refine look_ix 0 (by rfl) (by decide +kernel) ?_; conv => whnf) | (refine look_ix 1 (by rfl) (by decide +kernel) ?_; conv => whnf) | (refine look_ix 2 (by rfl) (by decide +kernel) ?_; conv => whnf) | (refine upd_no (by decide +kernel) ?_; conv => whnf) | (refine LoopG.un 12 ?_; conv => whnf) | fail)
  all_goals first | exact .mk ⟨rfl, rfl⟩ | trace_state
set_option maxRecDepth 100000 in
set_option maxHeartbeats 4000000 in
theorem webNext_c : PCp 135 [.c (.ptr 0 0), .agg [cC, n1, cB, cA]] webO (.tup [.agg [.str ⟨#[]⟩, .str ⟨#[]⟩, .int .i64 0], .c (.bool false)]) webO := by
  refine fn_sound (mt := mts) tab_fits tab_mixed Tryz.func135 (by rfl) (by kernel_rfl) (by kernel_rfl) Tryz.results135 (Nat.le_of_ble_eq_true (by kernel_rfl)) ?_
  conv => whnf
  repeat' (first | (refine CondG.mk (fun h => ?_) (fun h => absurd h (by decide +kernel)); clear h; conv => whnf) | (refine CondG.mk (fun h => absurd h (by decide +kernel)) (fun h => ?_); clear h; conv => whnf) | (refine Split.mk (fun h => ?_) (fun h => absurd h (by decide +kernel)); clear h; conv => whnf) | (refine Split.mk (fun h => absurd h (by decide +kernel)) (fun h => ?_); clear h; conv => whnf) | (refine CallX.mk _ _ (by first | exact webAt_c cA (.inl rfl)) ?_; conv => whnf) | (refine CallG.mk _ _ (by first | exact webAt_c cA (.inl rfl)) ?_; conv => whnf) | (refine Ask.mk (by first | decide | (unfold roomOK; decide)) ?_; conv => whnf) | (refine AppG.mk (by first | decide | (unfold roomOK; decide)) ?_; conv => whnf) | (refine SliceG.fr ?_; conv => whnf) | (refine IdxG.mk _ ⟨by decide, by rfl⟩ ?_; conv => whnf) | (refine RowG.mk _ (by rfl) ?_; conv => whnf) | (refine look_no (by decide +kernel) ?_; conv => whnf) | (refine look_ix 0 (by rfl) (by decide +kernel) ?_; conv => whnf) | (refine look_ix 1 (by rfl) (by decide +kernel) ?_; conv => whnf) | (refine look_ix 2 (by rfl) (by decide +kernel) ?_; conv => whnf) | (refine upd_no (by decide +kernel) ?_; conv => whnf) | (refine LoopG.un 12 ?_; conv => whnf) | fail)
  all_goals first | exact .mk ⟨rfl, rfl⟩ | trace_state
set_option maxRecDepth 100000 in
set_option maxHeartbeats 4000000 in
theorem webPath_c : PCp 94 [.c (.ptr 0 0), .agg [cB, cC, n1]] webO (.tup [.c (.row 4), .c (.bool false)]) (webO ++ [.row 214 4 [[cC, n1, cB, cA]]]) := by
  refine fn_sound (mt := mts) tab_fits tab_mixed Tryz.func94 (by rfl) (by kernel_rfl) (by kernel_rfl) Tryz.results94 (Nat.le_of_ble_eq_true (by kernel_rfl)) ?_
  conv => whnf
  repeat' (first | (refine CondG.mk (fun h => ?_) (fun h => absurd h (by decide +kernel)); clear h; conv => whnf) | (refine CondG.mk (fun h => absurd h (by decide +kernel)) (fun h => ?_); clear h; conv => whnf) | (refine Split.mk (fun h => ?_) (fun h => absurd h (by decide +kernel)); clear h; conv => whnf) | (refine Split.mk (fun h => absurd h (by decide +kernel)) (fun h => ?_); clear h; conv => whnf) | (refine CallX.mk _ _ (by first | exact webHop_c | exact webNext_c) ?_; conv => whnf) | (refine CallG.mk _ _ (by first | exact webHop_c | exact webNext_c) ?_; conv => whnf) | (refine Ask.mk (by first | decide | (unfold roomOK; decide)) ?_; conv => whnf) | (refine AppG.mk (by first | decide | (unfold roomOK; decide)) ?_; conv => whnf) | (refine SliceG.fr ?_; conv => whnf) | (refine IdxG.mk _ ⟨by decide, by rfl⟩ ?_; conv => whnf) | (refine RowG.mk _ (by rfl) ?_; conv => whnf) | (refine look_no (by decide +kernel) ?_; conv => whnf) | (refine look_ix 0 (by rfl) (by decide +kernel) ?_; conv => whnf) | (refine look_ix 1 (by rfl) (by decide +kernel) ?_; conv => whnf) | (refine look_ix 2 (by rfl) (by decide +kernel) ?_; conv => whnf) | (refine upd_no (by decide +kernel) ?_; conv => whnf) | (refine LoopG.un 12 ?_; conv => whnf) | fail)
  all_goals first | exact .mk ⟨rfl, rfl⟩ | trace_state
set_option maxRecDepth 100000 in
set_option maxHeartbeats 4000000 in
theorem path_c : PCp 57 [.agg tinyL, .agg [cC, n1], .c cB] [] (.tup [.c (.row 0), .c (.int .i64 0)]) [.row 214 4 [[cC, n1, cB, cA]]] := by
  refine fn_sound (mt := mts) tab_fits tab_mixed Tryz.func57 (by rfl) (by kernel_rfl) (by kernel_rfl) Tryz.results57 (Nat.le_of_ble_eq_true (by kernel_rfl)) ?_
  conv => whnf
  repeat' (first | (refine CondG.mk (fun h => ?_) (fun h => absurd h (by decide +kernel)); clear h; conv => whnf) | (refine CondG.mk (fun h => absurd h (by decide +kernel)) (fun h => ?_); clear h; conv => whnf) | (refine Split.mk (fun h => ?_) (fun h => absurd h (by decide +kernel)); clear h; conv => whnf) | (refine Split.mk (fun h => absurd h (by decide +kernel)) (fun h => ?_); clear h; conv => whnf) | (refine CallX.mk _ _ (by first | exact endOf_c | exact webAt_c cB (.inr rfl) | exact webPath_c) ?_; conv => whnf) | (refine CallG.mk _ _ (by first | exact endOf_c | exact webAt_c cB (.inr rfl) | exact webPath_c) ?_; conv => whnf) | (refine Ask.mk (by first | decide | (unfold roomOK; decide)) ?_; conv => whnf) | (refine AppG.mk (by first | decide | (unfold roomOK; decide)) ?_; conv => whnf) | (refine SliceG.fr ?_; conv => whnf) | (refine IdxG.mk _ ⟨by decide, by rfl⟩ ?_; conv => whnf) | (refine RowG.mk _ (by rfl) ?_; conv => whnf) | (refine look_no (by decide +kernel) ?_; conv => whnf) | (refine look_ix 0 (by rfl) (by decide +kernel) ?_; conv => whnf) | (refine look_ix 1 (by rfl) (by decide +kernel) ?_; conv => whnf) | (refine look_ix 2 (by rfl) (by decide +kernel) ?_; conv => whnf) | (refine upd_no (by decide +kernel) ?_; conv => whnf) | (refine LoopG.un 12 ?_; conv => whnf) | fail)
  all_goals first | exact .mk ⟨rfl, rfl⟩ | trace_state
end Go.Proofs.YtobcplhaabaemaaGreat

/- A trace of one step, by constants. -/
namespace Go.Proofs.YtobcplhaabaemaaGreat
set_option linter.unusedVariables false
set_option linter.unusedSimpArgs false
open Abs

abbrev trP : V := .lst 1 [[.int .i64 10], [.int .i64 10], [.int .i64 4], [.int .i64 4]]
abbrev trR : List V := [.int .i64 5, .int .i64 2, .int .i64 3, .int .i64 0, .int .i64 1]
set_option maxRecDepth 100000 in
set_option maxHeartbeats 4000000 in
theorem isReading_c (n : Int) (h : -10000 ≤ n ∧ n ≤ 10000) : PCp 168 [.c (.int .i64 n)] [] (.c (.bool true)) [] := by
  refine fn_sound (mt := mts) tab_fits tab_mixed Tryz.func168 (by rfl) (by kernel_rfl) (by kernel_rfl) Tryz.results168 (Nat.le_of_ble_eq_true (by kernel_rfl)) ?_
  conv => whnf
  repeat' (first | ((first | refine Split.mk (fun h => ?_) (fun h => ?_) | refine CondG.mk (fun h => ?_) (fun h => ?_)) <;> (try simp only [decide_eq_true_eq, decide_eq_false_iff_not, Bool.not_eq_true', Bool.not_eq_false', beq_iff_eq, beq_eq_false_iff_ne, bne_iff_ne, bne_eq_false_iff_eq] at h) <;> (first | (exfalso; first | omega | exact h trivial) | (conv => whnf))) | (refine CallX.mk _ _ (by first | exact bOut_pc _ _ _) ?_; conv => whnf) | (refine CallG.mk _ _ (by first | exact bOut_pc _ _ _) ?_; conv => whnf) | (refine Ask.mk (by first | omega | (unfold roomOK; simp [cutRows]; done) | (unfold roomOK; simp [cutRows]; omega) | (simp [cutRows]; done) | (simp [cutRows]; omega)) ?_; conv => whnf) | (refine AppG.mk (by first | omega | (unfold roomOK; simp [cutRows]; done) | (unfold roomOK; simp [cutRows]; omega) | (simp [cutRows]; done) | (simp [cutRows]; omega)) ?_; conv => whnf) | (refine SliceG.fr ?_; conv => whnf) | (refine idx_at _ (by with_reducible rfl) (by first | assumption | omega) ?_; conv => whnf) | ((with_reducible refine row_map (by first | assumption | omega) ?_); conv => whnf) | ((with_reducible refine row_set (by first | assumption | omega | (simp only [List.length_set]; omega) | (simp; omega)) ?_); conv => whnf) | fail)
  exact finb (by simp; omega)
set_option maxRecDepth 100000 in
set_option maxHeartbeats 4000000 in
theorem checkTrace_c : PCp 136 [.c trP] [] (.c (.int .i64 0)) [] := by
  refine fn_sound (mt := mts) tab_fits tab_mixed Tryz.func136 (by rfl) (by kernel_rfl) (by kernel_rfl) Tryz.results136 (Nat.le_of_ble_eq_true (by kernel_rfl)) ?_
  conv => whnf
  repeat' (first | (refine CondG.mk (fun h => ?_) (fun h => absurd h (by decide +kernel)); clear h; conv => whnf) | (refine CondG.mk (fun h => absurd h (by decide +kernel)) (fun h => ?_); clear h; conv => whnf) | (refine Split.mk (fun h => ?_) (fun h => absurd h (by decide +kernel)); clear h; conv => whnf) | (refine Split.mk (fun h => absurd h (by decide +kernel)) (fun h => ?_); clear h; conv => whnf) | (refine CallX.mk _ _ (by first | exact isReading_c _ (by decide)) ?_; conv => whnf) | (refine CallG.mk _ _ (by first | exact isReading_c _ (by decide)) ?_; conv => whnf) | (refine Ask.mk (by first | decide | (unfold roomOK; decide)) ?_; conv => whnf) | (refine AppG.mk (by first | decide | (unfold roomOK; decide)) ?_; conv => whnf) | (refine SliceG.fr ?_; conv => whnf) | (refine IdxG.mk _ ⟨by decide, by rfl⟩ ?_; conv => whnf) | (refine RowG.mk _ (by rfl) ?_; conv => whnf) | (refine look_no (by decide +kernel) ?_; conv => whnf) | (refine look_ix 0 (by rfl) (by decide +kernel) ?_; conv => whnf) | (refine look_ix 1 (by rfl) (by decide +kernel) ?_; conv => whnf) | (refine look_ix 2 (by rfl) (by decide +kernel) ?_; conv => whnf) | (refine upd_no (by decide +kernel) ?_; conv => whnf) | (refine LoopG.un 12 ?_; conv => whnf) | fail)
  all_goals first | exact .mk ⟨rfl, rfl⟩ | trace_state
theorem sboolT {a b : Bool} (h : a = b) : oneOf [S.c (.bool a)] = S.c (.bool b) := by rw [h]; rfl
set_option maxRecDepth 100000 in
set_option maxHeartbeats 4000000 in
theorem bLowest_c : PCp 169 [.agg [.int .i64 0, .int .i64 1]] [] (.c (.bool true)) [] := by
  refine fn_sound (mt := mts) tab_fits tab_mixed Tryz.func169 (by rfl) (by kernel_rfl) (by kernel_rfl) Tryz.results169 (Nat.le_of_ble_eq_true (by kernel_rfl)) ?_
  conv => whnf
  repeat' (first | (refine CondG.mk (fun h => ?_) (fun h => absurd h (by decide +kernel)); clear h; conv => whnf) | (refine CondG.mk (fun h => absurd h (by decide +kernel)) (fun h => ?_); clear h; conv => whnf) | (refine Split.mk (fun h => ?_) (fun h => absurd h (by decide +kernel)); clear h; conv => whnf) | (refine Split.mk (fun h => absurd h (by decide +kernel)) (fun h => ?_); clear h; conv => whnf) | (refine Ask.mk (by first | decide | (unfold roomOK; decide)) ?_; conv => whnf) | (refine AppG.mk (by first | decide | (unfold roomOK; decide)) ?_; conv => whnf) | (refine SliceG.fr ?_; conv => whnf) | (refine IdxG.mk _ ⟨by decide, by rfl⟩ ?_; conv => whnf) | (refine RowG.mk _ (by rfl) ?_; conv => whnf) | (refine look_no (by decide +kernel) ?_; conv => whnf) | (refine look_ix 0 (by rfl) (by decide +kernel) ?_; conv => whnf) | (refine look_ix 1 (by rfl) (by decide +kernel) ?_; conv => whnf) | (refine look_ix 2 (by rfl) (by decide +kernel) ?_; conv => whnf) | (refine upd_no (by decide +kernel) ?_; conv => whnf) | (refine LoopG.un 12 ?_; conv => whnf) | fail)
  all_goals first | exact .mk ⟨rfl, rfl⟩ | exact .mk ⟨sboolT (by decide +kernel), rfl⟩ | trace_state
set_option maxRecDepth 100000 in
set_option maxHeartbeats 4000000 in
theorem checkRules_c : PCp 137 [.agg trR] [] (.c (.int .i64 0)) [] := by
  refine fn_sound (mt := mts) tab_fits tab_mixed Tryz.func137 (by rfl) (by kernel_rfl) (by kernel_rfl) Tryz.results137 (Nat.le_of_ble_eq_true (by kernel_rfl)) ?_
  conv => whnf
  repeat' (first | (refine CondG.mk (fun h => ?_) (fun h => absurd h (by decide +kernel)); clear h; conv => whnf) | (refine CondG.mk (fun h => absurd h (by decide +kernel)) (fun h => ?_); clear h; conv => whnf) | (refine Split.mk (fun h => ?_) (fun h => absurd h (by decide +kernel)); clear h; conv => whnf) | (refine Split.mk (fun h => absurd h (by decide +kernel)) (fun h => ?_); clear h; conv => whnf) | (refine CallX.mk _ _ (by first | exact bOut_pc _ _ _ | exact bLowest_c) ?_; conv => whnf) | (refine CallG.mk _ _ (by first | exact bOut_pc _ _ _ | exact bLowest_c) ?_; conv => whnf) | (refine Ask.mk (by first | decide | (unfold roomOK; decide)) ?_; conv => whnf) | (refine AppG.mk (by first | decide | (unfold roomOK; decide)) ?_; conv => whnf) | (refine SliceG.fr ?_; conv => whnf) | (refine IdxG.mk _ ⟨by decide, by rfl⟩ ?_; conv => whnf) | (refine RowG.mk _ (by rfl) ?_; conv => whnf) | (refine look_no (by decide +kernel) ?_; conv => whnf) | (refine look_ix 0 (by rfl) (by decide +kernel) ?_; conv => whnf) | (refine look_ix 1 (by rfl) (by decide +kernel) ?_; conv => whnf) | (refine look_ix 2 (by rfl) (by decide +kernel) ?_; conv => whnf) | (refine upd_no (by decide +kernel) ?_; conv => whnf) | (refine LoopG.un 12 ?_; conv => whnf) | fail)
  all_goals first | exact .mk ⟨rfl, rfl⟩ | trace_state
set_option maxRecDepth 100000 in
set_option maxHeartbeats 4000000 in
theorem traceFault_c : PCp 95 [.c trP, .agg trR] [] (.c (.int .i64 0)) [] := by
  refine fn_sound (mt := mts) tab_fits tab_mixed Tryz.func95 (by rfl) (by kernel_rfl) (by kernel_rfl) Tryz.results95 (Nat.le_of_ble_eq_true (by kernel_rfl)) ?_
  conv => whnf
  repeat' (first | (refine CondG.mk (fun h => ?_) (fun h => absurd h (by decide +kernel)); clear h; conv => whnf) | (refine CondG.mk (fun h => absurd h (by decide +kernel)) (fun h => ?_); clear h; conv => whnf) | (refine Split.mk (fun h => ?_) (fun h => absurd h (by decide +kernel)); clear h; conv => whnf) | (refine Split.mk (fun h => absurd h (by decide +kernel)) (fun h => ?_); clear h; conv => whnf) | (refine CallX.mk _ _ (by first | exact checkTrace_c | exact checkRules_c | exact first_pc [0, 0] (by decide)) ?_; conv => whnf) | (refine CallG.mk _ _ (by first | exact checkTrace_c | exact checkRules_c | exact first_pc [0, 0] (by decide)) ?_; conv => whnf) | (refine Ask.mk (by first | decide | (unfold roomOK; decide)) ?_; conv => whnf) | (refine AppG.mk (by first | decide | (unfold roomOK; decide)) ?_; conv => whnf) | (refine SliceG.fr ?_; conv => whnf) | (refine IdxG.mk _ ⟨by decide, by rfl⟩ ?_; conv => whnf) | (refine RowG.mk _ (by rfl) ?_; conv => whnf) | (refine look_no (by decide +kernel) ?_; conv => whnf) | (refine look_ix 0 (by rfl) (by decide +kernel) ?_; conv => whnf) | (refine look_ix 1 (by rfl) (by decide +kernel) ?_; conv => whnf) | (refine look_ix 2 (by rfl) (by decide +kernel) ?_; conv => whnf) | (refine upd_no (by decide +kernel) ?_; conv => whnf) | (refine LoopG.un 12 ?_; conv => whnf) | fail)
  all_goals first | exact .mk ⟨rfl, rfl⟩ | trace_state
set_option maxRecDepth 100000 in
set_option maxHeartbeats 4000000 in
theorem sum_c1 : PCp 138 [.c (.lst 1 [[.int .i64 10], [.int .i64 10]])] [] (.c (.int .i64 20)) [] := by
  refine fn_sound (mt := mts) tab_fits tab_mixed Tryz.func138 (by rfl) (by kernel_rfl) (by kernel_rfl) Tryz.results138 (Nat.le_of_ble_eq_true (by kernel_rfl)) ?_
  conv => whnf
  repeat' (first | (refine CondG.mk (fun h => ?_) (fun h => absurd h (by decide +kernel)); clear h; conv => whnf) | (refine CondG.mk (fun h => absurd h (by decide +kernel)) (fun h => ?_); clear h; conv => whnf) | (refine Split.mk (fun h => ?_) (fun h => absurd h (by decide +kernel)); clear h; conv => whnf) | (refine Split.mk (fun h => absurd h (by decide +kernel)) (fun h => ?_); clear h; conv => whnf) | (refine Ask.mk (by first | decide | (unfold roomOK; decide)) ?_; conv => whnf) | (refine AppG.mk (by first | decide | (unfold roomOK; decide)) ?_; conv => whnf) | (refine SliceG.fr ?_; conv => whnf) | (refine IdxG.mk _ ⟨by decide, by rfl⟩ ?_; conv => whnf) | (refine RowG.mk _ (by rfl) ?_; conv => whnf) | (refine look_no (by decide +kernel) ?_; conv => whnf) | (refine look_ix 0 (by rfl) (by decide +kernel) ?_; conv => whnf) | (refine look_ix 1 (by rfl) (by decide +kernel) ?_; conv => whnf) | (refine look_ix 2 (by rfl) (by decide +kernel) ?_; conv => whnf) | (refine upd_no (by decide +kernel) ?_; conv => whnf) | (refine LoopG.un 12 ?_; conv => whnf) | fail)
  all_goals first | exact .mk ⟨rfl, rfl⟩ | trace_state
set_option maxRecDepth 100000 in
set_option maxHeartbeats 4000000 in
theorem sum_c2 : PCp 138 [.c (.lst 1 [[.int .i64 4], [.int .i64 4]])] [] (.c (.int .i64 8)) [] := by
  refine fn_sound (mt := mts) tab_fits tab_mixed Tryz.func138 (by rfl) (by kernel_rfl) (by kernel_rfl) Tryz.results138 (Nat.le_of_ble_eq_true (by kernel_rfl)) ?_
  conv => whnf
  repeat' (first | (refine CondG.mk (fun h => ?_) (fun h => absurd h (by decide +kernel)); clear h; conv => whnf) | (refine CondG.mk (fun h => absurd h (by decide +kernel)) (fun h => ?_); clear h; conv => whnf) | (refine Split.mk (fun h => ?_) (fun h => absurd h (by decide +kernel)); clear h; conv => whnf) | (refine Split.mk (fun h => absurd h (by decide +kernel)) (fun h => ?_); clear h; conv => whnf) | (refine Ask.mk (by first | decide | (unfold roomOK; decide)) ?_; conv => whnf) | (refine AppG.mk (by first | decide | (unfold roomOK; decide)) ?_; conv => whnf) | (refine SliceG.fr ?_; conv => whnf) | (refine IdxG.mk _ ⟨by decide, by rfl⟩ ?_; conv => whnf) | (refine RowG.mk _ (by rfl) ?_; conv => whnf) | (refine look_no (by decide +kernel) ?_; conv => whnf) | (refine look_ix 0 (by rfl) (by decide +kernel) ?_; conv => whnf) | (refine look_ix 1 (by rfl) (by decide +kernel) ?_; conv => whnf) | (refine look_ix 2 (by rfl) (by decide +kernel) ?_; conv => whnf) | (refine upd_no (by decide +kernel) ?_; conv => whnf) | (refine LoopG.un 12 ?_; conv => whnf) | fail)
  all_goals first | exact .mk ⟨rfl, rfl⟩ | trace_state
set_option maxRecDepth 100000 in
set_option maxHeartbeats 4000000 in
theorem fraction_c : PCp 139 [.c (.int .i64 12), .c (.int .i64 2)] [] (.agg [.int .i64 6, .int .i64 1]) [] := by
  have g : PCp 170 [.c (.int .i64 12), .c (.int .i64 2)] [] (.c (.int .i64 2)) [] := by
    refine fn_sound (mt := mts) tab_fits tab_mixed Tryz.func170 (by rfl) (by kernel_rfl) (by kernel_rfl) Tryz.results170 (Nat.le_of_ble_eq_true (by kernel_rfl)) ?_
    conv => whnf
    repeat' (first | (refine CondG.mk (fun h => ?_) (fun h => absurd h (by decide +kernel)); clear h; conv => whnf) | (refine CondG.mk (fun h => absurd h (by decide +kernel)) (fun h => ?_); clear h; conv => whnf) | (refine Split.mk (fun h => ?_) (fun h => absurd h (by decide +kernel)); clear h; conv => whnf) | (refine Split.mk (fun h => absurd h (by decide +kernel)) (fun h => ?_); clear h; conv => whnf) | (refine Ask.mk (by first | decide | (unfold roomOK; decide)) ?_; conv => whnf) | (refine AppG.mk (by first | decide | (unfold roomOK; decide)) ?_; conv => whnf) | (refine SliceG.fr ?_; conv => whnf) | (refine IdxG.mk _ ⟨by decide, by rfl⟩ ?_; conv => whnf) | (refine RowG.mk _ (by rfl) ?_; conv => whnf) | (refine look_no (by decide +kernel) ?_; conv => whnf) | (refine look_ix 0 (by rfl) (by decide +kernel) ?_; conv => whnf) | (refine look_ix 1 (by rfl) (by decide +kernel) ?_; conv => whnf) | (refine look_ix 2 (by rfl) (by decide +kernel) ?_; conv => whnf) | (refine upd_no (by decide +kernel) ?_; conv => whnf) | (refine LoopG.un 12 ?_; conv => whnf) | fail)
    all_goals first | exact .mk ⟨rfl, rfl⟩ | trace_state
  refine fn_sound (mt := mts) tab_fits tab_mixed Tryz.func139 (by rfl) (by kernel_rfl) (by kernel_rfl) Tryz.results139 (Nat.le_of_ble_eq_true (by kernel_rfl)) ?_
  conv => whnf
  repeat' (first | (refine CondG.mk (fun h => ?_) (fun h => absurd h (by decide +kernel)); clear h; conv => whnf) | (refine CondG.mk (fun h => absurd h (by decide +kernel)) (fun h => ?_); clear h; conv => whnf) | (refine Split.mk (fun h => ?_) (fun h => absurd h (by decide +kernel)); clear h; conv => whnf) | (refine Split.mk (fun h => absurd h (by decide +kernel)) (fun h => ?_); clear h; conv => whnf) | (refine CallX.mk _ _ (by first | exact g) ?_; conv => whnf) | (refine CallG.mk _ _ (by first | exact g) ?_; conv => whnf) | (refine Ask.mk (by first | decide | (unfold roomOK; decide)) ?_; conv => whnf) | (refine AppG.mk (by first | decide | (unfold roomOK; decide)) ?_; conv => whnf) | (refine SliceG.fr ?_; conv => whnf) | (refine IdxG.mk _ ⟨by decide, by rfl⟩ ?_; conv => whnf) | (refine RowG.mk _ (by rfl) ?_; conv => whnf) | (refine look_no (by decide +kernel) ?_; conv => whnf) | (refine look_ix 0 (by rfl) (by decide +kernel) ?_; conv => whnf) | (refine look_ix 1 (by rfl) (by decide +kernel) ?_; conv => whnf) | (refine look_ix 2 (by rfl) (by decide +kernel) ?_; conv => whnf) | (refine upd_no (by decide +kernel) ?_; conv => whnf) | (refine LoopG.un 12 ?_; conv => whnf) | fail)
  all_goals first | exact .mk ⟨rfl, rfl⟩ | trace_state
set_option maxRecDepth 100000 in
set_option maxHeartbeats 4000000 in
theorem excess_c : PCp 96 [.c trP, .agg trR] [] (.c (.row 0)) [.row 121 2 [[.int .i64 6, .int .i64 1]]] := by
  refine fn_sound (mt := mts) tab_fits tab_mixed Tryz.func96 (by rfl) (by kernel_rfl) (by kernel_rfl) Tryz.results96 (Nat.le_of_ble_eq_true (by kernel_rfl)) ?_
  conv => whnf
  repeat' (first | (refine CondG.mk (fun h => ?_) (fun h => absurd h (by decide +kernel)); clear h; conv => whnf) | (refine CondG.mk (fun h => absurd h (by decide +kernel)) (fun h => ?_); clear h; conv => whnf) | (refine Split.mk (fun h => ?_) (fun h => absurd h (by decide +kernel)); clear h; conv => whnf) | (refine Split.mk (fun h => absurd h (by decide +kernel)) (fun h => ?_); clear h; conv => whnf) | (refine CallX.mk _ _ (by first | exact sum_c1 | exact sum_c2 | exact fraction_c) ?_; conv => whnf) | (refine CallG.mk _ _ (by first | exact sum_c1 | exact sum_c2 | exact fraction_c) ?_; conv => whnf) | (refine Ask.mk (by first | decide | (unfold roomOK; decide)) ?_; conv => whnf) | (refine AppG.mk (by first | decide | (unfold roomOK; decide)) ?_; conv => whnf) | (refine SliceG.fr ?_; conv => whnf) | (refine IdxG.mk _ ⟨by decide, by rfl⟩ ?_; conv => whnf) | (refine RowG.mk _ (by rfl) ?_; conv => whnf) | (refine look_no (by decide +kernel) ?_; conv => whnf) | (refine look_ix 0 (by rfl) (by decide +kernel) ?_; conv => whnf) | (refine look_ix 1 (by rfl) (by decide +kernel) ?_; conv => whnf) | (refine look_ix 2 (by rfl) (by decide +kernel) ?_; conv => whnf) | (refine upd_no (by decide +kernel) ?_; conv => whnf) | (refine LoopG.un 12 ?_; conv => whnf) | fail)
  all_goals first | exact .mk ⟨rfl, rfl⟩ | trace_state
set_option maxRecDepth 100000 in
set_option maxHeartbeats 4000000 in
theorem down_c : PCp 98 [.c (.int .i64 13), .c (.int .i64 2)] [] (.c (.int .i64 6)) [] := by
  refine fn_sound (mt := mts) tab_fits tab_mixed Tryz.func98 (by rfl) (by kernel_rfl) (by kernel_rfl) Tryz.results98 (Nat.le_of_ble_eq_true (by kernel_rfl)) ?_
  conv => whnf
  repeat' (first | (refine CondG.mk (fun h => ?_) (fun h => absurd h (by decide +kernel)); clear h; conv => whnf) | (refine CondG.mk (fun h => absurd h (by decide +kernel)) (fun h => ?_); clear h; conv => whnf) | (refine Split.mk (fun h => ?_) (fun h => absurd h (by decide +kernel)); clear h; conv => whnf) | (refine Split.mk (fun h => absurd h (by decide +kernel)) (fun h => ?_); clear h; conv => whnf) | (refine Ask.mk (by first | decide | (unfold roomOK; decide)) ?_; conv => whnf) | (refine AppG.mk (by first | decide | (unfold roomOK; decide)) ?_; conv => whnf) | (refine SliceG.fr ?_; conv => whnf) | (refine IdxG.mk _ ⟨by decide, by rfl⟩ ?_; conv => whnf) | (refine RowG.mk _ (by rfl) ?_; conv => whnf) | (refine look_no (by decide +kernel) ?_; conv => whnf) | (refine look_ix 0 (by rfl) (by decide +kernel) ?_; conv => whnf) | (refine look_ix 1 (by rfl) (by decide +kernel) ?_; conv => whnf) | (refine look_ix 2 (by rfl) (by decide +kernel) ?_; conv => whnf) | (refine upd_no (by decide +kernel) ?_; conv => whnf) | (refine LoopG.un 12 ?_; conv => whnf) | fail)
  all_goals first | exact .mk ⟨rfl, rfl⟩ | trace_state
/-! the run that goes on is told -/
set_option maxRecDepth 100000 in
set_option maxHeartbeats 4000000 in
theorem flush_c : PCp 97 [.c (.ptr 0 0), .c (.ptr 1 0), .c (.ptr 3 0), .c (.ptr 4 0)] [.box [.int .i64 0], .box [.row 2], .row 121 2 [[.int .i64 6, .int .i64 1]], .box [.nils], .box trR] (.tup []) [.box [.int .i64 (-1)], .box [.row 2], .row 121 2 [[.int .i64 6, .int .i64 1]], .box [.row 5], .box trR, .row 172 2 [[.int .i64 10, .int .i64 6]]] := by
  refine fn_sound (mt := mts) tab_fits tab_mixed Tryz.func97 (by rfl) (by kernel_rfl) (by kernel_rfl) Tryz.results97 (Nat.le_of_ble_eq_true (by kernel_rfl)) ?_
  conv => whnf
  repeat' (first | (refine CondG.mk (fun h => ?_) (fun h => absurd h (by decide +kernel)); clear h; conv => whnf) | (refine CondG.mk (fun h => absurd h (by decide +kernel)) (fun h => ?_); clear h; conv => whnf) | (refine Split.mk (fun h => ?_) (fun h => absurd h (by decide +kernel)); clear h; conv => whnf) | (refine Split.mk (fun h => absurd h (by decide +kernel)) (fun h => ?_); clear h; conv => whnf) | (refine CallX.mk _ _ (by first | exact down_c) ?_; conv => whnf) | (refine CallG.mk _ _ (by first | exact down_c) ?_; conv => whnf) | (refine Ask.mk (by first | decide | (unfold roomOK; decide)) ?_; conv => whnf) | (refine AppG.mk (by first | decide | (unfold roomOK; decide)) ?_; conv => whnf) | (refine SliceG.fr ?_; conv => whnf) | (refine IdxG.mk _ ⟨by decide, by rfl⟩ ?_; conv => whnf) | (refine RowG.mk _ (by rfl) ?_; conv => whnf) | (refine look_no (by decide +kernel) ?_; conv => whnf) | (refine look_ix 0 (by rfl) (by decide +kernel) ?_; conv => whnf) | (refine look_ix 1 (by rfl) (by decide +kernel) ?_; conv => whnf) | (refine look_ix 2 (by rfl) (by decide +kernel) ?_; conv => whnf) | (refine upd_no (by decide +kernel) ?_; conv => whnf) | (refine LoopG.un 12 ?_; conv => whnf) | fail)
  all_goals first | exact .mk ⟨rfl, rfl⟩ | trace_state
set_option maxRecDepth 100000 in
set_option maxHeartbeats 4000000 in
theorem detected_c : PCp 59 [.c trP, .agg trR] [] (.tup [.c (.row 0), .c (.int .i64 0)]) [.row 172 2 [[.int .i64 10, .int .i64 6]]] := by
  refine fn_sound (mt := mts) tab_fits tab_mixed Tryz.func59 (by rfl) (by kernel_rfl) (by kernel_rfl) Tryz.results59 (Nat.le_of_ble_eq_true (by kernel_rfl)) ?_
  conv => whnf
  repeat' (first | (refine CondG.mk (fun h => ?_) (fun h => absurd h (by decide +kernel)); clear h; conv => whnf) | (refine CondG.mk (fun h => absurd h (by decide +kernel)) (fun h => ?_); clear h; conv => whnf) | (refine Split.mk (fun h => ?_) (fun h => absurd h (by decide +kernel)); clear h; conv => whnf) | (refine Split.mk (fun h => absurd h (by decide +kernel)) (fun h => ?_); clear h; conv => whnf) | (refine CallX.mk _ _ (by first | exact traceFault_c | exact excess_c | exact flush_c) ?_; conv => whnf) | (refine CallG.mk _ _ (by first | exact traceFault_c | exact excess_c | exact flush_c) ?_; conv => whnf) | (refine Ask.mk (by first | decide | (unfold roomOK; decide)) ?_; conv => whnf) | (refine AppG.mk (by first | decide | (unfold roomOK; decide)) ?_; conv => whnf) | (refine SliceG.fr ?_; conv => whnf) | (refine IdxG.mk _ ⟨by decide, by rfl⟩ ?_; conv => whnf) | (refine RowG.mk _ (by rfl) ?_; conv => whnf) | (refine look_no (by decide +kernel) ?_; conv => whnf) | (refine look_ix 0 (by rfl) (by decide +kernel) ?_; conv => whnf) | (refine look_ix 1 (by rfl) (by decide +kernel) ?_; conv => whnf) | (refine look_ix 2 (by rfl) (by decide +kernel) ?_; conv => whnf) | (refine upd_no (by decide +kernel) ?_; conv => whnf) | (refine LoopG.un 12 ?_; conv => whnf) | fail)
  all_goals first | exact .mk ⟨rfl, rfl⟩ | trace_state
end Go.Proofs.YtobcplhaabaemaaGreat

/- Repairs are ordered. -/
namespace Go.Proofs.YtobcplhaabaemaaGreat
set_option linter.unusedVariables false
set_option linter.unusedSimpArgs false
open Abs

abbrev MN := SM ByteArray Int
def fl (left : List ByteArray) (x : Sv) : List ByteArray := left.filter fun k => decide (k ∈ x.els)
def gmS (left : List ByteArray) (m : MN) (x : Sv) : MN := match fl left x with | [e] => m.put e (IntKind.i64.wrap ((m.get e).getD 0 + x.cust)) | _ => m
def gm (s : List Sv) (left : List ByteArray) : MN := s.foldl (gmS left) SM.nil
end Go.Proofs.YtobcplhaabaemaaGreat

/- Repairs by the document. -/
namespace Go.Proofs.YtobcplhaabaemaaGreat
set_option linter.unusedVariables false
set_option linter.unusedSimpArgs false
open Abs

end Go.Proofs.YtobcplhaabaemaaGreat

/- Acts are made. -/
namespace Go.Proofs.YtobcplhaabaemaaGreat
set_option linter.unusedVariables false
set_option linter.unusedSimpArgs false
open Abs

end Go.Proofs.YtobcplhaabaemaaGreat

/- A store, as the program follows it. -/
namespace Go.Proofs.YtobcplhaabaemaaGreat
set_option linter.unusedVariables false
set_option linter.unusedSimpArgs false
open Abs

structure Sto where
  d : SM ByteArray (ByteArray × Int)
  k : SM ByteArray ByteArray
structure Sto.ok (s : Sto) : Prop where
  d : s.d.ok
  k : s.k.ok
end Go.Proofs.YtobcplhaabaemaaGreat

/- What was used, as the program counts it. -/
namespace Go.Proofs.YtobcplhaabaemaaGreat
set_option linter.unusedVariables false
set_option linter.unusedSimpArgs false
open Abs

end Go.Proofs.YtobcplhaabaemaaGreat

/- The least stock, as the program finds it. -/
namespace Go.Proofs.YtobcplhaabaemaaGreat
set_option linter.unusedVariables false
set_option linter.unusedSimpArgs false
open Abs

end Go.Proofs.YtobcplhaabaemaaGreat

/- The least stock, as the program finds it: all acts. -/
namespace Go.Proofs.YtobcplhaabaemaaGreat
set_option linter.unusedVariables false
set_option linter.unusedSimpArgs false
open Abs

end Go.Proofs.YtobcplhaabaemaaGreat

/- The document's store. -/
namespace Go.Proofs.YtobcplhaabaemaaGreat
set_option linter.unusedVariables false
set_option linter.unusedSimpArgs false
open Abs

structure Rto where
  l : SM ByteArray Int
  k : SM ByteArray ByteArray
structure Rto.ok (s : Rto) : Prop where
  l : s.l.ok
  k : s.k.ok
end Go.Proofs.YtobcplhaabaemaaGreat

/- What was used, by the document. -/
namespace Go.Proofs.YtobcplhaabaemaaGreat
set_option linter.unusedVariables false
set_option linter.unusedSimpArgs false
open Abs

end Go.Proofs.YtobcplhaabaemaaGreat

/- Stock at a moment, by the document. -/
namespace Go.Proofs.YtobcplhaabaemaaGreat
set_option linter.unusedVariables false
set_option linter.unusedSimpArgs false
open Abs

end Go.Proofs.YtobcplhaabaemaaGreat

/- Stock at a moment, by the document: the list. -/
namespace Go.Proofs.YtobcplhaabaemaaGreat
set_option linter.unusedVariables false
set_option linter.unusedSimpArgs false
open Abs

end Go.Proofs.YtobcplhaabaemaaGreat

/- Errors of acts and windows, by the document. -/
namespace Go.Proofs.YtobcplhaabaemaaGreat
set_option linter.unusedVariables false
set_option linter.unusedSimpArgs false
open Abs
end Go.Proofs.YtobcplhaabaemaaGreat

/- Comparisons, one behind another; sorting by insertion keeps the order of equal ones. -/
namespace Go.Proofs.YtobcplhaabaemaaGreat
set_option linter.unusedVariables false
set_option linter.unusedSimpArgs false
open Abs

/-- a comparison -/
structure Cmp {α : Type} (c : α → α → Int) : Prop where
  anti : ∀ a b, c b a = - c a b
  trans : ∀ a b d, c a b ≤ 0 → c b d ≤ 0 → c a d ≤ 0
theorem Cmp.lt {α : Type} {c : α → α → Int} (h : Cmp c) {a b d : α} (h1 : c a b ≤ 0) (h2 : c b d ≤ 0) (h3 : c a b < 0 ∨ c b d < 0) : c a d < 0 := by
  have h4 := h.trans a b d h1 h2
  rcases Int.lt_or_le (c a d) 0 with h5 | h5
  · exact h5
  · have a1 := h.anti a d
    have a2 := h.anti a b
    have a3 := h.anti b d
    rcases h3 with h3 | h3
    · have := h.trans b d a h2 (by omega); omega
    · have := h.trans d a b (by omega) h1; omega
theorem Cmp.swo {α : Type} {c : α → α → Int} (h : Cmp c) : SWOc c where
  irrefl x := by have := h.anti x x; omega
  trans x y z h1 h2 := h.lt (by omega) (by omega) (.inl h1)
  ntrans x y z h1 h2 := by
    have a1 := h.anti x y
    have a2 := h.anti y z
    have a3 := h.anti x z
    have := h.trans z y x (by omega) (by omega)
    omega
end Go.Proofs.YtobcplhaabaemaaGreat

/- Strings sorted (a few), and what numbers look like: Itoa by the kit's contract. -/
namespace Go.Proofs.YtobcplhaabaemaaGreat
set_option linter.unusedVariables false
set_option linter.unusedSimpArgs false
open Abs

/-! what a function of the library gives that makes new memory of its own -/
theorem Nx.grown {F : Nat → Prop} {φ : Nat → Option Value} {w : World} {N : Nat → Prop} {h : Nat → Option Ob} (k : Nat) (os : Array Obj) : Nx F φ w h N [] F φ (Sort.grow (w.drewN k) os) where
  hF _ h := h
  hφ _ _ h := h
  nφ _ _ h := .inl h
  os := rfl
  tape := rfl
  output := rfl
  drawn _ := Nat.le_add_right _ _
  size := by simp [Sort.grow, World.drewN]
  keep b hb hne := (hne (by simp only [Sort.grow, World.drewN]; rw [Array.getElem?_append_left hb])).elim
  nF b h := .inl h
  objs l o h := by simp [chGet] at h
  own l o b h := by simp [chGet] at h
  inj l l' o o' b h := by simp [chGet] at h
end Go.Proofs.YtobcplhaabaemaaGreat

/- What each element affects by itself: the plain part, and sorts. -/
namespace Go.Proofs.YtobcplhaabaemaaGreat
set_option linter.unusedVariables false
set_option linter.unusedSimpArgs false
open Abs

/-! elements and customers, one behind another -/
/-! how they are ordered -/
end Go.Proofs.YtobcplhaabaemaaGreat

/- What each element affects by itself: walked. -/
namespace Go.Proofs.YtobcplhaabaemaaGreat
set_option linter.unusedVariables false
set_option linter.unusedSimpArgs false
open Abs

/-! the program's -/
end Go.Proofs.YtobcplhaabaemaaGreat

/- What each element affects by itself, by the document; the law. -/
namespace Go.Proofs.YtobcplhaabaemaaGreat
set_option linter.unusedVariables false
set_option linter.unusedSimpArgs false
open Abs

end Go.Proofs.YtobcplhaabaemaaGreat

/- The law of repairs. -/
namespace Go.Proofs.YtobcplhaabaemaaGreat
set_option linter.unusedVariables false
set_option linter.unusedSimpArgs false
open Abs

end Go.Proofs.YtobcplhaabaemaaGreat

/- The packages do something. -/
namespace Go.Proofs.YtobcplhaabaemaaGreat
set_option linter.unusedVariables false
set_option linter.unusedSimpArgs false
open Abs

set_option maxRecDepth 100000 in
set_option maxHeartbeats 4000000 in
theorem kerrs_pc (l : List Int) (hl : l.length ≤ 1000000) : PCp 26 [.c (.lst 1 (l.map encI))] [] (.c (.int .i64 (firstErr l))) [] := by
  have hlm : (l.map encI).length = l.length := List.length_map ..
  refine fn_sound (mt := mts) tab_fits tab_mixed Tryz.func26 (by rfl) (by kernel_rfl) (by kernel_rfl) Tryz.results26 (Nat.le_of_ble_eq_true (by kernel_rfl)) ?_
  conv => whnf
  refine loop_count (l.length) [] [5, 6, 7] (fun k (_ : Unit) => ⟨[(5, .c (.lst 1 (l.map encI))), (6, .c (.int .i64 (l.map encI).length)), (7, .c (.int .i64 k))], [], 0⟩) (fun k (_ : Unit) => firstErr (l.drop k) = firstErr l) (()) ?_ ?_ ?_
  · conv => whnf
    exact ⟨rfl, rfl⟩
  · intro k _ hk hi
    rw [drop_cons hk, firstErr] at hi
    conv => whnf
    repeat' (first | ((first | refine Split.mk (fun h => ?_) (fun h => ?_) | refine CondG.mk (fun h => ?_) (fun h => ?_)) <;> (try simp only [decide_eq_true_eq, decide_eq_false_iff_not, Bool.not_eq_true', Bool.not_eq_false', beq_iff_eq, beq_eq_false_iff_ne] at h) <;> (first | (exfalso; first | omega | exact h trivial) | (conv => whnf))) | (refine Ask.mk (by first | omega | (unfold roomOK; simp [cutRows]; done) | (unfold roomOK; simp [cutRows]; omega)) ?_; conv => whnf) | (refine AppG.mk (by first | omega | (unfold roomOK; simp [cutRows]; done) | (unfold roomOK; simp [cutRows]; omega)) ?_; conv => whnf) | (refine SliceG.fr ?_; conv => whnf) | fail)
    refine idx_map k hk rfl ?_
    conv => whnf
    repeat' (first | ((first | refine Split.mk (fun h => ?_) (fun h => ?_) | refine CondG.mk (fun h => ?_) (fun h => ?_)) <;> (try simp only [decide_eq_true_eq, decide_eq_false_iff_not, Bool.not_eq_true', Bool.not_eq_false', beq_iff_eq, beq_eq_false_iff_ne] at h) <;> (first | (exfalso; first | omega | exact h trivial) | (conv => whnf))) | (refine Ask.mk (by first | omega | (unfold roomOK; simp [cutRows]; done) | (unfold roomOK; simp [cutRows]; omega)) ?_; conv => whnf) | (refine AppG.mk (by first | omega | (unfold roomOK; simp [cutRows]; done) | (unfold roomOK; simp [cutRows]; omega)) ?_; conv => whnf) | (refine SliceG.fr ?_; conv => whnf) | fail)
    · exact fini (by rw [← hi, if_neg (by simpa using h)])
    · refine count_next () hk (by rw [wrap_succ hk (by omega)]; rfl) ?_
      rw [← hi, if_pos (by simpa using h)]
  · intro _ hi
    rw [List.drop_of_length_le (Nat.le_refl _)] at hi
    conv => whnf
    repeat' (first | ((first | refine Split.mk (fun h => ?_) (fun h => ?_) | refine CondG.mk (fun h => ?_) (fun h => ?_)) <;> (try simp only [decide_eq_true_eq, decide_eq_false_iff_not, Bool.not_eq_true', Bool.not_eq_false', beq_iff_eq, beq_eq_false_iff_ne] at h) <;> (first | (exfalso; first | omega | exact h trivial) | (conv => whnf))) | (refine Ask.mk (by first | omega | (unfold roomOK; simp [cutRows]; done) | (unfold roomOK; simp [cutRows]; omega)) ?_; conv => whnf) | (refine AppG.mk (by first | omega | (unfold roomOK; simp [cutRows]; done) | (unfold roomOK; simp [cutRows]; omega)) ?_; conv => whnf) | (refine SliceG.fr ?_; conv => whnf) | fail)
    exact fini (by rw [← hi]; rfl)
set_option maxRecDepth 100000 in
set_option maxHeartbeats 4000000 in
theorem ready_pc : PCp 23 [] [] (.c (.bool true)) [] := by
  have h1 : seenErr [⟨⟨#[115]⟩, [⟨#[97]⟩], 1⟩] [⟨#[115]⟩] [] = 0 := by decide +kernel
  have h2 : susV [⟨⟨#[115]⟩, [⟨#[97]⟩], 1⟩] [⟨#[115]⟩] [] = [⟨#[97]⟩] := by decide +kernel
  have hF := suspectsP_pc [⟨⟨#[115]⟩, [⟨#[97]⟩], 1⟩] (by simp) [⟨#[115]⟩] []
  rw [if_pos h1, h2, h1] at hF
  have hG := hF.wk (gs := [.c (.lst 3 ([⟨⟨#[115]⟩, [⟨#[97]⟩], 1⟩].map encSv)), .c (.lst 1 ([⟨#[115]⟩].map encS)), .c .nils]) (P2.cons (.refl _) (P2.cons (.refl _) (P2.cons (.c (.nils 1)) P2.nil)))
  have hm : mostX [⟨⟨#[100]⟩, ⟨#[97]⟩, ⟨#[98]⟩, 1, 100⟩] [] ⟨#[100]⟩ 36 = 3 := by decide +kernel
  have ht : twoE [⟨⟨#[100]⟩, ⟨#[97]⟩, ⟨#[98]⟩, 1, 100⟩] [] ⟨#[100]⟩ 36 = 0 := by decide +kernel
  have hM := dMostX_pc [⟨⟨#[100]⟩, ⟨#[97]⟩, ⟨#[98]⟩, 1, 100⟩] [] (by simp) ⟨#[100]⟩ 36
  rw [hm, ht] at hM
  have hN := hM.wk (gs := [.c (.lst 5 ([⟨⟨#[100]⟩, ⟨#[97]⟩, ⟨#[98]⟩, 1, 100⟩].map encDu)), .c .nils, .c (.str ⟨#[100]⟩), .c (.int .i64 36)]) (P2.cons (.refl _) (P2.cons (.c (.nils 3)) (P2.cons (.refl _) (P2.cons (.refl _) P2.nil))))
  have hS := stock_pc ⟨1, 1, ⟨#[100]⟩, ⟨#[116]⟩, ⟨#[]⟩, 5⟩ rfl (by decide +kernel) 1 (by decide) (by decide)
  refine fn_sound (mt := mts) tab_fits tab_mixed Tryz.func23 (by rfl) (by kernel_rfl) (by kernel_rfl) Tryz.results23 (Nat.le_of_ble_eq_true (by kernel_rfl)) ?_
  conv => whnf
  repeat' (first | (refine CondG.mk (fun h => ?_) (fun h => absurd h (by decide +kernel)); clear h; conv => whnf) | (refine CondG.mk (fun h => absurd h (by decide +kernel)) (fun h => ?_); clear h; conv => whnf) | (refine Split.mk (fun h => ?_) (fun h => absurd h (by decide +kernel)); clear h; conv => whnf) | (refine Split.mk (fun h => absurd h (by decide +kernel)) (fun h => ?_); clear h; conv => whnf) | (refine CallX.mk _ _ (by first | exact tiny_c | exact path_c | exact detected_c | exact hG | exact hN | exact hS | exact kerrs_pc [0, 0, 0, 0, 0] (by decide)) ?_; conv => whnf) | (refine CallG.mk _ _ (by first | exact tiny_c | exact path_c | exact detected_c | exact hG | exact hN | exact hS | exact kerrs_pc [0, 0, 0, 0, 0] (by decide)) ?_; conv => whnf) | (refine Ask.mk (by first | decide | (unfold roomOK; decide)) ?_; conv => whnf) | (refine AppG.mk (by first | decide | (unfold roomOK; decide)) ?_; conv => whnf) | (refine SliceG.fr ?_; conv => whnf) | (refine IdxG.mk _ ⟨by decide, by rfl⟩ ?_; conv => whnf) | (refine RowG.mk _ (by rfl) ?_; conv => whnf) | (refine look_no (by decide +kernel) ?_; conv => whnf) | (refine look_ix 0 (by rfl) (by decide +kernel) ?_; conv => whnf) | (refine look_ix 1 (by rfl) (by decide +kernel) ?_; conv => whnf) | (refine look_ix 2 (by rfl) (by decide +kernel) ?_; conv => whnf) | (refine upd_no (by decide +kernel) ?_; conv => whnf) | (refine LoopG.un 12 ?_; conv => whnf) | fail)
  all_goals first | exact .mk ⟨rfl, rfl⟩ | exact .mk ⟨sbool (by decide +kernel), rfl⟩ | trace_state
end Go.Proofs.YtobcplhaabaemaaGreat

/- The law of least plans: the walk. -/
namespace Go.Proofs.YtobcplhaabaemaaGreat
set_option linter.unusedVariables false
set_option linter.unusedSimpArgs false
open Abs

def unK (s : List Pc) (O : List Int) : Nat → List ByteArray
  | 0 => []
  | k + 1 => if O.getD k 0 < 0 then unK s O k ++ [(s.getD k default).key] else unK s O k
theorem unK_len (s : List Pc) (O : List Int) : ∀ k, (unK s O k).length ≤ k
  | 0 => by simp [unK]
  | k + 1 => by
    have := unK_len s O k
    rw [unK]; split
    · simp; omega
    · omega
theorem unK_nil (s : List Pc) (O : List Int) : ∀ k, unK s O k = [] → ∀ i, i < k → ¬ O.getD i 0 < 0
  | 0, _, i, hi => by omega
  | k + 1, h, i, hi => by
    rw [unK] at h
    split at h
    · simp at h
    · rename_i h1
      by_cases e : i = k
      · rw [e]; exact h1
      · exact unK_nil s O k h i (by omega)
def fstF (d s : List Pc) (r : Int × Int) : List Int := if allErr d s r = 0 then fstV d s r.1 else []
def unF (d s : List Pc) (r : Int × Int) : List ByteArray := if allErr d s r = 0 then unK s (fstV d s r.1) s.length else []
theorem fstV_len {d s : List Pc} {r : Int × Int} (ha : allErr d s r = 0) : (fstV d s r.1).length = s.length := (leftE_ok (fst_left ha)).2.1
set_option maxRecDepth 100000 in
set_option maxHeartbeats 4000000 in
theorem dFirst_pc (d s : List Pc) (r : Int × Int) (h12 : s.length ≤ 12) :
    PCp 25 [.c (.lst 3 (d.map encPc)), .c (.lst 3 (s.map encPc)), .agg [.int .i64 r.1, .int .i64 r.2]] [] (.tup [.c (.lst 1 ((fstF d s r).map encI)), .c (.lst 1 ((unF d s r).map encS)), .c (.int .i64 (allErr d s r))]) [] := by
  have hsm : (s.map encPc).length = s.length := List.length_map ..
  by_cases ha : allErr d s r = 0
  · have c1 := dfirst_pc d s r ha h12
    have hl := fstV_len ha
    have e1 : fstF d s r = fstV d s r.1 := by unfold fstF; rw [if_pos ha]
    have e2 : unF d s r = unK s (fstV d s r.1) s.length := by unfold unF; rw [if_pos ha]
    rw [e1, e2]
    generalize fstV d s r.1 = O at *
    have hom : (O.map encI).length = s.length := by rw [List.length_map, hl]
    have cf := dFault_pc d s r
    rw [ha] at cf ⊢
    refine fn_sound (mt := mts) tab_fits tab_mixed Tryz.func25 (by rfl) (by kernel_rfl) (by kernel_rfl) Tryz.results25 (Nat.le_of_ble_eq_true (by kernel_rfl)) ?_
    conv => whnf
    repeat' (first | ((first | refine Split.mk (fun h => ?_) (fun h => ?_) | refine CondG.mk (fun h => ?_) (fun h => ?_)) <;> (try simp only [decide_eq_true_eq, decide_eq_false_iff_not, Bool.not_eq_true', Bool.not_eq_false', beq_iff_eq, beq_eq_false_iff_ne, bne_iff_ne, bne_eq_false_iff_eq] at h) <;> (first | (exfalso; first | omega | exact h trivial | contradiction | (simp_all [eqRes]; done)) | (conv => whnf))) | (refine CallX.mk _ _ (by first | exact cf | exact c1) ?_; conv => whnf) | (refine CallG.mk _ _ (by first | exact cf | exact c1) ?_; conv => whnf) | (refine Ask.mk (by first | omega | (unfold roomOK; simp [cutRows]; done) | (unfold roomOK; simp [cutRows]; omega) | (simp [cutRows]; done) | (simp [cutRows]; omega)) ?_; conv => whnf) | (refine AppG.mk (by first | omega | (unfold roomOK; simp [cutRows]; done) | (unfold roomOK; simp [cutRows]; omega) | (simp [cutRows]; done) | (simp [cutRows]; omega)) ?_; conv => whnf) | (refine SliceG.fr ?_; conv => whnf) | (refine idx_at _ (by with_reducible rfl) (by first | assumption | omega) ?_; conv => whnf) | ((with_reducible refine row_map (by first | assumption | omega) ?_); conv => whnf) | ((with_reducible refine row_set (by first | assumption | omega | (simp only [List.length_set]; omega) | (simp; omega)) ?_); conv => whnf) | fail)
    refine loop_for (s.length) [.sl 11 9 1] [1, 10, 11, 25, 26, 27] (fun k (_ : Unit) => [(11, .c (.row 1)), (27, .c (.int .i64 (k : Int)))]) (fun k (_ : Unit) => [(1, .row 9 1 ((unK s O k).map encS))]) (fun k (_ : Unit) => True) (()) ?_
    conv => whnf
    refine ⟨(by first | rfl | (simp; done) | (simp; rfl)), (by trivial), ?_, ?_⟩
    · intro k _ hk _
      have hkO : k < O.length := by omega
      have hul := unK_len s O k
      have hum : ((unK s O k).map encS).length = (unK s O k).length := List.length_map ..
      have hg : O.getD k 0 = O[k] := by simp [List.getD_eq_getElem?_getD, List.getElem?_eq_getElem hkO]
      have hsg : s.getD k default = s[k] := by simp [List.getD_eq_getElem?_getD, List.getElem?_eq_getElem hk]
      have hU : unK s O (k + 1) = if O[k] < 0 then unK s O k ++ [s[k].key] else unK s O k := by rw [unK, hg, hsg]
      conv => whnf
      repeat' (first | ((first | refine Split.mk (fun h => ?_) (fun h => ?_) | refine CondG.mk (fun h => ?_) (fun h => ?_)) <;> (try simp only [decide_eq_true_eq, decide_eq_false_iff_not, Bool.not_eq_true', Bool.not_eq_false', beq_iff_eq, beq_eq_false_iff_ne, bne_iff_ne, bne_eq_false_iff_eq] at h) <;> (first | (exfalso; first | omega | exact h trivial) | (conv => whnf))) | (refine Ask.mk (by first | omega | (unfold roomOK; simp [cutRows]; done) | (unfold roomOK; simp [cutRows]; omega) | (simp [cutRows]; done) | (simp [cutRows]; omega)) ?_; conv => whnf) | (refine AppG.mk (by first | omega | (unfold roomOK; simp [cutRows]; done) | (unfold roomOK; simp [cutRows]; omega) | (simp [cutRows]; done) | (simp [cutRows]; omega)) ?_; conv => whnf) | (refine SliceG.fr ?_; conv => whnf) | (refine idx_at _ (by with_reducible rfl) (by first | assumption | omega) ?_; conv => whnf) | ((with_reducible refine row_map (by first | assumption | omega) ?_); conv => whnf) | ((with_reducible refine row_set (by first | assumption | omega | (simp only [List.length_set]; omega) | (simp; omega)) ?_); conv => whnf) | fail)
      all_goals simp only [Int.toNat_natCast] at *
      · rw [if_pos (by assumption)] at hU
        exact count_next () hk (by rw [wrap_succ hk (by omega), hU, List.map_append]; rfl) trivial
      · rw [if_neg (by assumption)] at hU
        exact count_next () hk (by rw [wrap_succ hk (by omega), hU]; rfl) trivial
    · intro _ _
      conv => whnf
      repeat' (first | ((first | refine Split.mk (fun h => ?_) (fun h => ?_) | refine CondG.mk (fun h => ?_) (fun h => ?_)) <;> (try simp only [decide_eq_true_eq, decide_eq_false_iff_not, Bool.not_eq_true', Bool.not_eq_false', beq_iff_eq, beq_eq_false_iff_ne, bne_iff_ne, bne_eq_false_iff_eq] at h) <;> (first | (exfalso; first | omega | exact h trivial) | (conv => whnf))) | (refine Ask.mk (by first | omega | (unfold roomOK; simp [cutRows]; done) | (unfold roomOK; simp [cutRows]; omega) | (simp [cutRows]; done) | (simp [cutRows]; omega)) ?_; conv => whnf) | (refine AppG.mk (by first | omega | (unfold roomOK; simp [cutRows]; done) | (unfold roomOK; simp [cutRows]; omega) | (simp [cutRows]; done) | (simp [cutRows]; omega)) ?_; conv => whnf) | (refine SliceG.fr ?_; conv => whnf) | (refine idx_at _ (by with_reducible rfl) (by first | assumption | omega) ?_; conv => whnf) | ((with_reducible refine row_map (by first | assumption | omega) ?_); conv => whnf) | ((with_reducible refine row_set (by first | assumption | omega | (simp only [List.length_set]; omega) | (simp; omega)) ?_); conv => whnf) | fail)
      refine .frz 0 _ _ _ rfl (.frz 1 _ _ _ rfl (.weak [_, _] (.tup _ _ rfl ?_) rfl (Nat.le_refl _)))
      intro i a b ha hb
      match i with
      | 0 => cases ha; cases hb; exact .fro 0 1 _ rfl
      | 1 => cases ha; cases hb; exact .fro 1 1 _ rfl
      | 2 => cases ha; cases hb; exact .refl _
  · have e1 : fstF d s r = [] := by unfold fstF; rw [if_neg ha]
    have e2 : unF d s r = [] := by unfold unF; rw [if_neg ha]
    rw [e1, e2]
    refine fn_sound (mt := mts) tab_fits tab_mixed Tryz.func25 (by rfl) (by kernel_rfl) (by kernel_rfl) Tryz.results25 (Nat.le_of_ble_eq_true (by kernel_rfl)) ?_
    conv => whnf
    repeat' (first | ((first | refine Split.mk (fun h => ?_) (fun h => ?_) | refine CondG.mk (fun h => ?_) (fun h => ?_)) <;> (try simp only [decide_eq_true_eq, decide_eq_false_iff_not, Bool.not_eq_true', Bool.not_eq_false', beq_iff_eq, beq_eq_false_iff_ne, bne_iff_ne, bne_eq_false_iff_eq] at h) <;> (first | (exfalso; first | omega | exact h trivial | contradiction | (simp_all [eqRes]; done)) | (conv => whnf))) | (refine CallX.mk _ _ (by first | exact dFault_pc d s r) ?_; conv => whnf) | (refine CallG.mk _ _ (by first | exact dFault_pc d s r) ?_; conv => whnf) | (refine Ask.mk (by first | omega | (unfold roomOK; simp [cutRows]; done) | (unfold roomOK; simp [cutRows]; omega) | (simp [cutRows]; done) | (simp [cutRows]; omega)) ?_; conv => whnf) | (refine AppG.mk (by first | omega | (unfold roomOK; simp [cutRows]; done) | (unfold roomOK; simp [cutRows]; omega) | (simp [cutRows]; done) | (simp [cutRows]; omega)) ?_; conv => whnf) | (refine SliceG.fr ?_; conv => whnf) | (refine idx_at _ (by with_reducible rfl) (by first | assumption | omega) ?_; conv => whnf) | ((with_reducible refine row_map (by first | assumption | omega) ?_); conv => whnf) | ((with_reducible refine row_set (by first | assumption | omega | (simp only [List.length_set]; omega) | (simp; omega)) ?_); conv => whnf) | fail)
    refine .weak [] (.tup _ _ rfl ?_) rfl (Nat.le_refl _)
    intro i a b ha hb
    match i with
    | 0 => cases ha; cases hb; exact .nil 1
    | 1 => cases ha; cases hb; exact .nil 1
    | 2 => cases ha; cases hb; exact .refl _
set_option maxRecDepth 100000 in
set_option maxHeartbeats 4000000 in
theorem least1_pc (x : Int) : PCp 33 [.c (.int .i64 x)] [] (.c (.bool (decide (x < 0)))) [] := by
  refine fn_sound (mt := mts) tab_fits tab_mixed Tryz.func33 (by rfl) (by kernel_rfl) (by kernel_rfl) Tryz.results33 (Nat.le_of_ble_eq_true (by kernel_rfl)) ?_
  conv => whnf
  exact .mk ⟨rfl, rfl⟩
set_option maxRecDepth 100000 in
set_option maxHeartbeats 4000000 in
theorem plansAreLeast_pc (L : List Int) (hL : L.length ≤ 9223372036854775807) : PCp 4 [.c (.lst 1 (L.map encI))] [] (.c (.bool true)) [] := by
  have st0 : StOk L 0 := ⟨hL, by omega, by omega⟩
  have c1 := drums_pc st0 (by omega) 3 (by omega) (by omega)
  have b1 := drumsV_in L 0 3 (by omega)
  generalize drumsV L 0 3 = D at c1 b1
  obtain ⟨d, p1⟩ := D
  simp only at c1 b1
  have c2 := sects_pc (L := L) (p := p1) ⟨hL, by omega, by omega⟩ (by omega) 4 (by omega) (by omega)
  have b2 := sectsV_in L p1 4 (by omega)
  generalize sectsV L p1 4 = D at c2 b2
  obtain ⟨s, p2⟩ := D
  simp only at c2 b2
  have c3 := aCut_pc (L := L) (p := p2) ⟨hL, by omega, by omega⟩ (by omega)
  have b3 := cutV_in L p2
  generalize cutV L p2 = D at c3 b3
  obtain ⟨r, p3⟩ := D
  simp only at c3 b3
  have hls : (s.map encPc).length = s.length := List.length_map ..
  have c4 := aPlan_pc (L := L) (p := p3) ⟨hL, by omega, by omega⟩ (by omega) d s.length (by omega) (by omega)
  have b4 := planV_len L p3 d.length s.length
  generalize planV L p3 d.length s.length = D at c4 b4
  obtain ⟨other, p4⟩ := D
  simp only at c4 b4
  have cF := dFirst_pc d s r (by omega)
  have hPE : planE d s r = allErr d s r := by
    unfold planE
    split
    · rfl
    · rename_i h; rw [if_neg (by omega)]; omega
  have hAE : firstErr [pcFault d, pcFault s, ruleErr r] = allErr d s r := rfl
  by_cases ha : allErr d s r = 0
  · have hfl := fst_left ha
    have hfV : fstF d s r = fstV d s r.1 := by unfold fstF; rw [if_pos ha]
    have huV : unF d s r = unK s (fstV d s r.1) s.length := by unfold unF; rw [if_pos ha]
    have hfn := fstV_len ha
    have hul := unK_len s (fstV d s r.1) s.length
    have hun := unK_nil s (fstV d s r.1) s.length
    rw [hfV, huV] at cF
    have kF := dWaste_pc d s r (fstV d s r.1)
    rw [hfl] at kF
    have hle : ∀ {pl : List Nat} {sc : Sc}, PlanP (cstF d s r) d.length s.length sc pl → ∀ {q : List Int}, leftE d s r q = 0 → (∀ x ∈ q, x ≠ -1) → sc.1 + s.length * r.1 ≤ wasteV d s r q := fun hP => plan_least ha (by omega) (by omega) hP
    have hno : (∀ p' a, Ext d.length s.length [] p' → sumV (cstF d s r) (mask p') d.length ≠ some a) → ∃ x ∈ fstV d s r.1, x = -1 := fun h => plan_none ha (by omega) (by omega) h hfl
    have hwf := fun (hn : ∀ x ∈ fstV d s r.1, x ≠ -1) {pl : List Nat} {sc : Sc} (hP : PlanP (cstF d s r) d.length s.length sc pl) => hle hP hfl hn
    generalize fstV d s r.1 = fo at *
    generalize unK s fo s.length = un at *
    have hlf : (fo.map encI).length = s.length := by rw [List.length_map, hfn]
    have hlu : (un.map encS).length = un.length := List.length_map ..
    rw [ha] at cF hPE
    refine fn_sound (mt := mts) tab_fits tab_mixed Tryz.func4 (by rfl) (by kernel_rfl) (by kernel_rfl) Tryz.results4 (Nat.le_of_ble_eq_true (by kernel_rfl)) ?_
    conv => whnf
    repeat' (first | ((first | refine Split.mk (fun h => ?_) (fun h => ?_) | refine CondG.mk (fun h => ?_) (fun h => ?_)) <;> (try simp only [decide_eq_true_eq, decide_eq_false_iff_not, Bool.not_eq_true', Bool.not_eq_false', beq_iff_eq, beq_eq_false_iff_ne, bne_iff_ne, bne_eq_false_iff_eq] at h) <;> (first | (exfalso; first | omega | exact h trivial) | (conv => whnf))) | (refine CallX.mk _ _ (by first | exact c1 | exact c2 | exact c3) ?_; conv => whnf) | (refine CallG.mk _ _ (by first | exact c1 | exact c2 | exact c3) ?_; conv => whnf) | (refine Ask.mk (by first | omega | (unfold roomOK; simp [cutRows]; done) | (unfold roomOK; simp [cutRows]; omega) | (simp [cutRows]; done) | (simp [cutRows]; omega)) ?_; conv => whnf) | (refine AppG.mk (by first | omega | (unfold roomOK; simp [cutRows]; done) | (unfold roomOK; simp [cutRows]; omega) | (simp [cutRows]; done) | (simp [cutRows]; omega)) ?_; conv => whnf) | (refine SliceG.fr ?_; conv => whnf) | (refine idx_at _ (by with_reducible rfl) (by first | assumption | omega) ?_; conv => whnf) | ((with_reducible refine row_map (by first | assumption | omega) ?_); conv => whnf) | ((with_reducible refine row_set (by first | assumption | omega | (simp only [List.length_set]; omega) | (simp; omega)) ?_); conv => whnf) | fail)
    refine .ex _ (dPlan_pc d s r) ?_
    rintro _ _ ⟨pl, w, ok, rfl, rfl, hR⟩
    rw [hPE]
    rcases ok with _ | _
    · obtain ⟨rfl, rfl, hn⟩ := hR.no hPE rfl
      obtain ⟨x, hx, rfl⟩ := hno hn
      have hune : un.length ≠ 0 := by
        intro h0
        have h1 : un = [] := List.length_eq_zero_iff.1 h0
        obtain ⟨j, hj, e⟩ := List.mem_iff_getElem.1 hx
        have := hun h1 j (by omega)
        rw [List.getD_eq_getElem?_getD, List.getElem?_eq_getElem hj, Option.getD_some, e] at this
        omega
      conv => whnf
      repeat' (first | ((first | refine Split.mk (fun h => ?_) (fun h => ?_) | refine CondG.mk (fun h => ?_) (fun h => ?_)) <;> (try simp only [decide_eq_true_eq, decide_eq_false_iff_not, Bool.not_eq_true', Bool.not_eq_false', beq_iff_eq, beq_eq_false_iff_ne, bne_iff_ne, bne_eq_false_iff_eq] at h) <;> (first | (exfalso; first | omega | exact h trivial | contradiction | (simp_all [eqRes]; done)) | (conv => whnf))) | (refine CallX.mk _ _ (by first | exact cF | exact kerrs_pc [0, 0] (by decide) | exact ready_pc) ?_; conv => whnf) | (refine CallG.mk _ _ (by first | exact cF | exact kerrs_pc [0, 0] (by decide) | exact ready_pc) ?_; conv => whnf) | (refine Ask.mk (by first | omega | (unfold roomOK; simp [cutRows]; done) | (unfold roomOK; simp [cutRows]; omega) | (simp [cutRows]; done) | (simp [cutRows]; omega)) ?_; conv => whnf) | (refine AppG.mk (by first | omega | (unfold roomOK; simp [cutRows]; done) | (unfold roomOK; simp [cutRows]; omega) | (simp [cutRows]; done) | (simp [cutRows]; omega)) ?_; conv => whnf) | (refine SliceG.fr ?_; conv => whnf) | (refine idx_at _ (by with_reducible rfl) (by first | assumption | omega) ?_; conv => whnf) | ((with_reducible refine row_map (by first | assumption | omega) ?_); conv => whnf) | ((with_reducible refine row_set (by first | assumption | omega | (simp only [List.length_set]; omega) | (simp; omega)) ?_); conv => whnf) | fail)
      all_goals first | exact .mk ⟨rfl, rfl⟩ | (exfalso; omega) | trace_state
    · obtain ⟨sc, hP, rfl⟩ := hR.yes hPE rfl
      obtain ⟨hL, hW, _⟩ := plan_waste ha (by omega) (by omega) hP.ext hP.sum
      have kW := dWaste_pc d s r (toI pl)
      have kL := dLeftX_pc d s r (toI pl)
      rw [hL] at kW kL
      rw [hW] at kW
      have hlv : leftV d s r (toI pl) = leftL d s r.1 (toI pl) (toI pl).length := by unfold leftV; rw [if_pos hL]
      have hlvl : (leftV d s r (toI pl)).length ≤ 6 := by rw [hlv, leftL_len]; omega
      have hany : (leftV d s r (toI pl)).any (fun x => decide (x < 0)) = false := by rw [hlv]; exact (leftE_ok hL).2.2.2
      have hpl : (toI pl).length = s.length := by rw [toI_len, hP.ext.len]
      have hplm : ((toI pl).map encI).length = s.length := by rw [List.length_map, hpl]
      have hno1 : (toI pl).any ((-1 : Int) == ·) = false := by
        rw [List.any_eq_false]
        intro x hx
        obtain ⟨j, _, rfl⟩ := List.mem_map.1 hx
        simp
      have cC := containsI_pc (-1) (toI pl) (by omega)
      rw [hno1] at cC
      have cA := containsFuncI_pc 33 (fun x => decide (x < 0)) (leftV d s r (toI pl)) (by omega) least1_pc
      rw [hany] at cA
      have hwf1 : un = [] → sc.1 + s.length * r.1 ≤ wasteV d s r fo := fun h1 => hwf (fun x hx e => by
        obtain ⟨j, hj, e2⟩ := List.mem_iff_getElem.1 hx
        have := hun h1 j (by omega)
        rw [List.getD_eq_getElem?_getD, List.getElem?_eq_getElem hj, Option.getD_some, e2] at this
        omega) hP
      have hwo : leftE d s r other = 0 → other.any ((-1 : Int) == ·) = false → sc.1 + s.length * r.1 ≤ wasteV d s r other := fun h0 h1 => hle hP h0 (fun x hx e => by
        have := List.any_eq_false.1 h1 x hx
        simp [e] at this)
      have kO := dWaste_pc d s r other
      have cO := containsI_pc (-1) other (by omega)
      generalize other.any ((-1 : Int) == ·) = oc at *
      generalize wasteV d s r other = ow at *
      generalize leftE d s r other = oe at *
      generalize wasteV d s r fo = fw at *
      generalize leftV d s r (toI pl) = lv at *
      generalize sc.1 + s.length * r.1 = w at *
      generalize toI pl = P at *
      conv => whnf
      repeat' (first | ((first | refine Split.mk (fun h => ?_) (fun h => ?_) | refine CondG.mk (fun h => ?_) (fun h => ?_)) <;> (try simp only [decide_eq_true_eq, decide_eq_false_iff_not, Bool.not_eq_true', Bool.not_eq_false', beq_iff_eq, beq_eq_false_iff_ne, bne_iff_ne, bne_eq_false_iff_eq] at h) <;> (first | (exfalso; first | omega | exact h trivial | contradiction | (simp_all [eqRes]; done)) | (conv => whnf))) | (refine CallX.mk _ _ (by first | exact cF | exact kerrs_pc [0, 0] (by decide) | exact ready_pc | exact kW | exact kL | exact cC | exact cA | exact kF | exact (by rw [hls]; exact c4) | exact kO | exact cO) ?_; conv => whnf) | (refine CallG.mk _ _ (by first | exact cF | exact kerrs_pc [0, 0] (by decide) | exact ready_pc | exact kW | exact kL | exact cC | exact cA | exact kF | exact (by rw [hls]; exact c4) | exact kO | exact cO) ?_; conv => whnf) | (refine Ask.mk (by first | omega | (unfold roomOK; simp [cutRows]; done) | (unfold roomOK; simp [cutRows]; omega) | (simp [cutRows]; done) | (simp [cutRows]; omega)) ?_; conv => whnf) | (refine AppG.mk (by first | omega | (unfold roomOK; simp [cutRows]; done) | (unfold roomOK; simp [cutRows]; omega) | (simp [cutRows]; done) | (simp [cutRows]; omega)) ?_; conv => whnf) | (refine SliceG.fr ?_; conv => whnf) | (refine idx_at _ (by with_reducible rfl) (by first | assumption | omega) ?_; conv => whnf) | ((with_reducible refine row_map (by first | assumption | omega) ?_); conv => whnf) | ((with_reducible refine row_set (by first | assumption | omega | (simp only [List.length_set]; omega) | (simp; omega)) ?_); conv => whnf) | fail)
      all_goals first | exact .mk ⟨rfl, rfl⟩ | (exfalso; omega) | (exfalso; have h1 := hwo (by assumption) (by assumption); omega) | (exfalso; have h1 := hwf1 (List.length_eq_zero_iff.1 (by omega)); omega) | trace_state
  · refine fn_sound (mt := mts) tab_fits tab_mixed Tryz.func4 (by rfl) (by kernel_rfl) (by kernel_rfl) Tryz.results4 (Nat.le_of_ble_eq_true (by kernel_rfl)) ?_
    conv => whnf
    repeat' (first | ((first | refine Split.mk (fun h => ?_) (fun h => ?_) | refine CondG.mk (fun h => ?_) (fun h => ?_)) <;> (try simp only [decide_eq_true_eq, decide_eq_false_iff_not, Bool.not_eq_true', Bool.not_eq_false', beq_iff_eq, beq_eq_false_iff_ne, bne_iff_ne, bne_eq_false_iff_eq] at h) <;> (first | (exfalso; first | omega | exact h trivial) | (conv => whnf))) | (refine CallX.mk _ _ (by first | exact c1 | exact c2 | exact c3) ?_; conv => whnf) | (refine CallG.mk _ _ (by first | exact c1 | exact c2 | exact c3) ?_; conv => whnf) | (refine Ask.mk (by first | omega | (unfold roomOK; simp [cutRows]; done) | (unfold roomOK; simp [cutRows]; omega) | (simp [cutRows]; done) | (simp [cutRows]; omega)) ?_; conv => whnf) | (refine AppG.mk (by first | omega | (unfold roomOK; simp [cutRows]; done) | (unfold roomOK; simp [cutRows]; omega) | (simp [cutRows]; done) | (simp [cutRows]; omega)) ?_; conv => whnf) | (refine SliceG.fr ?_; conv => whnf) | (refine idx_at _ (by with_reducible rfl) (by first | assumption | omega) ?_; conv => whnf) | ((with_reducible refine row_map (by first | assumption | omega) ?_); conv => whnf) | ((with_reducible refine row_set (by first | assumption | omega | (simp only [List.length_set]; omega) | (simp; omega)) ?_); conv => whnf) | fail)
    refine .ex _ (dPlan_pc d s r) ?_
    rintro _ _ ⟨pl, w, ok, rfl, rfl, hR⟩
    obtain ⟨rfl, rfl, rfl⟩ := hR.bad (by rw [hPE]; exact ha)
    rw [hPE]
    have hF2 : firstErr [allErr d s r, allErr d s r] = allErr d s r := by simp [firstErr, ha]
    have kE := kerrs_pc [allErr d s r, allErr d s r] (by simp)
    have kE2 := kerrs_pc [pcFault d, pcFault s, ruleErr r] (by simp)
    rw [hF2] at kE
    rw [hAE] at kE2
    conv => whnf
    repeat' (first | ((first | refine Split.mk (fun h => ?_) (fun h => ?_) | refine CondG.mk (fun h => ?_) (fun h => ?_)) <;> (try simp only [decide_eq_true_eq, decide_eq_false_iff_not, Bool.not_eq_true', Bool.not_eq_false', beq_iff_eq, beq_eq_false_iff_ne, bne_iff_ne, bne_eq_false_iff_eq] at h) <;> (first | (exfalso; first | omega | exact h trivial | contradiction | (simp_all [eqRes]; done)) | (conv => whnf))) | (refine CallX.mk _ _ (by first | exact cF | exact kE | exact kE2 | exact rDrums_pc d | exact rSects_pc s | exact cutFault_pc r | exact ready_pc) ?_; conv => whnf) | (refine CallG.mk _ _ (by first | exact cF | exact kE | exact kE2 | exact rDrums_pc d | exact rSects_pc s | exact cutFault_pc r | exact ready_pc) ?_; conv => whnf) | (refine Ask.mk (by first | omega | (unfold roomOK; simp [cutRows]; done) | (unfold roomOK; simp [cutRows]; omega) | (simp [cutRows]; done) | (simp [cutRows]; omega)) ?_; conv => whnf) | (refine AppG.mk (by first | omega | (unfold roomOK; simp [cutRows]; done) | (unfold roomOK; simp [cutRows]; omega) | (simp [cutRows]; done) | (simp [cutRows]; omega)) ?_; conv => whnf) | (refine SliceG.fr ?_; conv => whnf) | (refine idx_at _ (by with_reducible rfl) (by first | assumption | omega) ?_; conv => whnf) | ((with_reducible refine row_map (by first | assumption | omega) ?_); conv => whnf) | ((with_reducible refine row_set (by first | assumption | omega | (simp only [List.length_set]; omega) | (simp; omega)) ?_); conv => whnf) | fail)
    all_goals first | exact .mk ⟨rfl, rfl⟩ | (exfalso; omega) | trace_state
end Go.Proofs.YtobcplhaabaemaaGreat
