/- The law PlansWeighed, by the abstract walk. -/
import Derived.Test.YtmpjgbanmdgooaaC12
namespace Go.Proofs.Ytmpjgbanmdgooaa
set_option linter.unusedVariables false
set_option linter.unusedSimpArgs false
open Abs

theorem eqI_nil (a : List Int) (ha : a.length ≤ 1000000) : PCp 48 [.c (.lst 1 (a.map encI)), .c .nils] [] (.c (.bool (decide (a = [])))) [] :=
  (eqI_pc a [] ha (by simp)).wk (P2.cons (.refl _) (P2.cons (.c (.nils 1)) P2.nil))
set_option maxRecDepth 100000 in
set_option maxHeartbeats 4000000 in
theorem plansWeighed_pc (L : List Int) (hL : L.length ≤ 9223372036854775807) : PCp 4 [.c (.lst 1 (L.map encI))] [] (.c (.bool true)) [] := by
  have st0 : StOk L 0 := ⟨hL, by omega, by omega⟩
  have c1 := drums_pc st0 (by omega) 4 (by omega) (by omega)
  have b1 := drumsV_in L 0 4 (by omega)
  generalize drumsV L 0 4 = D at c1 b1
  obtain ⟨d, p1⟩ := D
  simp only at c1 b1
  have c2 := sects_pc (L := L) (p := p1) ⟨hL, by omega, by omega⟩ (by omega) 4 (by omega) (by omega)
  have b2 := sectsV_in L p1 4 (by omega)
  generalize sectsV L p1 4 = D at c2 b2
  obtain ⟨s, p2⟩ := D
  simp only at c2 b2
  have c3 := aCut_pc (L := L) (p := p2) ⟨hL, by omega, by omega⟩ (by omega)
  have b3 := cutV_in L p2
  generalize cutV L p2 = D at c3 b3
  obtain ⟨r, p3⟩ := D
  simp only at c3 b3
  have c4 := aPlan_pc (L := L) (p := p3) ⟨hL, by omega, by omega⟩ (by omega) d s.length (by omega) (by omega)
  have b4 := planV_len L p3 d.length s.length
  generalize planV L p3 d.length s.length = D at c4 b4
  obtain ⟨plan, p4⟩ := D
  simp only at c4 b4
  have hls : (s.map encPc).length = s.length := List.length_map ..
  have hE := leftE_plan d s r plan
  have hV : leftE d s r plan ≠ 0 → leftV d s r plan = [] := fun h => by rw [leftV, if_neg h]
  have hW : leftE d s r plan ≠ 0 → wasteV d s r plan = 0 := fun h => by rw [wasteV, if_neg h]
  have hV0 : leftE d s r plan = 0 → leftV d s r plan = leftL d s r.1 plan plan.length := fun h => by rw [leftV, if_pos h]
  refine fn_sound (mt := mts) tab_fits tab_mixed Try.func4 (by rfl) (by kernel_rfl) (by kernel_rfl) Try.results4 (Nat.le_of_ble_eq_true (by kernel_rfl)) ?_
  conv => whnf
  repeat' (first
    | (refine Split.mk (fun h => ?_) (fun h => ?_) <;> (try simp only [decide_eq_true_eq, decide_eq_false_iff_not, Bool.not_eq_true', Bool.not_eq_false', beq_iff_eq, beq_eq_false_iff_ne] at h) <;> (first | (exfalso; first | omega | exact h trivial) | (conv => whnf)))
    | (refine CondG.mk (fun h => ?_) (fun h => ?_) <;> (try simp only [decide_eq_true_eq, decide_eq_false_iff_not, Bool.not_eq_true', Bool.not_eq_false', beq_iff_eq, beq_eq_false_iff_ne] at h) <;> (first | (exfalso; first | omega | exact h trivial) | (conv => whnf)))
    | (refine CallX.mk _ _ (by first | exact c1 | exact c2 | exact c3 | exact (by rw [hls]; exact c4) | exact dLeftX_pc d s r plan | exact dWaste_pc d s r plan | exact lCut_pc d s r) ?_; conv => whnf)
    | (refine CallG.mk _ _ (by first | exact c1 | exact c2 | exact c3 | exact (by rw [hls]; exact c4) | exact dLeftX_pc d s r plan | exact dWaste_pc d s r plan | exact lCut_pc d s r) ?_; conv => whnf)
    | (refine Ask.mk (by first | omega | (unfold roomOK; simp [cutRows]; done) | (unfold roomOK; simp [cutRows]; omega)) ?_; conv => whnf)
    | (refine SliceG.fr ?_; conv => whnf)
    | fail)
  · rw [if_neg (by simpa using h)] at hE
    have hp1 : d.length ≤ 4 := by omega
    repeat' (first
      | (refine Split.mk (fun h => ?_) (fun h => ?_) <;> (try simp only [decide_eq_true_eq, decide_eq_false_iff_not, Bool.not_eq_true', Bool.not_eq_false', beq_iff_eq, beq_eq_false_iff_ne] at h) <;> (first | (exfalso; first | omega | exact h trivial) | (conv => whnf)))
      | (refine CondG.mk (fun h => ?_) (fun h => ?_) <;> (try simp only [decide_eq_true_eq, decide_eq_false_iff_not, Bool.not_eq_true', Bool.not_eq_false', beq_iff_eq, beq_eq_false_iff_ne] at h) <;> (first | (exfalso; first | omega | exact h trivial) | (conv => whnf)))
      | (refine CallX.mk _ _ (by first | exact rPlan_pc d s r plan h | exact checkDrums_pc d | exact rDrums_pc d | exact checkSections_pc s | exact rSects_pc s | exact checkRule_pc r | exact cutFault_pc r | exact stored_pc | exact rLeft_pc d s r plan (by assumption) (by rw [(leftE_ok (by omega : leftE d s r plan = 0)).2.1]; omega) | exact rWaste_pc d s r plan (by omega) | exact (by rw [hV0 (by omega)]; exact eqI_pc _ _ (by rw [leftL_len]; omega) (by rw [leftL_len]; omega)) | exact (by rw [hV (by omega)]; exact eqI_nil _ (by simp))) ?_; conv => whnf)
      | (refine CallG.mk _ _ (by first | exact rPlan_pc d s r plan h | exact checkDrums_pc d | exact rDrums_pc d | exact checkSections_pc s | exact rSects_pc s | exact checkRule_pc r | exact cutFault_pc r | exact stored_pc | exact rLeft_pc d s r plan (by assumption) (by rw [(leftE_ok (by omega : leftE d s r plan = 0)).2.1]; omega) | exact rWaste_pc d s r plan (by omega) | exact (by rw [hV0 (by omega)]; exact eqI_pc _ _ (by rw [leftL_len]; omega) (by rw [leftL_len]; omega)) | exact (by rw [hV (by omega)]; exact eqI_nil _ (by simp))) ?_; conv => whnf)
      | (refine Ask.mk (by first | omega | (unfold roomOK; simp [cutRows]; done) | (unfold roomOK; simp [cutRows]; omega)) ?_; conv => whnf)
      | (refine SliceG.fr ?_; conv => whnf)
      | fail)
    all_goals exact finb rfl
  · rw [if_pos (by simpa using h)] at hE
    repeat' (first
      | (refine Split.mk (fun h => ?_) (fun h => ?_) <;> (try simp only [decide_eq_true_eq, decide_eq_false_iff_not, Bool.not_eq_true', Bool.not_eq_false', beq_iff_eq, beq_eq_false_iff_ne] at h) <;> (first | (exfalso; first | omega | exact h trivial) | (conv => whnf)))
      | (refine CondG.mk (fun h => ?_) (fun h => ?_) <;> (try simp only [decide_eq_true_eq, decide_eq_false_iff_not, Bool.not_eq_true', Bool.not_eq_false', beq_iff_eq, beq_eq_false_iff_ne] at h) <;> (first | (exfalso; first | omega | exact h trivial) | (conv => whnf)))
      | (refine CallX.mk _ _ (by first | exact checkDrums_pc d | exact rDrums_pc d | exact checkSections_pc s | exact rSects_pc s | exact checkRule_pc r | exact cutFault_pc r | exact stored_pc | exact (by rw [hV (by omega)]; exact eqI_nil _ (by simp))) ?_; conv => whnf)
      | (refine CallG.mk _ _ (by first | exact checkDrums_pc d | exact rDrums_pc d | exact checkSections_pc s | exact rSects_pc s | exact checkRule_pc r | exact cutFault_pc r | exact stored_pc | exact (by rw [hV (by omega)]; exact eqI_nil _ (by simp))) ?_; conv => whnf)
      | (refine Ask.mk (by first | omega | (unfold roomOK; simp [cutRows]; done) | (unfold roomOK; simp [cutRows]; omega)) ?_; conv => whnf)
      | (refine SliceG.fr ?_; conv => whnf)
      | fail)
    all_goals exact finb rfl
end Go.Proofs.Ytmpjgbanmdgooaa
