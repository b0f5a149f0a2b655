/- Waste of plans, and the document's answers, by the abstract walk. -/
import Derived.Test.YtmpjgbanmdgooaaC6
namespace Go.Proofs.Ytmpjgbanmdgooaa
set_option linter.unusedVariables false
set_option linter.unusedSimpArgs false
open Abs

set_option maxRecDepth 100000 in
set_option maxHeartbeats 4000000 in
theorem dLeftX_pc (d s : List Pc) (r : Int × Int) (plan : List Int) :
    PCp 36 [.c (.lst 3 (d.map encPc)), .c (.lst 3 (s.map encPc)), .agg [.int .i64 r.1, .int .i64 r.2], .c (.lst 1 (plan.map encI))] []
      (.tup [.c (.lst 1 ((leftV d s r plan).map encI)), .c (.int .i64 (leftE d s r plan))]) [] := by
  refine fn_sound (mt := mts) tab_fits tab_mixed Try.func36 (by rfl) (by kernel_rfl) (by kernel_rfl) Try.results36 (Nat.le_of_ble_eq_true (by kernel_rfl)) ?_
  conv => whnf
  repeat' (first
    | (refine Split.mk (fun h => ?_) (fun h => ?_) <;> (try simp only [decide_eq_true_eq, decide_eq_false_iff_not, Bool.not_eq_true', Bool.not_eq_false', beq_iff_eq, beq_eq_false_iff_ne] at h) <;> (first | (exfalso; first | omega | exact h trivial) | (conv => whnf)))
    | (refine CondG.mk (fun h => ?_) (fun h => ?_) <;> (try simp only [decide_eq_true_eq, decide_eq_false_iff_not, Bool.not_eq_true', Bool.not_eq_false', beq_iff_eq, beq_eq_false_iff_ne] at h) <;> (first | (exfalso; first | omega | exact h trivial) | (conv => whnf)))
    | (refine CallX.mk _ _ (by first | exact dLeft_pc d s r plan) ?_; conv => whnf)
    | (refine CallG.mk _ _ (by first | exact dLeft_pc d s r plan) ?_; conv => whnf)
    | (refine Ask.mk (by first | omega | (unfold roomOK; simp [cutRows]; done) | (unfold roomOK; simp [cutRows]; omega)) ?_; conv => whnf)
    | (refine SliceG.fr ?_; conv => whnf)
    | fail)
  exact .mk ⟨rfl, rfl⟩

/-- what the cuts lose, and what is scrapped -/
def lostV (lost : Int) (plan : List Int) : Nat → Int
  | 0 => 0
  | m + 1 => lostV lost plan m + (if plan.getD m (-1) < 0 then 0 else lost)
def restV (scrap : Int) (plan l : List Int) : Nat → Int
  | 0 => 0
  | k + 1 => restV scrap plan l k + (if l.getD k 0 < scrap ∧ plan.any ((k : Int) == ·) = true then l.getD k 0 else 0)
def wasteN (r : Int × Int) (plan l : List Int) : Int := lostV r.1 plan plan.length + restV r.2 plan l l.length
theorem lostV_in {lost : Int} (h0 : 0 ≤ lost) (h1 : lost ≤ 1000) (plan : List Int) : ∀ m, 0 ≤ lostV lost plan m ∧ lostV lost plan m ≤ 1000 * m
  | 0 => by simp [lostV]
  | m + 1 => by have := lostV_in h0 h1 plan m; rw [lostV]; split <;> omega
theorem restV_in {scrap : Int} (h1 : scrap ≤ 1000) (plan : List Int) {l : List Int} (hl : l.any (fun x => decide (x < 0)) = false) : ∀ k, 0 ≤ restV scrap plan l k ∧ restV scrap plan l k ≤ 1000 * k
  | 0 => by simp [restV]
  | k + 1 => by
    have := restV_in h1 plan hl k
    have h2 : 0 ≤ l.getD k 0 := by
      rcases Nat.lt_or_ge k l.length with h | h
      · have h3 := List.any_eq_false.1 hl _ (List.getElem_mem h)
        simp at h3
        simpa [h] using h3
      · simp [List.getElem?_eq_none h]
    rw [restV]; split <;> omega
theorem restV_hit {scrap : Int} {plan l : List Int} {k : Nat} (hk : k < l.length) (h1 : l[k] < scrap) (h2 : plan.any (fun x => (k : Int) == x) = true) (A : Int) : A + restV scrap plan l k + l[k] = A + restV scrap plan l (k + 1) := by
  have hg : l.getD k 0 = l[k] := by simp [hk]
  rw [restV, hg, if_pos ⟨h1, h2⟩]; omega
theorem restV_miss {scrap : Int} {plan l : List Int} {k : Nat} (hk : k < l.length) (h : ¬ (l[k] < scrap ∧ plan.any (fun x => (k : Int) == x) = true)) : restV scrap plan l (k + 1) = restV scrap plan l k := by
  have hg : l.getD k 0 = l[k] := by simp [hk]
  rw [restV, hg, if_neg h]; omega
theorem leftE_ok {d s : List Pc} {r : Int × Int} {plan : List Int} (h : leftE d s r plan = 0) : allErr d s r = 0 ∧ plan.length = s.length ∧ planErrs d s 0 plan = 0 ∧ (leftL d s r.1 plan plan.length).any (fun x => decide (x < 0)) = false := by
  unfold leftE at h
  split at h
  · omega
  · split at h
    · omega
    · split at h
      · omega
      · split at h
        · omega
        · refine ⟨by omega, by omega, by omega, by simp_all⟩
def wasteV (d s : List Pc) (r : Int × Int) (plan : List Int) : Int := if leftE d s r plan = 0 then wasteN r plan (leftV d s r plan) else 0
set_option maxRecDepth 100000 in
set_option maxHeartbeats 4000000 in
theorem dWaste_pc (d s : List Pc) (r : Int × Int) (plan : List Int) :
    PCp 37 [.c (.lst 3 (d.map encPc)), .c (.lst 3 (s.map encPc)), .agg [.int .i64 r.1, .int .i64 r.2], .c (.lst 1 (plan.map encI))] []
      (.tup [.c (.int .i64 (wasteV d s r plan)), .c (.int .i64 (leftE d s r plan))]) [] := by
  have hlp : (plan.map encI).length = plan.length := List.length_map ..
  refine fn_sound (mt := mts) tab_fits tab_mixed Try.func37 (by rfl) (by kernel_rfl) (by kernel_rfl) Try.results37 (Nat.le_of_ble_eq_true (by kernel_rfl)) ?_
  conv => whnf
  repeat' (first
    | (refine Split.mk (fun h => ?_) (fun h => ?_) <;> (try simp only [decide_eq_true_eq, decide_eq_false_iff_not, Bool.not_eq_true', Bool.not_eq_false', beq_iff_eq, beq_eq_false_iff_ne] at h) <;> (first | (exfalso; first | omega | exact h trivial) | (conv => whnf)))
    | (refine CondG.mk (fun h => ?_) (fun h => ?_) <;> (try simp only [decide_eq_true_eq, decide_eq_false_iff_not, Bool.not_eq_true', Bool.not_eq_false', beq_iff_eq, beq_eq_false_iff_ne] at h) <;> (first | (exfalso; first | omega | exact h trivial) | (conv => whnf)))
    | (refine CallX.mk _ _ (by first | exact dLeft_pc d s r plan) ?_; conv => whnf)
    | (refine CallG.mk _ _ (by first | exact dLeft_pc d s r plan) ?_; conv => whnf)
    | (refine Ask.mk (by first | omega | (unfold roomOK; simp [cutRows]; done) | (unfold roomOK; simp [cutRows]; omega)) ?_; conv => whnf)
    | (refine SliceG.fr ?_; conv => whnf)
    | fail)
  · have h1 : leftE d s r plan ≠ 0 := by simpa using h
    exact .mk ⟨by rw [wasteV, if_neg h1]; rfl, rfl⟩
  have h0 : leftE d s r plan = 0 := by simp_all
  obtain ⟨ha, hpl, hpe, hne⟩ := leftE_ok h0
  obtain ⟨f1, f2, f3, f4, f5, f6⟩ := allErr_ok ha
  obtain ⟨d1, d2⟩ := pcFault_ok f1
  obtain ⟨s1, s2⟩ := pcFault_ok f2
  have hlv : leftV d s r plan = leftL d s r.1 plan plan.length := by rw [leftV, if_pos h0]
  have hll : (leftV d s r plan).length = d.length := by rw [hlv, leftL_len]
  have hne' : (leftV d s r plan).any (fun x => decide (x < 0)) = false := by rw [hlv]; exact hne
  have hW : wasteV d s r plan = wasteN r plan (leftV d s r plan) := by rw [wasteV, if_pos h0]
  rw [hW, h0]
  generalize leftV d s r plan = l at *
  have hlm : (l.map encI).length = l.length := List.length_map ..
  refine loop_count (plan.length) [] [3, 6, 10, 12, 28, 29, 30] (fun k (_ : Unit) => ⟨[(3, .c (.lst 1 (plan.map encI))), (6, .c (.ptr 0 0)), (10, .c (.lst 1 (l.map encI))), (12, .c (.int .i64 (lostV r.1 plan k))), (28, .c (.lst 1 (plan.map encI))), (29, .c (.int .i64 (plan.map encI).length)), (30, .c (.int .i64 k))], [(0, .box [.int .i64 r.1, .int .i64 r.2])], 1⟩) (fun k (_ : Unit) => True) (()) ?_ ?_ ?_
  · conv => whnf
    exact ⟨rfl, trivial⟩
  · intro m _ hm _
    have hv := lostV_in f3 f4 plan m
    conv => whnf
    repeat' (first
      | (refine Split.mk (fun h => ?_) (fun h => ?_) <;> (try simp only [decide_eq_true_eq, decide_eq_false_iff_not, Bool.not_eq_true', Bool.not_eq_false', beq_iff_eq, beq_eq_false_iff_ne] at h) <;> (first | (exfalso; first | omega | exact h trivial) | (conv => whnf)))
      | (refine CondG.mk (fun h => ?_) (fun h => ?_) <;> (try simp only [decide_eq_true_eq, decide_eq_false_iff_not, Bool.not_eq_true', Bool.not_eq_false', beq_iff_eq, beq_eq_false_iff_ne] at h) <;> (first | (exfalso; first | omega | exact h trivial) | (conv => whnf)))
      | (refine Ask.mk (by first | omega | (unfold roomOK; simp [cutRows]; done) | (unfold roomOK; simp [cutRows]; omega)) ?_; conv => whnf)
      | (refine SliceG.fr ?_; conv => whnf)
      | fail)
    refine idx_map m hm rfl ?_
    conv => whnf
    repeat' (first
      | (refine Split.mk (fun h => ?_) (fun h => ?_) <;> (try simp only [decide_eq_true_eq, decide_eq_false_iff_not, Bool.not_eq_true', Bool.not_eq_false', beq_iff_eq, beq_eq_false_iff_ne] at h) <;> (first | (exfalso; first | omega | exact h trivial) | (conv => whnf)))
      | (refine CondG.mk (fun h => ?_) (fun h => ?_) <;> (try simp only [decide_eq_true_eq, decide_eq_false_iff_not, Bool.not_eq_true', Bool.not_eq_false', beq_iff_eq, beq_eq_false_iff_ne] at h) <;> (first | (exfalso; first | omega | exact h trivial) | (conv => whnf)))
      | (refine Ask.mk (by first | omega | (unfold roomOK; simp [cutRows]; done) | (unfold roomOK; simp [cutRows]; omega)) ?_; conv => whnf)
      | (refine SliceG.fr ?_; conv => whnf)
      | fail)
    · refine count_next () hm (by rw [wrap_succ hm (by omega), wrap_in (by omega) (by omega), lostV, if_neg (by simpa [hm] using h)]; rfl) trivial
    · refine count_next () hm (by rw [wrap_succ hm (by omega), lostV, if_pos (by simpa [hm] using h), Int.add_zero]; rfl) trivial
  · intro _ _
    have hv := lostV_in f3 f4 plan plan.length
    conv => whnf
    repeat' (first
      | (refine Split.mk (fun h => ?_) (fun h => ?_) <;> (try simp only [decide_eq_true_eq, decide_eq_false_iff_not, Bool.not_eq_true', Bool.not_eq_false', beq_iff_eq, beq_eq_false_iff_ne] at h) <;> (first | (exfalso; first | omega | exact h trivial) | (conv => whnf)))
      | (refine CondG.mk (fun h => ?_) (fun h => ?_) <;> (try simp only [decide_eq_true_eq, decide_eq_false_iff_not, Bool.not_eq_true', Bool.not_eq_false', beq_iff_eq, beq_eq_false_iff_ne] at h) <;> (first | (exfalso; first | omega | exact h trivial) | (conv => whnf)))
      | (refine Ask.mk (by first | omega | (unfold roomOK; simp [cutRows]; done) | (unfold roomOK; simp [cutRows]; omega)) ?_; conv => whnf)
      | (refine SliceG.fr ?_; conv => whnf)
      | fail)
    refine loop_count (l.length) [] [3, 6, 12, 41, 42, 43] (fun k (_ : Unit) => ⟨[(3, .c (.lst 1 (plan.map encI))), (6, .c (.ptr 0 0)), (12, .c (.int .i64 (lostV r.1 plan plan.length + restV r.2 plan l k))), (41, .c (.lst 1 (l.map encI))), (42, .c (.int .i64 (l.map encI).length)), (43, .c (.int .i64 k))], [(0, .box [.int .i64 r.1, .int .i64 r.2])], 1⟩) (fun k (_ : Unit) => True) (()) ?_ ?_ ?_
    · conv => whnf
      exact ⟨by simp only [restV, Int.add_zero]; rfl, trivial⟩
    · intro k _ hk _
      have hv2 := restV_in f6 plan hne' k
      have hg : l.getD k 0 = l[k] := by simp [hk]
      conv => whnf
      repeat' (first
        | (refine Split.mk (fun h => ?_) (fun h => ?_) <;> (try simp only [decide_eq_true_eq, decide_eq_false_iff_not, Bool.not_eq_true', Bool.not_eq_false', beq_iff_eq, beq_eq_false_iff_ne] at h) <;> (first | (exfalso; first | omega | exact h trivial) | (conv => whnf)))
        | (refine CondG.mk (fun h => ?_) (fun h => ?_) <;> (try simp only [decide_eq_true_eq, decide_eq_false_iff_not, Bool.not_eq_true', Bool.not_eq_false', beq_iff_eq, beq_eq_false_iff_ne] at h) <;> (first | (exfalso; first | omega | exact h trivial) | (conv => whnf)))
        | (refine Ask.mk (by first | omega | (unfold roomOK; simp [cutRows]; done) | (unfold roomOK; simp [cutRows]; omega)) ?_; conv => whnf)
        | (refine SliceG.fr ?_; conv => whnf)
        | fail)
      refine idx_map k hk rfl ?_
      conv => whnf
      repeat' (first
        | (refine Split.mk (fun h => ?_) (fun h => ?_) <;> (try simp only [decide_eq_true_eq, decide_eq_false_iff_not, Bool.not_eq_true', Bool.not_eq_false', beq_iff_eq, beq_eq_false_iff_ne] at h) <;> (first | (exfalso; first | omega | exact h trivial) | (conv => whnf)))
        | (refine CondG.mk (fun h => ?_) (fun h => ?_) <;> (try simp only [decide_eq_true_eq, decide_eq_false_iff_not, Bool.not_eq_true', Bool.not_eq_false', beq_iff_eq, beq_eq_false_iff_ne] at h) <;> (first | (exfalso; first | omega | exact h trivial) | (conv => whnf)))
        | (refine CallX.mk _ _ (by first | exact containsI_pc _ _ (by omega)) ?_; conv => whnf)
        | (refine CallG.mk _ _ (by first | exact containsI_pc _ _ (by omega)) ?_; conv => whnf)
        | (refine Ask.mk (by first | omega | (unfold roomOK; simp [cutRows]; done) | (unfold roomOK; simp [cutRows]; omega)) ?_; conv => whnf)
        | (refine SliceG.fr ?_; conv => whnf)
        | fail)
      · rename_i h1
        have hv3 : 0 ≤ l[k] := by have h3 := List.any_eq_false.1 hne' _ (List.getElem_mem hk); simpa using h3
        refine count_next () hk (by rw [wrap_succ hk (by omega), wrap_in (by omega) (by omega), restV_hit hk h1 h]; rfl) trivial
      · refine count_next () hk (by rw [wrap_succ hk (by omega), restV_miss hk (by simp [h])]; rfl) trivial
      · refine count_next () hk (by rw [wrap_succ hk (by omega), restV_miss hk (by simp [h])]; rfl) trivial
    · intro _ _
      conv => whnf
      repeat' (first
        | (refine Split.mk (fun h => ?_) (fun h => ?_) <;> (try simp only [decide_eq_true_eq, decide_eq_false_iff_not, Bool.not_eq_true', Bool.not_eq_false', beq_iff_eq, beq_eq_false_iff_ne] at h) <;> (first | (exfalso; first | omega | exact h trivial) | (conv => whnf)))
        | (refine CondG.mk (fun h => ?_) (fun h => ?_) <;> (try simp only [decide_eq_true_eq, decide_eq_false_iff_not, Bool.not_eq_true', Bool.not_eq_false', beq_iff_eq, beq_eq_false_iff_ne] at h) <;> (first | (exfalso; first | omega | exact h trivial) | (conv => whnf)))
        | (refine Ask.mk (by first | omega | (unfold roomOK; simp [cutRows]; done) | (unfold roomOK; simp [cutRows]; omega)) ?_; conv => whnf)
        | (refine SliceG.fr ?_; conv => whnf)
        | fail)
      exact .mk ⟨rfl, rfl⟩

/-! the document's answers -/
theorem needV_hit {s : List Pc} {lost : Int} {plan : List Int} {k m : Nat} (hm : m < plan.length) (hs : m < s.length) (h : plan[m] = k) : needV s lost plan k (m + 1) = needV s lost plan k m + (s[m].long + lost) := by
  rw [needV, if_pos (by simp [hm, h])]; simp [hs]
theorem needV_miss {s : List Pc} {lost : Int} {plan : List Int} {k m : Nat} (hm : m < plan.length) (h : plan[m] ≠ k) : needV s lost plan k (m + 1) = needV s lost plan k m := by
  rw [needV, if_neg (by simpa [hm] using h)]; omega
set_option maxRecDepth 100000 in
set_option maxHeartbeats 4000000 in
theorem rLeft_pc (d s : List Pc) (r : Int × Int) (plan : List Int) (ha : allErr d s r = 0) (hpl : plan.length ≤ s.length) :
    PCp 40 [.c (.lst 3 (d.map encPc)), .c (.lst 3 (s.map encPc)), .agg [.int .i64 r.1, .int .i64 r.2], .c (.lst 1 (plan.map encI))] []
      (.c (.row 0)) [.row 3 1 ((leftL d s r.1 plan plan.length).map encI)] := by
  have hld : (d.map encPc).length = d.length := List.length_map ..
  have hlp : (plan.map encI).length = plan.length := List.length_map ..
  obtain ⟨f1, f2, f3, f4, f5, f6⟩ := allErr_ok ha
  obtain ⟨d1, d2⟩ := pcFault_ok f1
  obtain ⟨s1, s2⟩ := pcFault_ok f2
  refine fn_sound (mt := mts) tab_fits tab_mixed Try.func40 (by rfl) (by kernel_rfl) (by kernel_rfl) Try.results40 (Nat.le_of_ble_eq_true (by kernel_rfl)) ?_
  conv => whnf
  refine loop_count (d.length) [.sl 9 3 1] [1, 3, 6, 9, 15, 16, 17] (fun k (_ : Unit) => ⟨[(1, .c (.lst 3 (s.map encPc))), (3, .c (.lst 1 (plan.map encI))), (6, .c (.ptr 0 0)), (9, .c (.row 1)), (15, .c (.lst 3 (d.map encPc))), (16, .c (.int .i64 (d.map encPc).length)), (17, .c (.int .i64 k))], [(0, .box [.int .i64 r.1, .int .i64 r.2]), (1, .row 3 1 (((leftL d s r.1 plan plan.length).take k).map encI))], 2⟩) (fun k (_ : Unit) => True) (()) ?_ ?_ ?_
  · conv => whnf
    exact ⟨rfl, trivial⟩
  · intro k _ hk _
    conv => whnf
    repeat' (first
      | (refine Split.mk (fun h => ?_) (fun h => ?_) <;> (try simp only [decide_eq_true_eq, decide_eq_false_iff_not, Bool.not_eq_true', Bool.not_eq_false', beq_iff_eq, beq_eq_false_iff_ne] at h) <;> (first | (exfalso; first | omega | exact h trivial) | (conv => whnf)))
      | (refine CondG.mk (fun h => ?_) (fun h => ?_) <;> (try simp only [decide_eq_true_eq, decide_eq_false_iff_not, Bool.not_eq_true', Bool.not_eq_false', beq_iff_eq, beq_eq_false_iff_ne] at h) <;> (first | (exfalso; first | omega | exact h trivial) | (conv => whnf)))
      | (refine Ask.mk (by first | omega | (unfold roomOK; simp [cutRows]; done) | (unfold roomOK; simp [cutRows]; omega)) ?_; conv => whnf)
      | (refine SliceG.fr ?_; conv => whnf)
      | fail)
    refine idx_map k hk rfl ?_
    conv => whnf
    repeat' (first
      | (refine Split.mk (fun h => ?_) (fun h => ?_) <;> (try simp only [decide_eq_true_eq, decide_eq_false_iff_not, Bool.not_eq_true', Bool.not_eq_false', beq_iff_eq, beq_eq_false_iff_ne] at h) <;> (first | (exfalso; first | omega | exact h trivial) | (conv => whnf)))
      | (refine CondG.mk (fun h => ?_) (fun h => ?_) <;> (try simp only [decide_eq_true_eq, decide_eq_false_iff_not, Bool.not_eq_true', Bool.not_eq_false', beq_iff_eq, beq_eq_false_iff_ne] at h) <;> (first | (exfalso; first | omega | exact h trivial) | (conv => whnf)))
      | (refine Ask.mk (by first | omega | (unfold roomOK; simp [cutRows]; done) | (unfold roomOK; simp [cutRows]; omega)) ?_; conv => whnf)
      | (refine SliceG.fr ?_; conv => whnf)
      | fail)
    have hkl : k < (leftL d s r.1 plan plan.length).length := by rw [leftL_len]; exact hk
    have hd1 := d2 _ (List.getElem_mem hk)
    refine loop_count (plan.length) [] [1, 3, 6, 9, 10, 12, 15, 16, 17, 24, 25, 26] (fun m (_ : Unit) => ⟨[(1, .c (.lst 3 (s.map encPc))), (3, .c (.lst 1 (plan.map encI))), (6, .c (.ptr 0 0)), (9, .c (.row 1)), (10, .c (.int .i64 (k : Int))), (12, .c (.int .i64 (d[k].long - needV s r.1 plan k m))), (15, .c (.lst 3 (d.map encPc))), (16, .c (.int .i64 (d.map encPc).length)), (17, .c (.int .i64 (k : Int))), (24, .c (.lst 1 (plan.map encI))), (25, .c (.int .i64 (plan.map encI).length)), (26, .c (.int .i64 m))], [(0, .box [.int .i64 r.1, .int .i64 r.2]), (1, .row 3 1 (((leftL d s r.1 plan plan.length).take k).map encI))], 2⟩) (fun m (_ : Unit) => True) (()) ?_ ?_ ?_
    · conv => whnf
      exact ⟨by simp only [needV, Int.sub_zero]; rfl, trivial⟩
    · intro m _ hm _
      have hn := needV_in s2 f3 f4 plan k m (by omega)
      have hms : m < s.length := by omega
      have hs1 := s2 _ (List.getElem_mem hms)
      conv => whnf
      repeat' (first
        | (refine Split.mk (fun h => ?_) (fun h => ?_) <;> (try simp only [decide_eq_true_eq, decide_eq_false_iff_not, Bool.not_eq_true', Bool.not_eq_false', beq_iff_eq, beq_eq_false_iff_ne] at h) <;> (first | (exfalso; first | omega | exact h trivial) | (conv => whnf)))
        | (refine CondG.mk (fun h => ?_) (fun h => ?_) <;> (try simp only [decide_eq_true_eq, decide_eq_false_iff_not, Bool.not_eq_true', Bool.not_eq_false', beq_iff_eq, beq_eq_false_iff_ne] at h) <;> (first | (exfalso; first | omega | exact h trivial) | (conv => whnf)))
        | (refine Ask.mk (by first | omega | (unfold roomOK; simp [cutRows]; done) | (unfold roomOK; simp [cutRows]; omega)) ?_; conv => whnf)
        | (refine SliceG.fr ?_; conv => whnf)
        | fail)
      refine idx_map m hm rfl ?_
      conv => whnf
      repeat' (first
        | (refine Split.mk (fun h => ?_) (fun h => ?_) <;> (try simp only [decide_eq_true_eq, decide_eq_false_iff_not, Bool.not_eq_true', Bool.not_eq_false', beq_iff_eq, beq_eq_false_iff_ne] at h) <;> (first | (exfalso; first | omega | exact h trivial) | (conv => whnf)))
        | (refine CondG.mk (fun h => ?_) (fun h => ?_) <;> (try simp only [decide_eq_true_eq, decide_eq_false_iff_not, Bool.not_eq_true', Bool.not_eq_false', beq_iff_eq, beq_eq_false_iff_ne] at h) <;> (first | (exfalso; first | omega | exact h trivial) | (conv => whnf)))
        | (refine Ask.mk (by first | omega | (unfold roomOK; simp [cutRows]; done) | (unfold roomOK; simp [cutRows]; omega)) ?_; conv => whnf)
        | (refine SliceG.fr ?_; conv => whnf)
        | fail)
      · refine idx_map m hms rfl ?_
        conv => whnf
        refine count_next () hm (by rw [wrap_succ hm (by omega), wrap_in (x := s[m].long + r.1) (by omega) (by omega), wrap_in (by omega) (by omega), needV_hit hm hms h, Int.sub_sub]; rfl) trivial
      · refine count_next () hm (by rw [wrap_succ hm (by omega), needV_miss hm h]; rfl) trivial
    · intro _ _
      conv => whnf
      repeat' (first
        | (refine Split.mk (fun h => ?_) (fun h => ?_) <;> (try simp only [decide_eq_true_eq, decide_eq_false_iff_not, Bool.not_eq_true', Bool.not_eq_false', beq_iff_eq, beq_eq_false_iff_ne] at h) <;> (first | (exfalso; first | omega | exact h trivial) | (conv => whnf)))
        | (refine CondG.mk (fun h => ?_) (fun h => ?_) <;> (try simp only [decide_eq_true_eq, decide_eq_false_iff_not, Bool.not_eq_true', Bool.not_eq_false', beq_iff_eq, beq_eq_false_iff_ne] at h) <;> (first | (exfalso; first | omega | exact h trivial) | (conv => whnf)))
        | (refine Ask.mk (by first | omega | (unfold roomOK; simp [cutRows]; done) | (unfold roomOK; simp [cutRows]; omega)) ?_; conv => whnf)
        | (refine SliceG.fr ?_; conv => whnf)
        | fail)
      have hgd : d.getD k default = d[k] := by simp [hk]
      refine count_next () hk (by rw [wrap_succ hk (by omega), List.take_succ_eq_append_getElem hkl, leftL_get hkl, hgd]; simp only [List.map_append]; rfl) trivial
  · intro _ _
    conv => whnf
    repeat' (first
      | (refine Split.mk (fun h => ?_) (fun h => ?_) <;> (try simp only [decide_eq_true_eq, decide_eq_false_iff_not, Bool.not_eq_true', Bool.not_eq_false', beq_iff_eq, beq_eq_false_iff_ne] at h) <;> (first | (exfalso; first | omega | exact h trivial) | (conv => whnf)))
      | (refine CondG.mk (fun h => ?_) (fun h => ?_) <;> (try simp only [decide_eq_true_eq, decide_eq_false_iff_not, Bool.not_eq_true', Bool.not_eq_false', beq_iff_eq, beq_eq_false_iff_ne] at h) <;> (first | (exfalso; first | omega | exact h trivial) | (conv => whnf)))
      | (refine Ask.mk (by first | omega | (unfold roomOK; simp [cutRows]; done) | (unfold roomOK; simp [cutRows]; omega)) ?_; conv => whnf)
      | (refine SliceG.fr ?_; conv => whnf)
      | fail)
    exact .mk ⟨rfl, by rw [List.take_of_length_le (by rw [leftL_len]; omega)]⟩

def planF (d s : List Pc) (r : Int × Int) (plan : List Int) : Int :=
  if plan.length ≠ s.length then 3 else if planErrs d s 0 plan ≠ 0 then planErrs d s 0 plan else if (leftL d s r.1 plan plan.length).any (fun x => decide (x < 0)) then 12 else 0
theorem leftE_plan (d s : List Pc) (r : Int × Int) (plan : List Int) : leftE d s r plan = if allErr d s r ≠ 0 then allErr d s r else planF d s r plan := rfl
set_option maxRecDepth 100000 in
set_option maxHeartbeats 4000000 in
theorem rPlan_pc (d s : List Pc) (r : Int × Int) (plan : List Int) (ha : allErr d s r = 0) :
    PCp 39 [.c (.lst 3 (d.map encPc)), .c (.lst 3 (s.map encPc)), .agg [.int .i64 r.1, .int .i64 r.2], .c (.lst 1 (plan.map encI))] []
      (.c (.int .i64 (planF d s r plan))) [] := by
  have hld : (d.map encPc).length = d.length := List.length_map ..
  have hls : (s.map encPc).length = s.length := List.length_map ..
  have hlp : (plan.map encI).length = plan.length := List.length_map ..
  obtain ⟨f1, f2, f3, f4, f5, f6⟩ := allErr_ok ha
  obtain ⟨d1, d2⟩ := pcFault_ok f1
  obtain ⟨s1, s2⟩ := pcFault_ok f2
  refine fn_sound (mt := mts) tab_fits tab_mixed Try.func39 (by rfl) (by kernel_rfl) (by kernel_rfl) Try.results39 (Nat.le_of_ble_eq_true (by kernel_rfl)) ?_
  conv => whnf
  repeat' (first
    | (refine Split.mk (fun h => ?_) (fun h => ?_) <;> (try simp only [decide_eq_true_eq, decide_eq_false_iff_not, Bool.not_eq_true', Bool.not_eq_false', beq_iff_eq, beq_eq_false_iff_ne] at h) <;> (first | (exfalso; first | omega | exact h trivial) | (conv => whnf)))
    | (refine CondG.mk (fun h => ?_) (fun h => ?_) <;> (try simp only [decide_eq_true_eq, decide_eq_false_iff_not, Bool.not_eq_true', Bool.not_eq_false', beq_iff_eq, beq_eq_false_iff_ne] at h) <;> (first | (exfalso; first | omega | exact h trivial) | (conv => whnf)))
    | (refine Ask.mk (by first | omega | (unfold roomOK; simp [cutRows]; done) | (unfold roomOK; simp [cutRows]; omega)) ?_; conv => whnf)
    | (refine SliceG.fr ?_; conv => whnf)
    | fail)
  · exact fini (by rw [planF, if_pos (by simp at h; omega)])
  have hpl : plan.length = s.length := by simp at h; omega
  have hE : planF d s r plan = if planErrs d s 0 plan ≠ 0 then planErrs d s 0 plan else if (leftL d s r.1 plan plan.length).any (fun x => decide (x < 0)) then 12 else 0 := by rw [planF, if_neg (by simp [hpl])]
  refine loop_count (plan.length) [] [0, 1, 3, 6, 16, 17, 18] (fun k (_ : Unit) => ⟨[(0, .c (.lst 3 (d.map encPc))), (1, .c (.lst 3 (s.map encPc))), (3, .c (.lst 1 (plan.map encI))), (6, .c (.ptr 0 0)), (16, .c (.lst 1 (plan.map encI))), (17, .c (.int .i64 (plan.map encI).length)), (18, .c (.int .i64 k))], [(0, .box [.int .i64 r.1, .int .i64 r.2])], 1⟩) (fun k (_ : Unit) => planErrs d s k (plan.drop k) = planErrs d s 0 plan) (()) ?_ ?_ ?_
  · conv => whnf
    exact ⟨rfl, rfl⟩
  · intro m _ hm hi
    rw [drop_cons hm, planErrs] at hi
    conv => whnf
    repeat' (first
      | (refine Split.mk (fun h => ?_) (fun h => ?_) <;> (try simp only [decide_eq_true_eq, decide_eq_false_iff_not, Bool.not_eq_true', Bool.not_eq_false', beq_iff_eq, beq_eq_false_iff_ne] at h) <;> (first | (exfalso; first | omega | exact h trivial) | (conv => whnf)))
      | (refine CondG.mk (fun h => ?_) (fun h => ?_) <;> (try simp only [decide_eq_true_eq, decide_eq_false_iff_not, Bool.not_eq_true', Bool.not_eq_false', beq_iff_eq, beq_eq_false_iff_ne] at h) <;> (first | (exfalso; first | omega | exact h trivial) | (conv => whnf)))
      | (refine Ask.mk (by first | omega | (unfold roomOK; simp [cutRows]; done) | (unfold roomOK; simp [cutRows]; omega)) ?_; conv => whnf)
      | (refine SliceG.fr ?_; conv => whnf)
      | fail)
    refine idx_map m hm rfl ?_
    conv => whnf
    repeat' (first
      | (refine Split.mk (fun h => ?_) (fun h => ?_) <;> (try simp only [decide_eq_true_eq, decide_eq_false_iff_not, Bool.not_eq_true', Bool.not_eq_false', beq_iff_eq, beq_eq_false_iff_ne] at h) <;> (first | (exfalso; first | omega | exact h trivial) | (conv => whnf)))
      | (refine CondG.mk (fun h => ?_) (fun h => ?_) <;> (try simp only [decide_eq_true_eq, decide_eq_false_iff_not, Bool.not_eq_true', Bool.not_eq_false', beq_iff_eq, beq_eq_false_iff_ne] at h) <;> (first | (exfalso; first | omega | exact h trivial) | (conv => whnf)))
      | (refine CallX.mk _ _ (by first | exact rIn_pc _ _ _) ?_; conv => whnf)
      | (refine CallG.mk _ _ (by first | exact rIn_pc _ _ _) ?_; conv => whnf)
      | (refine Ask.mk (by first | omega | (unfold roomOK; simp [cutRows]; done) | (unfold roomOK; simp [cutRows]; omega)) ?_; conv => whnf)
      | (refine SliceG.fr ?_; conv => whnf)
      | fail)
    · have hi1 : planErr1 d s m plan[m] = 0 := by rw [planErr1, if_pos h]
      rw [if_pos hi1] at hi
      refine count_next () hm (by rw [wrap_succ hm (by omega)]; rfl) hi
    · rename_i h0
      rw [wrap_in (by omega) (by omega), hld] at h
      have hi1 : planErr1 d s m plan[m] = 8 := by rw [planErr1, if_neg h0, if_pos (by omega)]
      rw [hi1, if_neg (by decide)] at hi
      exact fini (by rw [hE, ← hi, if_pos (by decide)])
    rename_i h0
    rw [wrap_in (by omega) (by omega), hld] at h
    obtain ⟨j, hj⟩ := Int.eq_ofNat_of_zero_le (show 0 ≤ plan[m] by omega)
    have hjd : j < d.length := by omega
    have hms : m < s.length := by omega
    refine idx_map j hjd hj ?_
    conv => whnf
    refine idx_map m hms rfl ?_
    conv => whnf
    have hk1 : planErr1 d s m plan[m] = if d[j].kind ≠ s[m].kind then 4 else 0 := by
      rw [planErr1, if_neg h0, if_neg (by omega), hj]; simp [hjd, hms]
    repeat' (first
      | (refine Split.mk (fun h => ?_) (fun h => ?_) <;> (try simp only [decide_eq_true_eq, decide_eq_false_iff_not, Bool.not_eq_true', Bool.not_eq_false', beq_iff_eq, beq_eq_false_iff_ne] at h) <;> (first | (exfalso; first | omega | exact h trivial) | (conv => whnf)))
      | (refine CondG.mk (fun h => ?_) (fun h => ?_) <;> (try simp only [decide_eq_true_eq, decide_eq_false_iff_not, Bool.not_eq_true', Bool.not_eq_false', beq_iff_eq, beq_eq_false_iff_ne] at h) <;> (first | (exfalso; first | omega | exact h trivial) | (conv => whnf)))
      | (refine Ask.mk (by first | omega | (unfold roomOK; simp [cutRows]; done) | (unfold roomOK; simp [cutRows]; omega)) ?_; conv => whnf)
      | (refine SliceG.fr ?_; conv => whnf)
      | fail)
    · have h2 : d[j].kind ≠ s[m].kind := fun e => h (by rw [e])
      rw [if_pos h2] at hk1
      rw [hk1, if_neg (by decide)] at hi
      exact fini (by rw [hE, ← hi, if_pos (by decide)])
    have h2 : d[j].kind = s[m].kind := toList_inj h
    rw [if_neg (by simpa using h2)] at hk1
    rw [if_pos hk1] at hi
    refine count_next () hm (by rw [wrap_succ hm (by omega)]; rfl) hi
  · intro _ hi
    rw [List.drop_of_length_le (Nat.le_refl _)] at hi
    have hlm := leftL_len d s r.1 plan plan.length
    conv => whnf
    repeat' (first
      | (refine Split.mk (fun h => ?_) (fun h => ?_) <;> (try simp only [decide_eq_true_eq, decide_eq_false_iff_not, Bool.not_eq_true', Bool.not_eq_false', beq_iff_eq, beq_eq_false_iff_ne] at h) <;> (first | (exfalso; first | omega | exact h trivial) | (conv => whnf)))
      | (refine CondG.mk (fun h => ?_) (fun h => ?_) <;> (try simp only [decide_eq_true_eq, decide_eq_false_iff_not, Bool.not_eq_true', Bool.not_eq_false', beq_iff_eq, beq_eq_false_iff_ne] at h) <;> (first | (exfalso; first | omega | exact h trivial) | (conv => whnf)))
      | (refine CallX.mk _ _ (by first | exact rLeft_pc d s r plan ha (by omega) | exact containsFuncI_pc _ _ _ (by rw [leftL_len]; omega) plan1_pc) ?_; conv => whnf)
      | (refine CallG.mk _ _ (by first | exact rLeft_pc d s r plan ha (by omega) | exact containsFuncI_pc _ _ _ (by rw [leftL_len]; omega) plan1_pc) ?_; conv => whnf)
      | (refine Ask.mk (by first | omega | (unfold roomOK; simp [cutRows]; done) | (unfold roomOK; simp [cutRows]; omega)) ?_; conv => whnf)
      | (refine SliceG.fr ?_; conv => whnf)
      | fail)
    · exact fini (by rw [hE, ← hi, if_neg (by simp [planErrs]), if_pos h])
    · exact fini (by rw [hE, ← hi, if_neg (by simp [planErrs]), if_neg (by simpa using h)])
set_option maxRecDepth 100000 in
set_option maxHeartbeats 4000000 in
theorem rWaste_pc (d s : List Pc) (r : Int × Int) (plan : List Int) (ha : leftE d s r plan = 0) :
    PCp 41 [.c (.lst 3 (d.map encPc)), .c (.lst 3 (s.map encPc)), .agg [.int .i64 r.1, .int .i64 r.2], .c (.lst 1 (plan.map encI))] []
      (.c (.int .i64 (wasteV d s r plan))) [] := by
  have hlp : (plan.map encI).length = plan.length := List.length_map ..
  obtain ⟨hae, hpl, hpe, hne⟩ := leftE_ok ha
  obtain ⟨f1, f2, f3, f4, f5, f6⟩ := allErr_ok hae
  obtain ⟨d1, d2⟩ := pcFault_ok f1
  obtain ⟨s1, s2⟩ := pcFault_ok f2
  have hW : wasteV d s r plan = wasteN r plan (leftL d s r.1 plan plan.length) := by rw [wasteV, if_pos ha, leftV, if_pos ha]
  rw [hW]
  refine fn_sound (mt := mts) tab_fits tab_mixed Try.func41 (by rfl) (by kernel_rfl) (by kernel_rfl) Try.results41 (Nat.le_of_ble_eq_true (by kernel_rfl)) ?_
  conv => whnf
  refine loop_count (plan.length) [] [0, 1, 3, 6, 9, 14, 15, 16] (fun k (_ : Unit) => ⟨[(0, .c (.lst 3 (d.map encPc))), (1, .c (.lst 3 (s.map encPc))), (3, .c (.lst 1 (plan.map encI))), (6, .c (.ptr 0 0)), (9, .c (.int .i64 (lostV r.1 plan k))), (14, .c (.lst 1 (plan.map encI))), (15, .c (.int .i64 (plan.map encI).length)), (16, .c (.int .i64 k))], [(0, .box [.int .i64 r.1, .int .i64 r.2])], 1⟩) (fun k (_ : Unit) => True) (()) ?_ ?_ ?_
  · conv => whnf
    exact ⟨rfl, trivial⟩
  · intro m _ hm _
    have hv := lostV_in f3 f4 plan m
    conv => whnf
    repeat' (first
      | (refine Split.mk (fun h => ?_) (fun h => ?_) <;> (try simp only [decide_eq_true_eq, decide_eq_false_iff_not, Bool.not_eq_true', Bool.not_eq_false', beq_iff_eq, beq_eq_false_iff_ne] at h) <;> (first | (exfalso; first | omega | exact h trivial) | (conv => whnf)))
      | (refine CondG.mk (fun h => ?_) (fun h => ?_) <;> (try simp only [decide_eq_true_eq, decide_eq_false_iff_not, Bool.not_eq_true', Bool.not_eq_false', beq_iff_eq, beq_eq_false_iff_ne] at h) <;> (first | (exfalso; first | omega | exact h trivial) | (conv => whnf)))
      | (refine Ask.mk (by first | omega | (unfold roomOK; simp [cutRows]; done) | (unfold roomOK; simp [cutRows]; omega)) ?_; conv => whnf)
      | (refine SliceG.fr ?_; conv => whnf)
      | fail)
    refine idx_map m hm rfl ?_
    conv => whnf
    repeat' (first
      | (refine Split.mk (fun h => ?_) (fun h => ?_) <;> (try simp only [decide_eq_true_eq, decide_eq_false_iff_not, Bool.not_eq_true', Bool.not_eq_false', beq_iff_eq, beq_eq_false_iff_ne] at h) <;> (first | (exfalso; first | omega | exact h trivial) | (conv => whnf)))
      | (refine CondG.mk (fun h => ?_) (fun h => ?_) <;> (try simp only [decide_eq_true_eq, decide_eq_false_iff_not, Bool.not_eq_true', Bool.not_eq_false', beq_iff_eq, beq_eq_false_iff_ne] at h) <;> (first | (exfalso; first | omega | exact h trivial) | (conv => whnf)))
      | (refine Ask.mk (by first | omega | (unfold roomOK; simp [cutRows]; done) | (unfold roomOK; simp [cutRows]; omega)) ?_; conv => whnf)
      | (refine SliceG.fr ?_; conv => whnf)
      | fail)
    · refine count_next () hm (by rw [wrap_succ hm (by omega), wrap_in (by omega) (by omega), lostV, if_neg (by simpa [hm] using h)]; rfl) trivial
    · refine count_next () hm (by rw [wrap_succ hm (by omega), lostV, if_pos (by simpa [hm] using h), Int.add_zero]; rfl) trivial
  · intro _ _
    have hv := lostV_in f3 f4 plan plan.length
    conv => whnf
    repeat' (first
      | (refine Split.mk (fun h => ?_) (fun h => ?_) <;> (try simp only [decide_eq_true_eq, decide_eq_false_iff_not, Bool.not_eq_true', Bool.not_eq_false', beq_iff_eq, beq_eq_false_iff_ne] at h) <;> (first | (exfalso; first | omega | exact h trivial) | (conv => whnf)))
      | (refine CondG.mk (fun h => ?_) (fun h => ?_) <;> (try simp only [decide_eq_true_eq, decide_eq_false_iff_not, Bool.not_eq_true', Bool.not_eq_false', beq_iff_eq, beq_eq_false_iff_ne] at h) <;> (first | (exfalso; first | omega | exact h trivial) | (conv => whnf)))
      | (refine CallX.mk _ _ (by first | exact rLeft_pc d s r plan hae (by omega)) ?_; conv => whnf)
      | (refine CallG.mk _ _ (by first | exact rLeft_pc d s r plan hae (by omega)) ?_; conv => whnf)
      | (refine Ask.mk (by first | omega | (unfold roomOK; simp [cutRows]; done) | (unfold roomOK; simp [cutRows]; omega)) ?_; conv => whnf)
      | (refine SliceG.fr ?_; conv => whnf)
      | fail)
    have hll := leftL_len d s r.1 plan plan.length
    generalize leftL d s r.1 plan plan.length = l at *
    have hlm : (l.map encI).length = l.length := List.length_map ..
    have hne' := hne
    refine loop_count (l.length) [] [3, 6, 9, 31, 32, 33] (fun k (_ : Unit) => ⟨[(3, .c (.lst 1 (plan.map encI))), (6, .c (.ptr 0 0)), (9, .c (.int .i64 (lostV r.1 plan plan.length + restV r.2 plan l k))), (31, .c (.row 1)), (32, .c (.int .i64 (l.map encI).length)), (33, .c (.int .i64 k))], [(0, .box [.int .i64 r.1, .int .i64 r.2]), (1, .row 3 1 (l.map encI))], 2⟩) (fun k (_ : Unit) => True) (()) ?_ ?_ ?_
    · conv => whnf
      exact ⟨by simp only [restV, Int.add_zero]; rfl, trivial⟩
    · intro k _ hk _
      have hv2 := restV_in f6 plan hne' k
      conv => whnf
      repeat' (first
        | (refine Split.mk (fun h => ?_) (fun h => ?_) <;> (try simp only [decide_eq_true_eq, decide_eq_false_iff_not, Bool.not_eq_true', Bool.not_eq_false', beq_iff_eq, beq_eq_false_iff_ne] at h) <;> (first | (exfalso; first | omega | exact h trivial) | (conv => whnf)))
        | (refine CondG.mk (fun h => ?_) (fun h => ?_) <;> (try simp only [decide_eq_true_eq, decide_eq_false_iff_not, Bool.not_eq_true', Bool.not_eq_false', beq_iff_eq, beq_eq_false_iff_ne] at h) <;> (first | (exfalso; first | omega | exact h trivial) | (conv => whnf)))
        | (refine Ask.mk (by first | omega | (unfold roomOK; simp [cutRows]; done) | (unfold roomOK; simp [cutRows]; omega)) ?_; conv => whnf)
        | (refine SliceG.fr ?_; conv => whnf)
        | fail)
      refine row_map (j := k) hk ?_
      conv => whnf
      repeat' (first
        | (refine Split.mk (fun h => ?_) (fun h => ?_) <;> (try simp only [decide_eq_true_eq, decide_eq_false_iff_not, Bool.not_eq_true', Bool.not_eq_false', beq_iff_eq, beq_eq_false_iff_ne] at h) <;> (first | (exfalso; first | omega | exact h trivial) | (conv => whnf)))
        | (refine CondG.mk (fun h => ?_) (fun h => ?_) <;> (try simp only [decide_eq_true_eq, decide_eq_false_iff_not, Bool.not_eq_true', Bool.not_eq_false', beq_iff_eq, beq_eq_false_iff_ne] at h) <;> (first | (exfalso; first | omega | exact h trivial) | (conv => whnf)))
        | (refine CallX.mk _ _ (by first | exact containsI_pc _ _ (by omega)) ?_; conv => whnf)
        | (refine CallG.mk _ _ (by first | exact containsI_pc _ _ (by omega)) ?_; conv => whnf)
        | (refine Ask.mk (by first | omega | (unfold roomOK; simp [cutRows]; done) | (unfold roomOK; simp [cutRows]; omega)) ?_; conv => whnf)
        | (refine SliceG.fr ?_; conv => whnf)
        | fail)
      · rename_i h1
        have hv3 : 0 ≤ l[k] := by have h3 := List.any_eq_false.1 hne' _ (List.getElem_mem hk); simpa using h3
        refine count_next () hk (by rw [wrap_succ hk (by omega), wrap_in (by omega) (by omega), restV_hit hk h h1]; rfl) trivial
      · refine count_next () hk (by rw [wrap_succ hk (by omega), restV_miss hk (by simp [h])]; rfl) trivial
      · refine count_next () hk (by rw [wrap_succ hk (by omega), restV_miss hk (by simp [h])]; rfl) trivial
    · intro _ _
      conv => whnf
      repeat' (first
        | (refine Split.mk (fun h => ?_) (fun h => ?_) <;> (try simp only [decide_eq_true_eq, decide_eq_false_iff_not, Bool.not_eq_true', Bool.not_eq_false', beq_iff_eq, beq_eq_false_iff_ne] at h) <;> (first | (exfalso; first | omega | exact h trivial) | (conv => whnf)))
        | (refine CondG.mk (fun h => ?_) (fun h => ?_) <;> (try simp only [decide_eq_true_eq, decide_eq_false_iff_not, Bool.not_eq_true', Bool.not_eq_false', beq_iff_eq, beq_eq_false_iff_ne] at h) <;> (first | (exfalso; first | omega | exact h trivial) | (conv => whnf)))
        | (refine Ask.mk (by first | omega | (unfold roomOK; simp [cutRows]; done) | (unfold roomOK; simp [cutRows]; omega)) ?_; conv => whnf)
        | (refine SliceG.fr ?_; conv => whnf)
        | fail)
      exact fini rfl
end Go.Proofs.Ytmpjgbanmdgooaa
