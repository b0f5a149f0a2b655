/- What is left on drums after a plan, by the abstract walk. -/
import Derived.Test.YtmpjgbanmdgooaaC5
namespace Go.Proofs.Ytmpjgbanmdgooaa
set_option linter.unusedVariables false
set_option linter.unusedSimpArgs false
open Abs

set_option maxRecDepth 100000 in
set_option maxHeartbeats 4000000 in
theorem rDrums_pc (l : List Pc) : PCp 43 [.c (.lst 3 (l.map encPc))] [] (.c (.int .i64 (pcFault l))) [] := by
  refine fn_sound (mt := mts) tab_fits tab_mixed Try.func43 (by rfl) (by kernel_rfl) (by kernel_rfl) Try.results43 (Nat.le_of_ble_eq_true (by kernel_rfl)) ?_
  conv => whnf
  repeat' (first
    | (refine Split.mk (fun h => ?_) (fun h => ?_) <;> (try simp only [decide_eq_true_eq, decide_eq_false_iff_not, Bool.not_eq_true', Bool.not_eq_false', beq_iff_eq, beq_eq_false_iff_ne] at h) <;> (first | (exfalso; first | omega | exact h trivial) | (conv => whnf)))
    | (refine CondG.mk (fun h => ?_) (fun h => ?_) <;> (try simp only [decide_eq_true_eq, decide_eq_false_iff_not, Bool.not_eq_true', Bool.not_eq_false', beq_iff_eq, beq_eq_false_iff_ne] at h) <;> (first | (exfalso; first | omega | exact h trivial) | (conv => whnf)))
    | (refine CallX.mk _ _ (by first | exact pieceFault_pc 101 l (drums1_pc l)) ?_; conv => whnf)
    | (refine CallG.mk _ _ (by first | exact pieceFault_pc 101 l (drums1_pc l)) ?_; conv => whnf)
    | (refine Ask.mk (by first | omega | (unfold roomOK; simp [cutRows]; done) | (unfold roomOK; simp [cutRows]; omega)) ?_; conv => whnf)
    | (refine SliceG.fr ?_; conv => whnf)
    | fail)
  exact fini rfl
set_option maxRecDepth 100000 in
set_option maxHeartbeats 4000000 in
theorem rSects_pc (l : List Pc) : PCp 45 [.c (.lst 3 (l.map encPc))] [] (.c (.int .i64 (pcFault l))) [] := by
  refine fn_sound (mt := mts) tab_fits tab_mixed Try.func45 (by rfl) (by kernel_rfl) (by kernel_rfl) Try.results45 (Nat.le_of_ble_eq_true (by kernel_rfl)) ?_
  conv => whnf
  repeat' (first
    | (refine Split.mk (fun h => ?_) (fun h => ?_) <;> (try simp only [decide_eq_true_eq, decide_eq_false_iff_not, Bool.not_eq_true', Bool.not_eq_false', beq_iff_eq, beq_eq_false_iff_ne] at h) <;> (first | (exfalso; first | omega | exact h trivial) | (conv => whnf)))
    | (refine CondG.mk (fun h => ?_) (fun h => ?_) <;> (try simp only [decide_eq_true_eq, decide_eq_false_iff_not, Bool.not_eq_true', Bool.not_eq_false', beq_iff_eq, beq_eq_false_iff_ne] at h) <;> (first | (exfalso; first | omega | exact h trivial) | (conv => whnf)))
    | (refine CallX.mk _ _ (by first | exact pieceFault_pc 102 l (sects1_pc l)) ?_; conv => whnf)
    | (refine CallG.mk _ _ (by first | exact pieceFault_pc 102 l (sects1_pc l)) ?_; conv => whnf)
    | (refine Ask.mk (by first | omega | (unfold roomOK; simp [cutRows]; done) | (unfold roomOK; simp [cutRows]; omega)) ?_; conv => whnf)
    | (refine SliceG.fr ?_; conv => whnf)
    | fail)
  exact fini rfl
set_option maxRecDepth 100000 in
set_option maxHeartbeats 4000000 in
theorem lCut_pc (d s : List Pc) (r : Int × Int) : PCp 38 [.c (.lst 3 (d.map encPc)), .c (.lst 3 (s.map encPc)), .agg [.int .i64 r.1, .int .i64 r.2]] [] (.c (.int .i64 (allErr d s r))) [] := by
  refine fn_sound (mt := mts) tab_fits tab_mixed Try.func38 (by rfl) (by kernel_rfl) (by kernel_rfl) Try.results38 (Nat.le_of_ble_eq_true (by kernel_rfl)) ?_
  conv => whnf
  repeat' (first
    | (refine Split.mk (fun h => ?_) (fun h => ?_) <;> (try simp only [decide_eq_true_eq, decide_eq_false_iff_not, Bool.not_eq_true', Bool.not_eq_false', beq_iff_eq, beq_eq_false_iff_ne] at h) <;> (first | (exfalso; first | omega | exact h trivial) | (conv => whnf)))
    | (refine CondG.mk (fun h => ?_) (fun h => ?_) <;> (try simp only [decide_eq_true_eq, decide_eq_false_iff_not, Bool.not_eq_true', Bool.not_eq_false', beq_iff_eq, beq_eq_false_iff_ne] at h) <;> (first | (exfalso; first | omega | exact h trivial) | (conv => whnf)))
    | (refine CallX.mk _ _ (by first | exact rDrums_pc _ | exact rSects_pc _ | exact cutFault_pc r | exact errs_pc [pcFault d, pcFault s, ruleErr r] (by simp)) ?_; conv => whnf)
    | (refine CallG.mk _ _ (by first | exact rDrums_pc _ | exact rSects_pc _ | exact cutFault_pc r | exact errs_pc [pcFault d, pcFault s, ruleErr r] (by simp)) ?_; conv => whnf)
    | (refine Ask.mk (by first | omega | (unfold roomOK; simp [cutRows]; done) | (unfold roomOK; simp [cutRows]; omega)) ?_; conv => whnf)
    | (refine SliceG.fr ?_; conv => whnf)
    | fail)
  exact fini rfl

/-- the error of one cut of a plan, and of a plan -/
def planErr1 (d s : List Pc) (i : Nat) (k : Int) : Int :=
  if k = -1 then 0 else if k < 0 ∨ (d.length : Int) - 1 < k then 8 else if (d.getD k.toNat default).kind ≠ (s.getD i default).kind then 4 else 0
def planErrs (d s : List Pc) : Nat → List Int → Int
  | _, [] => 0
  | i, k :: r => if planErr1 d s i k = 0 then planErrs d s (i + 1) r else planErr1 d s i k
/-- what the first cuts of a plan need of a drum -/
def needV (s : List Pc) (lost : Int) (plan : List Int) (j : Nat) : Nat → Int
  | 0 => 0
  | m + 1 => needV s lost plan j m + (if plan.getD m (-1) = j then (s.getD m default).long + lost else 0)
def leftL (d s : List Pc) (lost : Int) (plan : List Int) (m : Nat) : List Int :=
  (List.range d.length).map fun j => (d.getD j default).long - needV s lost plan j m
theorem leftL_len (d s : List Pc) (lost : Int) (plan : List Int) (m : Nat) : (leftL d s lost plan m).length = d.length := by simp [leftL]
theorem leftL_get {d s : List Pc} {lost : Int} {plan : List Int} {m j : Nat} (h : j < (leftL d s lost plan m).length) : (leftL d s lost plan m)[j] = (d.getD j default).long - needV s lost plan j m := by simp [leftL]
theorem needV_in {s : List Pc} {lost : Int} (hs : ∀ x ∈ s, 1 ≤ x.long ∧ x.long ≤ 200000) (h0 : 0 ≤ lost) (h1 : lost ≤ 1000) (plan : List Int) (j : Nat) : ∀ m, m ≤ s.length → 0 ≤ needV s lost plan j m ∧ needV s lost plan j m ≤ 201000 * m
  | 0, _ => by simp [needV]
  | m + 1, h => by
    have ih := needV_in hs h0 h1 plan j m (by omega)
    have hm : (s.getD m default) = s[m]'(by omega) := by simp [show m < s.length by omega]
    have := hs _ (List.getElem_mem (show m < s.length by omega))
    rw [needV, hm]
    split <;> omega
/-- the error of what is left, and what is left -/
def leftE (d s : List Pc) (r : Int × Int) (plan : List Int) : Int :=
  if allErr d s r ≠ 0 then allErr d s r else if plan.length ≠ s.length then 3 else if planErrs d s 0 plan ≠ 0 then planErrs d s 0 plan else if (leftL d s r.1 plan plan.length).any (fun x => decide (x < 0)) then 12 else 0
def leftV (d s : List Pc) (r : Int × Int) (plan : List Int) : List Int := if leftE d s r plan = 0 then leftL d s r.1 plan plan.length else []
theorem leftV_ne {d s : List Pc} {r : Int × Int} {plan : List Int} {e : Int} (h : leftE d s r plan = e) (he : e ≠ 0) : leftV d s r plan = [] := by rw [leftV, if_neg (by omega)]

theorem leftR {d s : List Pc} {r : Int × Int} {plan : List Int} {e : Int} {os : List Ob} (h : leftE d s r plan = e) (he : e ≠ 0) (ho : os = []) :
    FinR 0 (.tup [.c (.lst 1 ((leftV d s r plan).map encI)), .c (.int .i64 (leftE d s r plan))]) [] (.tup [.c .nils, .c (.int .i64 e)]) os := by
  rw [leftV_ne h he, h]
  refine .weak os (.tup _ _ rfl ?_) rfl (Nat.le_refl _)
  intro i a b ha hb
  match i with
  | 0 => cases ha; cases hb; exact .nil 1
  | 1 => cases ha; cases hb; exact .refl _
theorem planErrs_ge {d s : List Pc} : ∀ (l : List Int) (i : Nat) , planErrs d s i l = 0 ∨ planErrs d s i l = 8 ∨ planErrs d s i l = 4
  | [], _ => .inl rfl
  | k :: r, i => by
    rw [planErrs]
    split
    · exact planErrs_ge r (i + 1)
    · unfold planErr1; repeat' split
      all_goals omega
theorem toList_inj {a b : ByteArray} (h : a.toList = b.toList) : a = b := by
  rw [ByteArray.toList_eq, ByteArray.toList_eq] at h
  exact ByteArray.ext (Array.toList_inj.1 h)
theorem leftL_set {d s : List Pc} {lost : Int} {plan : List Int} {m k : Nat} (hk : k < d.length) (hp : plan.getD m (-1) = k) (x : Int) (hx : x = (d.getD k default).long - needV s lost plan k m - ((s.getD m default).long + lost)) :
    (leftL d s lost plan m).set k x = leftL d s lost plan (m + 1) := by
  apply List.ext_getElem
  · simp [leftL_len]
  · intro i h1 h2
    rw [List.getElem_set]
    rw [leftL_get, leftL_get, needV, hp]
    split
    · rename_i e; subst e; rw [hx]; simp; omega
    · rename_i e; rw [if_neg (by omega)]; omega
theorem leftL_skip {d s : List Pc} {lost : Int} {plan : List Int} {m : Nat} (hp : plan.getD m (-1) = -1) : leftL d s lost plan (m + 1) = leftL d s lost plan m := by
  unfold leftL
  apply List.map_congr_left
  intro j _
  rw [needV, hp, if_neg (by omega)]; omega

set_option maxRecDepth 100000 in
set_option maxHeartbeats 4000000 in
theorem dLeft_pc (d s : List Pc) (r : Int × Int) (plan : List Int) :
    PCp 95 [.c (.lst 3 (d.map encPc)), .c (.lst 3 (s.map encPc)), .agg [.int .i64 r.1, .int .i64 r.2], .c (.lst 1 (plan.map encI))] []
      (.tup [.c (.lst 1 ((leftV d s r plan).map encI)), .c (.int .i64 (leftE d s r plan))]) [] := by
  have hld : (d.map encPc).length = d.length := List.length_map ..
  have hls : (s.map encPc).length = s.length := List.length_map ..
  have hlp : (plan.map encI).length = plan.length := List.length_map ..
  refine fn_sound (mt := mts) tab_fits tab_mixed Try.func95 (by rfl) (by kernel_rfl) (by kernel_rfl) Try.results95 (Nat.le_of_ble_eq_true (by kernel_rfl)) ?_
  conv => whnf
  repeat' (first
    | (refine Split.mk (fun h => ?_) (fun h => ?_) <;> (try simp only [decide_eq_true_eq, decide_eq_false_iff_not, Bool.not_eq_true', Bool.not_eq_false', beq_iff_eq, beq_eq_false_iff_ne] at h) <;> (first | (exfalso; first | omega | exact h trivial) | (conv => whnf)))
    | (refine CondG.mk (fun h => ?_) (fun h => ?_) <;> (try simp only [decide_eq_true_eq, decide_eq_false_iff_not, Bool.not_eq_true', Bool.not_eq_false', beq_iff_eq, beq_eq_false_iff_ne] at h) <;> (first | (exfalso; first | omega | exact h trivial) | (conv => whnf)))
    | (refine CallX.mk _ _ (by first | exact dFault_pc d s r) ?_; conv => whnf)
    | (refine CallG.mk _ _ (by first | exact dFault_pc d s r) ?_; conv => whnf)
    | (refine Ask.mk (by first | omega | (unfold roomOK; simp [cutRows]; done) | (unfold roomOK; simp [cutRows]; omega)) ?_; conv => whnf)
    | (refine SliceG.fr ?_; conv => whnf)
    | fail)
  · have h1 : allErr d s r ≠ 0 := by simpa using h
    exact leftR (by rw [leftE, if_pos h1]) h1 rfl
  · have h1 : allErr d s r = 0 := by simp_all
    have h2 : plan.length ≠ s.length := by simp at h; omega
    exact leftR (by rw [leftE, if_neg (by simp [h1]), if_pos h2]) (by decide) rfl
  rename_i ha
  have ha : allErr d s r = 0 := by simpa using ha
  have hpl : plan.length = s.length := by simp at h; omega
  obtain ⟨f1, f2, f3, f4, f5, f6⟩ := allErr_ok ha
  obtain ⟨d1, d2⟩ := pcFault_ok f1
  obtain ⟨s1, s2⟩ := pcFault_ok f2
  have hE : leftE d s r plan = if planErrs d s 0 plan ≠ 0 then planErrs d s 0 plan else if (leftL d s r.1 plan plan.length).any (fun x => decide (x < 0)) then 12 else 0 := by
    rw [leftE, if_neg (by simp [ha]), if_neg (by simp [hpl])]
  refine loop_count (d.length) [.sl 11 3 1] [0, 1, 3, 6, 11, 28, 29, 30] (fun k (_ : Unit) => ⟨[(0, .c (.lst 3 (d.map encPc))), (1, .c (.lst 3 (s.map encPc))), (3, .c (.lst 1 (plan.map encI))), (6, .c (.ptr 0 0)), (11, .c (.row 1)), (28, .c (.lst 3 (d.map encPc))), (29, .c (.int .i64 (d.map encPc).length)), (30, .c (.int .i64 k))], [(0, .box [.int .i64 r.1, .int .i64 r.2]), (1, .row 3 1 (((d.take k).map Pc.long).map encI))], 2⟩) (fun k (_ : Unit) => True) (()) ?_ ?_ ?_
  · conv => whnf
    exact ⟨rfl, trivial⟩
  · intro k _ hk _
    conv => whnf
    repeat' (first
      | (refine Split.mk (fun h => ?_) (fun h => ?_) <;> (try simp only [decide_eq_true_eq, decide_eq_false_iff_not, Bool.not_eq_true', Bool.not_eq_false', beq_iff_eq, beq_eq_false_iff_ne] at h) <;> (first | (exfalso; first | omega | exact h trivial) | (conv => whnf)))
      | (refine CondG.mk (fun h => ?_) (fun h => ?_) <;> (try simp only [decide_eq_true_eq, decide_eq_false_iff_not, Bool.not_eq_true', Bool.not_eq_false', beq_iff_eq, beq_eq_false_iff_ne] at h) <;> (first | (exfalso; first | omega | exact h trivial) | (conv => whnf)))
      | (refine Ask.mk (by first | omega | (unfold roomOK; simp [cutRows]; done) | (unfold roomOK; simp [cutRows]; omega)) ?_; conv => whnf)
      | (refine SliceG.fr ?_; conv => whnf)
      | fail)
    refine idx_map k hk rfl ?_
    conv => whnf
    repeat' (first
      | (refine Split.mk (fun h => ?_) (fun h => ?_) <;> (try simp only [decide_eq_true_eq, decide_eq_false_iff_not, Bool.not_eq_true', Bool.not_eq_false', beq_iff_eq, beq_eq_false_iff_ne] at h) <;> (first | (exfalso; first | omega | exact h trivial) | (conv => whnf)))
      | (refine CondG.mk (fun h => ?_) (fun h => ?_) <;> (try simp only [decide_eq_true_eq, decide_eq_false_iff_not, Bool.not_eq_true', Bool.not_eq_false', beq_iff_eq, beq_eq_false_iff_ne] at h) <;> (first | (exfalso; first | omega | exact h trivial) | (conv => whnf)))
      | (refine Ask.mk (by first | omega | (unfold roomOK; simp [cutRows]; done) | (unfold roomOK; simp [cutRows]; omega)) ?_; conv => whnf)
      | (refine SliceG.fr ?_; conv => whnf)
      | fail)
    refine count_next () hk (by rw [wrap_succ hk (by omega), List.take_succ_eq_append_getElem hk]; simp only [List.map_append]; rfl) trivial
  · intro _ _
    conv => whnf
    repeat' (first
      | (refine Split.mk (fun h => ?_) (fun h => ?_) <;> (try simp only [decide_eq_true_eq, decide_eq_false_iff_not, Bool.not_eq_true', Bool.not_eq_false', beq_iff_eq, beq_eq_false_iff_ne] at h) <;> (first | (exfalso; first | omega | exact h trivial) | (conv => whnf)))
      | (refine CondG.mk (fun h => ?_) (fun h => ?_) <;> (try simp only [decide_eq_true_eq, decide_eq_false_iff_not, Bool.not_eq_true', Bool.not_eq_false', beq_iff_eq, beq_eq_false_iff_ne] at h) <;> (first | (exfalso; first | omega | exact h trivial) | (conv => whnf)))
      | (refine Ask.mk (by first | omega | (unfold roomOK; simp [cutRows]; done) | (unfold roomOK; simp [cutRows]; omega)) ?_; conv => whnf)
      | (refine SliceG.fr ?_; conv => whnf)
      | fail)
    rw [List.take_length]
    have hL0 : d.map Pc.long = leftL d s r.1 plan 0 := by
      apply List.ext_getElem
      · simp [leftL_len]
      · intro i h1 h2
        have hi : i < d.length := by simpa using h1
        rw [leftL_get, needV]; simp [hi]
    rw [hL0]
    refine loop_count (plan.length) [] [0, 1, 6, 11, 40, 41, 42] (fun k (_ : Unit) => ⟨[(0, .c (.lst 3 (d.map encPc))), (1, .c (.lst 3 (s.map encPc))), (6, .c (.ptr 0 0)), (11, .c (.row 1)), (40, .c (.lst 1 (plan.map encI))), (41, .c (.int .i64 (plan.map encI).length)), (42, .c (.int .i64 k))], [(0, .box [.int .i64 r.1, .int .i64 r.2]), (1, .row 3 1 ((leftL d s r.1 plan k).map encI))], 2⟩) (fun k (_ : Unit) => planErrs d s k (plan.drop k) = planErrs d s 0 plan) (()) ?_ ?_ ?_
    · conv => whnf
      exact ⟨rfl, rfl⟩
    · intro m _ hm hi
      rw [drop_cons hm, planErrs] at hi
      conv => whnf
      repeat' (first
        | (refine Split.mk (fun h => ?_) (fun h => ?_) <;> (try simp only [decide_eq_true_eq, decide_eq_false_iff_not, Bool.not_eq_true', Bool.not_eq_false', beq_iff_eq, beq_eq_false_iff_ne] at h) <;> (first | (exfalso; first | omega | exact h trivial) | (conv => whnf)))
        | (refine CondG.mk (fun h => ?_) (fun h => ?_) <;> (try simp only [decide_eq_true_eq, decide_eq_false_iff_not, Bool.not_eq_true', Bool.not_eq_false', beq_iff_eq, beq_eq_false_iff_ne] at h) <;> (first | (exfalso; first | omega | exact h trivial) | (conv => whnf)))
        | (refine Ask.mk (by first | omega | (unfold roomOK; simp [cutRows]; done) | (unfold roomOK; simp [cutRows]; omega)) ?_; conv => whnf)
        | (refine SliceG.fr ?_; conv => whnf)
        | fail)
      refine idx_map m hm rfl ?_
      conv => whnf
      repeat' (first
        | (refine Split.mk (fun h => ?_) (fun h => ?_) <;> (try simp only [decide_eq_true_eq, decide_eq_false_iff_not, Bool.not_eq_true', Bool.not_eq_false', beq_iff_eq, beq_eq_false_iff_ne] at h) <;> (first | (exfalso; first | omega | exact h trivial) | (conv => whnf)))
        | (refine CondG.mk (fun h => ?_) (fun h => ?_) <;> (try simp only [decide_eq_true_eq, decide_eq_false_iff_not, Bool.not_eq_true', Bool.not_eq_false', beq_iff_eq, beq_eq_false_iff_ne] at h) <;> (first | (exfalso; first | omega | exact h trivial) | (conv => whnf)))
        | (refine CallX.mk _ _ (by first | exact bOut_pc _ _ _) ?_; conv => whnf)
        | (refine CallG.mk _ _ (by first | exact bOut_pc _ _ _) ?_; conv => whnf)
        | (refine Ask.mk (by first | omega | (unfold roomOK; simp [cutRows]; done) | (unfold roomOK; simp [cutRows]; omega)) ?_; conv => whnf)
        | (refine SliceG.fr ?_; conv => whnf)
        | fail)
      · have hi1 : planErr1 d s m plan[m] = 0 := by rw [planErr1, if_pos h]
        rw [if_pos hi1] at hi
        refine count_next () hm (by rw [wrap_succ hm (by omega), leftL_skip (by simp [hm, h])]; rfl) hi
      · rename_i h0
        rw [wrap_in (by omega) (by omega), hld] at h
        have hi1 : planErr1 d s m plan[m] = 8 := by rw [planErr1, if_neg h0, if_pos h]
        rw [hi1, if_neg (by decide)] at hi
        exact leftR (by rw [hE, ← hi, if_pos (by decide)]) (by decide) rfl
      rename_i h0
      rw [wrap_in (by omega) (by omega), hld] at h
      obtain ⟨j, hj⟩ := Int.eq_ofNat_of_zero_le (show 0 ≤ plan[m] by omega)
      have hjd : j < d.length := by omega
      have hms : m < s.length := by omega
      refine idx_map j hjd hj ?_
      conv => whnf
      refine idx_map m hms rfl ?_
      conv => whnf
      have hk1 : planErr1 d s m plan[m] = if d[j].kind ≠ s[m].kind then 4 else 0 := by
        rw [planErr1, if_neg h0, if_neg h, hj]; simp [hjd, hms]
      repeat' (first
        | (refine Split.mk (fun h => ?_) (fun h => ?_) <;> (try simp only [decide_eq_true_eq, decide_eq_false_iff_not, Bool.not_eq_true', Bool.not_eq_false', beq_iff_eq, beq_eq_false_iff_ne] at h) <;> (first | (exfalso; first | omega | exact h trivial) | (conv => whnf)))
        | (refine CondG.mk (fun h => ?_) (fun h => ?_) <;> (try simp only [decide_eq_true_eq, decide_eq_false_iff_not, Bool.not_eq_true', Bool.not_eq_false', beq_iff_eq, beq_eq_false_iff_ne] at h) <;> (first | (exfalso; first | omega | exact h trivial) | (conv => whnf)))
        | (refine Ask.mk (by first | omega | (unfold roomOK; simp [cutRows]; done) | (unfold roomOK; simp [cutRows]; omega)) ?_; conv => whnf)
        | (refine SliceG.fr ?_; conv => whnf)
        | fail)
      · have h2 : d[j].kind ≠ s[m].kind := fun e => h (by rw [e])
        rw [if_pos h2] at hk1
        rw [hk1, if_neg (by decide)] at hi
        exact leftR (by rw [hE, ← hi, if_pos (by decide)]) (by decide) rfl
      have h2 : d[j].kind = s[m].kind := toList_inj h
      rw [if_neg (by simpa using h2)] at hk1
      rw [if_pos hk1] at hi
      have hlm := leftL_len d s r.1 plan m
      rw [hj]
      refine .mk (by rw [List.length_map, hlm]; omega) ?_
      conv => whnf
      refine row_map (by rw [hlm]; exact hjd) ?_
      conv => whnf
      refine idx_map m hms rfl ?_
      conv => whnf
      refine .mk (by rw [List.length_map, hlm]; omega) ?_
      conv => whnf
      refine row_map (by rw [hlm]; exact hjd) ?_
      conv => whnf
      have hd1 := d2 _ (List.getElem_mem hjd)
      have hs1 := s2 _ (List.getElem_mem hms)
      have hn := needV_in s2 f3 f4 plan j m (by omega)
      have hg := leftL_get (d := d) (s := s) (lost := r.1) (plan := plan) (m := m) (j := j) (by omega)
      have hgd : d.getD j default = d[j] := by simp [hjd]
      have hgs : s.getD m default = s[m] := by simp [hms]
      refine count_next () hm (by
        rw [wrap_succ hm (by omega), ← leftL_set (k := j) hjd (by simp [hm, hj]) (IntKind.i64.wrap ((leftL d s r.1 plan m)[j]'(by omega) - IntKind.i64.wrap (s[m].long + r.1))) (by rw [hg, hgd, hgs, wrap_in (x := s[m].long + r.1) (by omega) (by omega), wrap_in (by omega) (by omega)]), List.map_set]
        rfl) hi
    · intro _ hi
      rw [List.drop_of_length_le (Nat.le_refl _)] at hi
      conv => whnf
      repeat' (first
        | (refine Split.mk (fun h => ?_) (fun h => ?_) <;> (try simp only [decide_eq_true_eq, decide_eq_false_iff_not, Bool.not_eq_true', Bool.not_eq_false', beq_iff_eq, beq_eq_false_iff_ne] at h) <;> (first | (exfalso; first | omega | exact h trivial) | (conv => whnf)))
        | (refine CondG.mk (fun h => ?_) (fun h => ?_) <;> (try simp only [decide_eq_true_eq, decide_eq_false_iff_not, Bool.not_eq_true', Bool.not_eq_false', beq_iff_eq, beq_eq_false_iff_ne] at h) <;> (first | (exfalso; first | omega | exact h trivial) | (conv => whnf)))
        | (refine CallX.mk _ _ (by first | exact containsFuncI_pc _ _ _ (by rw [leftL_len]; omega) left1_pc) ?_; conv => whnf)
        | (refine CallG.mk _ _ (by first | exact containsFuncI_pc _ _ _ (by rw [leftL_len]; omega) left1_pc) ?_; conv => whnf)
        | (refine Ask.mk (by first | omega | (unfold roomOK; simp [cutRows]; done) | (unfold roomOK; simp [cutRows]; omega)) ?_; conv => whnf)
        | (refine SliceG.fr ?_; conv => whnf)
        | fail)
      · exact leftR (by rw [hE, ← hi, if_neg (by simp [planErrs]), if_pos h]) (by decide) rfl
      · have h0 : leftE d s r plan = 0 := by rw [hE, ← hi, if_neg (by simp [planErrs]), if_neg (by simpa using h)]
        rw [leftV, if_pos h0, h0]
        refine .weak _ (.tup _ _ rfl ?_) rfl (Nat.le_refl _)
        intro i a b ha hb
        match i with
        | 0 => cases ha; cases hb; exact .fro 0 1 _ rfl
        | 1 => cases ha; cases hb; exact .refl _
end Go.Proofs.Ytmpjgbanmdgooaa
