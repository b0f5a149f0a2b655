/- Parts of the proof, in order. -/
import Derived.Test.YtobcplhaabaemaaGreatDoorMPlansMade1

/- Acts in a store, by the abstract walk. -/
namespace Go.Proofs.YtobcplhaabaemaaGreatDoor
set_option linter.unusedVariables false
set_option linter.unusedSimpArgs false
open Abs

structure Ac where
  mo : Int
  kd : Int
  drum : ByteArray
  ty : ByteArray
  of : ByteArray
  long : Int
def encAc (x : Ac) : List V := [.int .i64 x.mo, .int .i64 x.kd, .str x.drum, .str x.ty, .str x.of, .int .i64 x.long]
def momB (n : Int) : Bool := decide (0 ≤ n ∧ n ≤ 345686399999)
set_option maxRecDepth 100000 in
set_option maxHeartbeats 4000000 in
theorem bMoment_pc (n : Int) : PCp 98 [.c (.int .i64 n)] [] (.c (.bool (momB n))) [] := by
  refine fn_sound (mt := mts) tab_fits tab_mixed Tryz.func98 (by rfl) (by kernel_rfl) (by kernel_rfl) Tryz.results98 (Nat.le_of_ble_eq_true (by kernel_rfl)) ?_
  conv => whnf
  repeat' (first | ((first | refine Split.mk (fun h => ?_) (fun h => ?_) | refine CondG.mk (fun h => ?_) (fun h => ?_)) <;> (try simp only [decide_eq_true_eq, decide_eq_false_iff_not, Bool.not_eq_true', Bool.not_eq_false', beq_iff_eq, beq_eq_false_iff_ne] at h) <;> (first | (exfalso; first | omega | exact h trivial) | (conv => whnf))) | (refine CallX.mk _ _ (by first | exact bOut_pc _ _ _) ?_; conv => whnf) | (refine CallG.mk _ _ (by first | exact bOut_pc _ _ _) ?_; conv => whnf) | (refine Ask.mk (by first | omega | (unfold roomOK; simp [cutRows]; done) | (unfold roomOK; simp [cutRows]; omega)) ?_; conv => whnf) | (refine AppG.mk (by first | omega | (unfold roomOK; simp [cutRows]; done) | (unfold roomOK; simp [cutRows]; omega)) ?_; conv => whnf) | (refine SliceG.fr ?_; conv => whnf) | fail)
  exact finb (by unfold momB; rw [Bool.eq_iff_iff]; simp; try omega)
def actErr (x : Ac) : Int :=
  if !momB x.mo then 1 else if x.kd < 1 ∨ 4 < x.kd then 4
  else if !keyB x.drum || (x.kd == 1 && !keyB x.ty) || (x.kd == 3 && !keyB x.of) then 5
  else if x.kd ≠ 4 ∧ (x.long < 1 ∨ 200000 < x.long) then 1
  else if (x.kd ≠ 1 ∧ x.ty.toList ≠ (⟨#[]⟩ : ByteArray).toList) ∨ (x.kd ≠ 3 ∧ x.of.toList ≠ (⟨#[]⟩ : ByteArray).toList) ∨ (x.kd = 4 ∧ x.long ≠ 0) then 3 else 0
set_option maxRecDepth 100000 in
set_option maxHeartbeats 4000000 in
theorem dActFault_pc (x : Ac) : PCp 137 [.agg (encAc x)] [] (.c (.int .i64 (actErr x))) [] := by
  refine fn_sound (mt := mts) tab_fits tab_mixed Tryz.func137 (by rfl) (by kernel_rfl) (by kernel_rfl) Tryz.results137 (Nat.le_of_ble_eq_true (by kernel_rfl)) ?_
  conv => whnf
  repeat' (first | ((first | refine Split.mk (fun h => ?_) (fun h => ?_) | refine CondG.mk (fun h => ?_) (fun h => ?_)) <;> (try simp only [decide_eq_true_eq, decide_eq_false_iff_not, Bool.not_eq_true', Bool.not_eq_false', beq_iff_eq, beq_eq_false_iff_ne] at h) <;> (first | (exfalso; first | omega | exact h trivial) | (conv => whnf))) | (refine CallX.mk _ _ (by first | exact bMoment_pc _ | exact bOut_pc _ _ _ | exact bKey_pc _) ?_; conv => whnf) | (refine CallG.mk _ _ (by first | exact bMoment_pc _ | exact bOut_pc _ _ _ | exact bKey_pc _) ?_; conv => whnf) | (refine Ask.mk (by first | omega | (unfold roomOK; simp [cutRows]; done) | (unfold roomOK; simp [cutRows]; omega)) ?_; conv => whnf) | (refine AppG.mk (by first | omega | (unfold roomOK; simp [cutRows]; done) | (unfold roomOK; simp [cutRows]; omega)) ?_; conv => whnf) | (refine SliceG.fr ?_; conv => whnf) | fail)
  all_goals refine fini ?_
  all_goals unfold actErr
  all_goals generalize (⟨#[]⟩ : ByteArray).toList = nl at *
  all_goals simp_all
  all_goals omega
def cmpI (a b : Int) : Int := if a < b then -1 else if b < a then 1 else 0
set_option maxRecDepth 100000 in
set_option maxHeartbeats 4000000 in
theorem isNaNI_pc (a : Int) : PCp 75 [.c (.int .i64 a)] [] (.c (.bool false)) [] := by
  refine fn_sound (mt := mts) tab_fits tab_mixed Tryz.func75 (by rfl) (by kernel_rfl) (by kernel_rfl) Tryz.results75 (Nat.le_of_ble_eq_true (by kernel_rfl)) ?_
  conv => whnf
  exact finb (by simp)
set_option maxRecDepth 100000 in
set_option maxHeartbeats 4000000 in
theorem cmpI_pc (a b : Int) : PCp 53 [.c (.int .i64 a), .c (.int .i64 b)] [] (.c (.int .i64 (cmpI a b))) [] := by
  refine fn_sound (mt := mts) tab_fits tab_mixed Tryz.func53 (by rfl) (by kernel_rfl) (by kernel_rfl) Tryz.results53 (Nat.le_of_ble_eq_true (by kernel_rfl)) ?_
  conv => whnf
  repeat' (first | ((first | refine Split.mk (fun h => ?_) (fun h => ?_) | refine CondG.mk (fun h => ?_) (fun h => ?_)) <;> (try simp only [decide_eq_true_eq, decide_eq_false_iff_not, Bool.not_eq_true', Bool.not_eq_false', beq_iff_eq, beq_eq_false_iff_ne] at h) <;> (first | (exfalso; first | omega | exact h trivial) | (conv => whnf))) | (refine CallX.mk _ _ (by first | exact isNaNI_pc _) ?_; conv => whnf) | (refine CallG.mk _ _ (by first | exact isNaNI_pc _) ?_; conv => whnf) | (refine Ask.mk (by first | omega | (unfold roomOK; simp [cutRows]; done) | (unfold roomOK; simp [cutRows]; omega)) ?_; conv => whnf) | (refine AppG.mk (by first | omega | (unfold roomOK; simp [cutRows]; done) | (unfold roomOK; simp [cutRows]; omega)) ?_; conv => whnf) | (refine SliceG.fr ?_; conv => whnf) | fail)
  all_goals exact fini (by simp_all [cmpI] <;> omega)
set_option maxRecDepth 100000 in
set_option maxHeartbeats 4000000 in
theorem orI_pc (l : List Int) (hl : l.length ≤ 1000000) : PCp 52 [.c (.lst 1 (l.map encI))] [] (.c (.int .i64 (firstErr l))) [] := by
  have hlm : (l.map encI).length = l.length := List.length_map ..
  refine fn_sound (mt := mts) tab_fits tab_mixed Tryz.func52 (by rfl) (by kernel_rfl) (by kernel_rfl) Tryz.results52 (Nat.le_of_ble_eq_true (by kernel_rfl)) ?_
  conv => whnf
  refine loop_count (l.length) [] [3, 6, 7, 8] (fun k (_ : Unit) => ⟨[(3, .c (.int .i64 0)), (6, .c (.lst 1 (l.map encI))), (7, .c (.int .i64 (l.map encI).length)), (8, .c (.int .i64 k))], [], 0⟩) (fun k (_ : Unit) => firstErr (l.drop k) = firstErr l) (()) ?_ ?_ ?_
  · conv => whnf
    exact ⟨rfl, rfl⟩
  · intro k _ hk hi
    rw [drop_cons hk, firstErr] at hi
    conv => whnf
    repeat' (first | ((first | refine Split.mk (fun h => ?_) (fun h => ?_) | refine CondG.mk (fun h => ?_) (fun h => ?_)) <;> (try simp only [decide_eq_true_eq, decide_eq_false_iff_not, Bool.not_eq_true', Bool.not_eq_false', beq_iff_eq, beq_eq_false_iff_ne] at h) <;> (first | (exfalso; first | omega | exact h trivial) | (conv => whnf))) | (refine Ask.mk (by first | omega | (unfold roomOK; simp [cutRows]; done) | (unfold roomOK; simp [cutRows]; omega)) ?_; conv => whnf) | (refine AppG.mk (by first | omega | (unfold roomOK; simp [cutRows]; done) | (unfold roomOK; simp [cutRows]; omega)) ?_; conv => whnf) | (refine SliceG.fr ?_; conv => whnf) | fail)
    refine idx_map k hk rfl ?_
    conv => whnf
    repeat' (first | ((first | refine Split.mk (fun h => ?_) (fun h => ?_) | refine CondG.mk (fun h => ?_) (fun h => ?_)) <;> (try simp only [decide_eq_true_eq, decide_eq_false_iff_not, Bool.not_eq_true', Bool.not_eq_false', beq_iff_eq, beq_eq_false_iff_ne] at h) <;> (first | (exfalso; first | omega | exact h trivial) | (conv => whnf))) | (refine Ask.mk (by first | omega | (unfold roomOK; simp [cutRows]; done) | (unfold roomOK; simp [cutRows]; omega)) ?_; conv => whnf) | (refine AppG.mk (by first | omega | (unfold roomOK; simp [cutRows]; done) | (unfold roomOK; simp [cutRows]; omega)) ?_; conv => whnf) | (refine SliceG.fr ?_; conv => whnf) | fail)
    · exact fini (by rw [← hi, if_neg (by simpa using h)])
    · refine count_next () hk (by rw [wrap_succ hk (by omega)]; rfl) ?_
      rw [← hi, if_pos (by simpa using h)]
  · intro _ hi
    rw [List.drop_of_length_le (Nat.le_refl _)] at hi
    conv => whnf
    repeat' (first | ((first | refine Split.mk (fun h => ?_) (fun h => ?_) | refine CondG.mk (fun h => ?_) (fun h => ?_)) <;> (try simp only [decide_eq_true_eq, decide_eq_false_iff_not, Bool.not_eq_true', Bool.not_eq_false', beq_iff_eq, beq_eq_false_iff_ne] at h) <;> (first | (exfalso; first | omega | exact h trivial) | (conv => whnf))) | (refine Ask.mk (by first | omega | (unfold roomOK; simp [cutRows]; done) | (unfold roomOK; simp [cutRows]; omega)) ?_; conv => whnf) | (refine AppG.mk (by first | omega | (unfold roomOK; simp [cutRows]; done) | (unfold roomOK; simp [cutRows]; omega)) ?_; conv => whnf) | (refine SliceG.fr ?_; conv => whnf) | fail)
    exact fini (by rw [← hi]; rfl)
def timeC (a b : Ac) : Int := firstErr [cmpI a.mo b.mo, cmpS a.drum b.drum, cmpI a.kd b.kd, cmpS a.ty b.ty, cmpS a.of b.of, cmpI a.long b.long]
set_option maxRecDepth 100000 in
set_option maxHeartbeats 4000000 in
theorem byTime_pc (a b : Ac) : PCp 138 [.agg (encAc a), .agg (encAc b)] [] (.c (.int .i64 (timeC a b))) [] := by
  refine fn_sound (mt := mts) tab_fits tab_mixed Tryz.func138 (by rfl) (by kernel_rfl) (by kernel_rfl) Tryz.results138 (Nat.le_of_ble_eq_true (by kernel_rfl)) ?_
  conv => whnf
  repeat' (first | ((first | refine Split.mk (fun h => ?_) (fun h => ?_) | refine CondG.mk (fun h => ?_) (fun h => ?_)) <;> (try simp only [decide_eq_true_eq, decide_eq_false_iff_not, Bool.not_eq_true', Bool.not_eq_false', beq_iff_eq, beq_eq_false_iff_ne] at h) <;> (first | (exfalso; first | omega | exact h trivial) | (conv => whnf))) | (refine CallX.mk _ _ (by first | exact cmpI_pc _ _ | exact sCompare_pc _ _ | exact orI_pc [cmpI a.mo b.mo, cmpS a.drum b.drum, cmpI a.kd b.kd, cmpS a.ty b.ty, cmpS a.of b.of, cmpI a.long b.long] (by simp)) ?_; conv => whnf) | (refine CallG.mk _ _ (by first | exact cmpI_pc _ _ | exact sCompare_pc _ _ | exact orI_pc [cmpI a.mo b.mo, cmpS a.drum b.drum, cmpI a.kd b.kd, cmpS a.ty b.ty, cmpS a.of b.of, cmpI a.long b.long] (by simp)) ?_; conv => whnf) | (refine Ask.mk (by first | omega | (unfold roomOK; simp [cutRows]; done) | (unfold roomOK; simp [cutRows]; omega)) ?_; conv => whnf) | (refine AppG.mk (by first | omega | (unfold roomOK; simp [cutRows]; done) | (unfold roomOK; simp [cutRows]; omega)) ?_; conv => whnf) | (refine SliceG.fr ?_; conv => whnf) | fail)
  exact fini rfl
def badPrev (p : Option Ac) (x : Ac) : Bool := match p with | none => false | some y => decide (timeC x y ≤ 0)
def actsErr : Option Ac → List Ac → Int
  | _, [] => 0
  | p, x :: r => if actErr x ≠ 0 then actErr x else if badPrev p x = true then 7 else actsErr (some x) r
def prevAt (l : List Ac) (k : Nat) : Option Ac := if k = 0 then none else l[k - 1]?
def actsFault (l : List Ac) : Int := if 2000 < l.length then 2 else actsErr none l
set_option maxRecDepth 100000 in
set_option maxHeartbeats 4000000 in
theorem checkActs_pc (l : List Ac) : PCp 97 [.c (.lst 6 (l.map encAc))] [] (.c (.int .i64 (actsFault l))) [] := by
  have hlm : (l.map encAc).length = l.length := List.length_map ..
  refine fn_sound (mt := mts) tab_fits tab_mixed Tryz.func97 (by rfl) (by kernel_rfl) (by kernel_rfl) Tryz.results97 (Nat.le_of_ble_eq_true (by kernel_rfl)) ?_
  conv => whnf
  repeat' (first | ((first | refine Split.mk (fun h => ?_) (fun h => ?_) | refine CondG.mk (fun h => ?_) (fun h => ?_)) <;> (try simp only [decide_eq_true_eq, decide_eq_false_iff_not, Bool.not_eq_true', Bool.not_eq_false', beq_iff_eq, beq_eq_false_iff_ne] at h) <;> (first | (exfalso; first | omega | exact h trivial) | (conv => whnf))) | (refine Ask.mk (by first | omega | (unfold roomOK; simp [cutRows]; done) | (unfold roomOK; simp [cutRows]; omega)) ?_; conv => whnf) | (refine AppG.mk (by first | omega | (unfold roomOK; simp [cutRows]; done) | (unfold roomOK; simp [cutRows]; omega)) ?_; conv => whnf) | (refine SliceG.fr ?_; conv => whnf) | fail)
  · exact fini (by rw [actsFault, if_pos (by omega)])
  have hF : actsFault l = actsErr none l := by rw [actsFault, if_neg (by omega)]
  refine loop_count (l.length) [] [0, 9, 10, 11] (fun k (_ : Unit) => ⟨[(0, .c (.lst 6 (l.map encAc))), (9, .c (.lst 6 (l.map encAc))), (10, .c (.int .i64 (l.map encAc).length)), (11, .c (.int .i64 k))], [], 0⟩) (fun k (_ : Unit) => actsErr (prevAt l k) (l.drop k) = actsErr none l) (()) ?_ ?_ ?_
  · conv => whnf
    exact ⟨rfl, rfl⟩
  · intro k _ hk hi
    rw [drop_cons hk, actsErr] at hi
    have hp1 : prevAt l (k + 1) = some l[k] := by simp [prevAt, hk]
    conv => whnf
    repeat' (first | ((first | refine Split.mk (fun h => ?_) (fun h => ?_) | refine CondG.mk (fun h => ?_) (fun h => ?_)) <;> (try simp only [decide_eq_true_eq, decide_eq_false_iff_not, Bool.not_eq_true', Bool.not_eq_false', beq_iff_eq, beq_eq_false_iff_ne] at h) <;> (first | (exfalso; first | omega | exact h trivial) | (conv => whnf))) | (refine Ask.mk (by first | omega | (unfold roomOK; simp [cutRows]; done) | (unfold roomOK; simp [cutRows]; omega)) ?_; conv => whnf) | (refine AppG.mk (by first | omega | (unfold roomOK; simp [cutRows]; done) | (unfold roomOK; simp [cutRows]; omega)) ?_; conv => whnf) | (refine SliceG.fr ?_; conv => whnf) | fail)
    refine idx_map k hk rfl ?_
    conv => whnf
    repeat' (first | ((first | refine Split.mk (fun h => ?_) (fun h => ?_) | refine CondG.mk (fun h => ?_) (fun h => ?_)) <;> (try simp only [decide_eq_true_eq, decide_eq_false_iff_not, Bool.not_eq_true', Bool.not_eq_false', beq_iff_eq, beq_eq_false_iff_ne] at h) <;> (first | (exfalso; first | omega | exact h trivial) | (conv => whnf))) | (refine CallX.mk _ _ (by first | exact dActFault_pc _) ?_; conv => whnf) | (refine CallG.mk _ _ (by first | exact dActFault_pc _) ?_; conv => whnf) | (refine Ask.mk (by first | omega | (unfold roomOK; simp [cutRows]; done) | (unfold roomOK; simp [cutRows]; omega)) ?_; conv => whnf) | (refine AppG.mk (by first | omega | (unfold roomOK; simp [cutRows]; done) | (unfold roomOK; simp [cutRows]; omega)) ?_; conv => whnf) | (refine SliceG.fr ?_; conv => whnf) | fail)
    · have h' : actErr l[k] ≠ 0 := by simpa using h
      rw [if_pos h'] at hi
      exact fini (by rw [hF, ← hi])
    · rename_i h0
      have h' : ¬ actErr l[k] ≠ 0 := by simpa using h0
      rw [if_neg h'] at hi
      have hk1 : IntKind.i64.wrap ((k : Int) - 1) = ((k - 1 : Nat) : Int) := by rw [wrap_in (by omega) (by omega)]; omega
      have hp : prevAt l k = some (l[k - 1]'(by omega)) := by rw [prevAt, if_neg (by omega)]; exact List.getElem?_eq_getElem (by omega)
      rw [hp] at hi
      refine idx_map (k - 1) (by omega) hk1 ?_
      conv => whnf
      repeat' (first | ((first | refine Split.mk (fun h => ?_) (fun h => ?_) | refine CondG.mk (fun h => ?_) (fun h => ?_)) <;> (try simp only [decide_eq_true_eq, decide_eq_false_iff_not, Bool.not_eq_true', Bool.not_eq_false', beq_iff_eq, beq_eq_false_iff_ne] at h) <;> (first | (exfalso; first | omega | exact h trivial) | (conv => whnf))) | (refine CallX.mk _ _ (by first | exact byTime_pc _ _) ?_; conv => whnf) | (refine CallG.mk _ _ (by first | exact byTime_pc _ _) ?_; conv => whnf) | (refine Ask.mk (by first | omega | (unfold roomOK; simp [cutRows]; done) | (unfold roomOK; simp [cutRows]; omega)) ?_; conv => whnf) | (refine AppG.mk (by first | omega | (unfold roomOK; simp [cutRows]; done) | (unfold roomOK; simp [cutRows]; omega)) ?_; conv => whnf) | (refine SliceG.fr ?_; conv => whnf) | fail)
      · skip
        rw [if_pos (by simpa [badPrev] using h)] at hi
        exact fini (by rw [hF, ← hi])
      · skip
        rw [if_neg (by simpa [badPrev] using h)] at hi
        refine count_next () hk (by rw [wrap_succ hk (by omega)]; rfl) ?_
        rw [hp1]; exact hi
    · have h' : ¬ actErr l[k] ≠ 0 := by simp_all
      have h0 : k = 0 := by omega
      subst h0
      rw [if_neg h', if_neg (by simp [badPrev, prevAt])] at hi
      refine count_next () hk (by rw [wrap_succ hk (by omega)]; rfl) ?_
      rw [hp1]; exact hi
  · intro _ hi
    rw [List.drop_of_length_le (Nat.le_refl _)] at hi
    conv => whnf
    repeat' (first | ((first | refine Split.mk (fun h => ?_) (fun h => ?_) | refine CondG.mk (fun h => ?_) (fun h => ?_)) <;> (try simp only [decide_eq_true_eq, decide_eq_false_iff_not, Bool.not_eq_true', Bool.not_eq_false', beq_iff_eq, beq_eq_false_iff_ne] at h) <;> (first | (exfalso; first | omega | exact h trivial) | (conv => whnf))) | (refine Ask.mk (by first | omega | (unfold roomOK; simp [cutRows]; done) | (unfold roomOK; simp [cutRows]; omega)) ?_; conv => whnf) | (refine AppG.mk (by first | omega | (unfold roomOK; simp [cutRows]; done) | (unfold roomOK; simp [cutRows]; omega)) ?_; conv => whnf) | (refine SliceG.fr ?_; conv => whnf) | fail)
    exact fini (by rw [hF, ← hi]; rfl)

end Go.Proofs.YtobcplhaabaemaaGreatDoor

/- A store with one drum, by the abstract walk. -/
namespace Go.Proofs.YtobcplhaabaemaaGreatDoor
set_option linter.unusedVariables false
set_option linter.unusedSimpArgs false
open Abs

/-- a first drum comes -/
abbrev stBox : Ob := .box [.mp 1, .mp 2]
set_option maxRecDepth 100000 in
set_option maxHeartbeats 4000000 in
theorem take1_pc (x : Ac) (hk : x.kd = 1) : PCp 139 [.c (.ptr 0 0), .agg (encAc x)] [stBox, .map 0 [], .map 0 []] (.tup [.c (.str x.ty), .c (.int .i64 0)]) [stBox, .map 1 [(0, .c (.str x.drum), .agg [.str x.ty, .int .i64 x.long])], .map 1 [(0, .c (.str x.drum), .c (.str x.ty))]] := by
  refine fn_sound (mt := mts) tab_fits tab_mixed Tryz.func139 (by rfl) (by kernel_rfl) (by kernel_rfl) Tryz.results139 (Nat.le_of_ble_eq_true (by kernel_rfl)) ?_
  conv => whnf
  repeat (refine .mk _ _ (.inr ⟨rfl, rfl, rfl⟩) ?_; conv => whnf)
  repeat' (first | ((first | refine Split.mk (fun h => ?_) (fun h => ?_) | refine CondG.mk (fun h => ?_) (fun h => ?_)) <;> (try simp only [decide_eq_true_eq, decide_eq_false_iff_not, Bool.not_eq_true', Bool.not_eq_false', beq_iff_eq, beq_eq_false_iff_ne] at h) <;> (first | (exfalso; first | omega | exact h trivial) | (conv => whnf))) | (refine Ask.mk (by first | omega | (unfold roomOK; simp [cutRows]; done) | (unfold roomOK; simp [cutRows]; omega)) ?_; conv => whnf) | (refine AppG.mk (by first | omega | (unfold roomOK; simp [cutRows]; done) | (unfold roomOK; simp [cutRows]; omega)) ?_; conv => whnf) | (refine SliceG.fr ?_; conv => whnf) | fail)
  · cases h
  refine .mk _ _ _ _ (.inr ⟨rfl, rfl, rfl, rfl, rfl⟩) ?_
  conv => whnf
  refine .mk 0 0 _ _ ⟨rfl, rfl, by intro i hi; omega⟩ ?_
  conv => whnf
  refine .mk _ _ _ _ (.inr ⟨rfl, rfl, rfl, rfl, rfl⟩) ?_
  conv => whnf
  refine .mk 0 0 _ _ ⟨rfl, rfl, by intro i hi; omega⟩ ?_
  conv => whnf
  exact .mk ⟨rfl, rfl⟩
/-- a store with one drum -/
abbrev stOne (x : Ac) : List Ob := [stBox, .map 1 [(0, .c (.str x.drum), .agg [.str x.ty, .int .i64 x.long])], .map 1 [(0, .c (.str x.drum), .c (.str x.ty))]]
set_option maxRecDepth 100000 in
set_option maxHeartbeats 4000000 in
theorem at1_pc (x : Ac) (a b : Int) (s : ByteArray) : PCp 100 [.c (.ptr 0 0), .c (.int .i64 a), .c (.str s), .c (.int .i64 b)] (stOne x) (.tup []) (stOne x) := by
  refine fn_sound (mt := mts) tab_fits tab_mixed Tryz.func100 (by rfl) (by kernel_rfl) (by kernel_rfl) Tryz.results100 (Nat.le_of_ble_eq_true (by kernel_rfl)) ?_
  conv => whnf
  exact .mk ⟨rfl, rfl⟩
set_option maxRecDepth 100000 in
set_option maxHeartbeats 4000000 in
theorem follow1_pc (x : Ac) (hk : x.kd = 1) : PCp 99 [.c (.lst 6 [encAc x]), .c (.fn 100 [])] [] (.c (.ptr 0 0)) (stOne x) := by
  refine fn_sound (mt := mts) tab_fits tab_mixed Tryz.func99 (by rfl) (by kernel_rfl) (by kernel_rfl) Tryz.results99 (Nat.le_of_ble_eq_true (by kernel_rfl)) ?_
  conv => whnf
  refine .un 2 ?_
  conv => whnf
  repeat' (first | ((first | refine Split.mk (fun h => ?_) (fun h => ?_) | refine CondG.mk (fun h => ?_) (fun h => ?_)) <;> (try simp only [decide_eq_true_eq, decide_eq_false_iff_not, Bool.not_eq_true', Bool.not_eq_false', beq_iff_eq, beq_eq_false_iff_ne] at h) <;> (first | (exfalso; first | omega | exact h trivial) | (conv => whnf))) | (refine Ask.mk (by first | omega | (unfold roomOK; simp [cutRows]; done) | (unfold roomOK; simp [cutRows]; omega)) ?_; conv => whnf) | (refine AppG.mk (by first | omega | (unfold roomOK; simp [cutRows]; done) | (unfold roomOK; simp [cutRows]; omega)) ?_; conv => whnf) | (refine SliceG.fr ?_; conv => whnf) | fail)
  rotate_left
  · exact absurd h (by simp)
  refine .mk (encAc x) ⟨by simp, rfl⟩ ?_
  conv => whnf
  repeat' (first | ((first | refine Split.mk (fun h => ?_) (fun h => ?_) | refine CondG.mk (fun h => ?_) (fun h => ?_)) <;> (try simp only [decide_eq_true_eq, decide_eq_false_iff_not, Bool.not_eq_true', Bool.not_eq_false', beq_iff_eq, beq_eq_false_iff_ne] at h) <;> (first | (exfalso; first | omega | exact h trivial) | (conv => whnf))) | (refine CallX.mk _ _ (by first | exact take1_pc x hk | exact at1_pc x _ _ _) ?_; conv => whnf) | (refine CallG.mk _ _ (by first | exact take1_pc x hk | exact at1_pc x _ _ _) ?_; conv => whnf) | (refine Ask.mk (by first | omega | (unfold roomOK; simp [cutRows]; done) | (unfold roomOK; simp [cutRows]; omega)) ?_; conv => whnf) | (refine AppG.mk (by first | omega | (unfold roomOK; simp [cutRows]; done) | (unfold roomOK; simp [cutRows]; omega)) ?_; conv => whnf) | (refine SliceG.fr ?_; conv => whnf) | fail)
  · exact absurd h (by show ¬ ((1 : Int) < 1); decide)
  · exact .mk ⟨rfl, rfl⟩
set_option maxRecDepth 100000 in
set_option maxHeartbeats 4000000 in
theorem at_pc (x : Ac) (hk : x.kd = 1) (hx : actErr x = 0) (m : Int) (hm : x.mo ≤ m) (hmm : momB m = true) : PCp 69 [.c (.lst 6 [encAc x]), .c (.int .i64 m)] [] (.tup [.c (.ptr 0 0), .c (.int .i64 0)]) (stOne x) := by
  have hc : actsFault [x] = 0 := by simp [actsFault, actsErr, hx, badPrev]
  refine fn_sound (mt := mts) tab_fits tab_mixed Tryz.func69 (by rfl) (by kernel_rfl) (by kernel_rfl) Tryz.results69 (Nat.le_of_ble_eq_true (by kernel_rfl)) ?_
  conv => whnf
  repeat' (first | ((first | refine Split.mk (fun h => ?_) (fun h => ?_) | refine CondG.mk (fun h => ?_) (fun h => ?_)) <;> (try simp only [decide_eq_true_eq, decide_eq_false_iff_not, Bool.not_eq_true', Bool.not_eq_false', beq_iff_eq, beq_eq_false_iff_ne] at h) <;> (first | (exfalso; first | omega | exact h trivial) | (conv => whnf))) | (refine CallX.mk _ _ (by first | exact checkActs_pc [x] | exact bMoment_pc _) ?_; conv => whnf) | (refine CallG.mk _ _ (by first | exact checkActs_pc [x] | exact bMoment_pc _) ?_; conv => whnf) | (refine Ask.mk (by first | omega | (unfold roomOK; simp [cutRows]; done) | (unfold roomOK; simp [cutRows]; omega)) ?_; conv => whnf) | (refine AppG.mk (by first | omega | (unfold roomOK; simp [cutRows]; done) | (unfold roomOK; simp [cutRows]; omega)) ?_; conv => whnf) | (refine SliceG.fr ?_; conv => whnf) | fail)
  · rw [hc] at h; cases h
  · rw [hmm] at h; cases h
  refine .un 1 ?_
  conv => whnf
  repeat' (first | ((first | refine Split.mk (fun h => ?_) (fun h => ?_) | refine CondG.mk (fun h => ?_) (fun h => ?_)) <;> (try simp only [decide_eq_true_eq, decide_eq_false_iff_not, Bool.not_eq_true', Bool.not_eq_false', beq_iff_eq, beq_eq_false_iff_ne] at h) <;> (first | (exfalso; first | omega | exact h trivial) | (conv => whnf))) | (refine Ask.mk (by first | omega | (unfold roomOK; simp [cutRows]; done) | (unfold roomOK; simp [cutRows]; omega)) ?_; conv => whnf) | (refine AppG.mk (by first | omega | (unfold roomOK; simp [cutRows]; done) | (unfold roomOK; simp [cutRows]; omega)) ?_; conv => whnf) | (refine SliceG.fr ?_; conv => whnf) | fail)
  · refine .mk (encAc x) ⟨by show (0 : Int) ≤ 0; decide, rfl⟩ ?_
    conv => whnf
    repeat' (first | ((first | refine Split.mk (fun h => ?_) (fun h => ?_) | refine CondG.mk (fun h => ?_) (fun h => ?_)) <;> (try simp only [decide_eq_true_eq, decide_eq_false_iff_not, Bool.not_eq_true', Bool.not_eq_false', beq_iff_eq, beq_eq_false_iff_ne] at h) <;> (first | (exfalso; first | omega | exact h trivial) | (conv => whnf))) | (refine CallX.mk _ _ (by first | exact follow1_pc x hk) ?_; conv => whnf) | (refine CallG.mk _ _ (by first | exact follow1_pc x hk) ?_; conv => whnf) | (refine Ask.mk (by first | omega | (unfold roomOK; simp [cutRows]; done) | (unfold roomOK; simp [cutRows]; omega)) ?_; conv => whnf) | (refine AppG.mk (by first | omega | (unfold roomOK; simp [cutRows]; done) | (unfold roomOK; simp [cutRows]; omega)) ?_; conv => whnf) | (refine SliceG.fr ?_; conv => whnf) | fail)
    exact .mk ⟨rfl, rfl⟩
  · exact absurd (by simp) h

end Go.Proofs.YtobcplhaabaemaaGreatDoor

/- A list of one drum is sorted. -/
namespace Go.Proofs.YtobcplhaabaemaaGreatDoor
set_option linter.unusedVariables false
set_option linter.unusedSimpArgs false
open Abs

set_option maxRecDepth 100000 in
set_option maxHeartbeats 4000000 in
theorem len64_pc : PCp 93 [.c (.int .u64 1)] [] (.c (.int .i64 1)) [] := by
  refine fn_sound (mt := mts) tab_fits tab_mixed Tryz.func93 (by rfl) (by kernel_rfl) (by kernel_rfl) Tryz.results93 (Nat.le_of_ble_eq_true (by kernel_rfl)) ?_
  conv => whnf
  repeat' (first | ((first | refine Split.mk (fun h => ?_) (fun h => ?_) | refine CondG.mk (fun h => ?_) (fun h => ?_)) <;> (try simp only [decide_eq_true_eq, decide_eq_false_iff_not, Bool.not_eq_true', Bool.not_eq_false', beq_iff_eq, beq_eq_false_iff_ne] at h) <;> (first | (exfalso; first | omega | exact h trivial) | (conv => whnf))) | (refine Ask.mk (by first | omega | (unfold roomOK; simp [cutRows]; done) | (unfold roomOK; simp [cutRows]; omega)) ?_; conv => whnf) | (refine AppG.mk (by first | omega | (unfold roomOK; simp [cutRows]; done) | (unfold roomOK; simp [cutRows]; omega)) ?_; conv => whnf) | (refine SliceG.fr ?_; conv => whnf) | fail)
  all_goals first | (exfalso; revert h; decide) | skip
  refine .mk (by decide +kernel) ?_
  conv => whnf
  exact fini (by decide +kernel)
set_option maxRecDepth 100000 in
set_option maxHeartbeats 4000000 in
theorem len_pc : PCp 63 [.c (.int .u64 1)] [] (.c (.int .i64 1)) [] := by
  refine fn_sound (mt := mts) tab_fits tab_mixed Tryz.func63 (by rfl) (by kernel_rfl) (by kernel_rfl) Tryz.results63 (Nat.le_of_ble_eq_true (by kernel_rfl)) ?_
  conv => whnf
  repeat' (first | ((first | refine Split.mk (fun h => ?_) (fun h => ?_) | refine CondG.mk (fun h => ?_) (fun h => ?_)) <;> (try simp only [decide_eq_true_eq, decide_eq_false_iff_not, Bool.not_eq_true', Bool.not_eq_false', beq_iff_eq, beq_eq_false_iff_ne] at h) <;> (first | (exfalso; first | omega | exact h trivial) | (conv => whnf))) | (refine CallX.mk _ _ (by first | exact len64_pc) ?_; conv => whnf) | (refine CallG.mk _ _ (by first | exact len64_pc) ?_; conv => whnf) | (refine Ask.mk (by first | omega | (unfold roomOK; simp [cutRows]; done) | (unfold roomOK; simp [cutRows]; omega)) ?_; conv => whnf) | (refine AppG.mk (by first | omega | (unfold roomOK; simp [cutRows]; done) | (unfold roomOK; simp [cutRows]; omega)) ?_; conv => whnf) | (refine SliceG.fr ?_; conv => whnf) | fail)
  exact fini rfl
set_option maxRecDepth 100000 in
set_option maxHeartbeats 4000000 in
theorem ins1_pc (r : List V) (g : Nat) : PCp 140 [.c (.row 0), .c (.int .i64 0), .c (.int .i64 1), .c (.fn g [])] [.row 57 3 [r]] (.tup []) [.row 57 3 [r]] := by
  refine fn_sound (mt := mts) tab_fits tab_mixed Tryz.func140 (by rfl) (by kernel_rfl) (by kernel_rfl) Tryz.results140 (Nat.le_of_ble_eq_true (by kernel_rfl)) ?_
  conv => whnf
  refine .un 1 ?_
  conv => whnf
  repeat' (first | ((first | refine Split.mk (fun h => ?_) (fun h => ?_) | refine CondG.mk (fun h => ?_) (fun h => ?_)) <;> (try simp only [decide_eq_true_eq, decide_eq_false_iff_not, Bool.not_eq_true', Bool.not_eq_false', beq_iff_eq, beq_eq_false_iff_ne] at h) <;> (first | (exfalso; first | omega | exact h trivial) | (conv => whnf))) | (refine Ask.mk (by first | omega | (unfold roomOK; simp [cutRows]; done) | (unfold roomOK; simp [cutRows]; omega)) ?_; conv => whnf) | (refine AppG.mk (by first | omega | (unfold roomOK; simp [cutRows]; done) | (unfold roomOK; simp [cutRows]; omega)) ?_; conv => whnf) | (refine SliceG.fr ?_; conv => whnf) | fail)
  all_goals first | exact .mk ⟨rfl, rfl⟩ | (exfalso; revert h; decide)
set_option maxRecDepth 100000 in
set_option maxHeartbeats 4000000 in
theorem pdq1_pc (r : List V) (g : Nat) : PCp 101 [.c (.row 0), .c (.int .i64 0), .c (.int .i64 1), .c (.int .i64 1), .c (.fn g [])] [.row 57 3 [r]] (.tup []) [.row 57 3 [r]] := by
  refine fn_sound (mt := mts) tab_fits tab_mixed Tryz.func101 (by rfl) (by kernel_rfl) (by kernel_rfl) Tryz.results101 (Nat.le_of_ble_eq_true (by kernel_rfl)) ?_
  conv => whnf
  refine .un 1 ?_
  conv => whnf
  repeat' (first | ((first | refine Split.mk (fun h => ?_) (fun h => ?_) | refine CondG.mk (fun h => ?_) (fun h => ?_)) <;> (try simp only [decide_eq_true_eq, decide_eq_false_iff_not, Bool.not_eq_true', Bool.not_eq_false', beq_iff_eq, beq_eq_false_iff_ne] at h) <;> (first | (exfalso; first | omega | exact h trivial) | (conv => whnf))) | (refine CallX.mk _ _ (by first | exact ins1_pc _ _) ?_; conv => whnf) | (refine CallG.mk _ _ (by first | exact ins1_pc _ _) ?_; conv => whnf) | (refine Ask.mk (by first | omega | (unfold roomOK; simp [cutRows]; done) | (unfold roomOK; simp [cutRows]; omega)) ?_; conv => whnf) | (refine AppG.mk (by first | omega | (unfold roomOK; simp [cutRows]; done) | (unfold roomOK; simp [cutRows]; omega)) ?_; conv => whnf) | (refine SliceG.fr ?_; conv => whnf) | fail)
  all_goals first | exact .mk ⟨rfl, rfl⟩ | (exfalso; revert h; decide) | (exfalso; rename_i h2; revert h2; decide)
set_option maxRecDepth 100000 in
set_option maxHeartbeats 4000000 in
theorem sort1_pc (r : List V) (g : Nat) : PCp 70 [.c (.row 0), .c (.fn g [])] [.row 57 3 [r]] (.tup []) [.row 57 3 [r]] := by
  refine fn_sound (mt := mts) tab_fits tab_mixed Tryz.func70 (by rfl) (by kernel_rfl) (by kernel_rfl) Tryz.results70 (Nat.le_of_ble_eq_true (by kernel_rfl)) ?_
  conv => whnf
  repeat' (first | ((first | refine Split.mk (fun h => ?_) (fun h => ?_) | refine CondG.mk (fun h => ?_) (fun h => ?_)) <;> (try simp only [decide_eq_true_eq, decide_eq_false_iff_not, Bool.not_eq_true', Bool.not_eq_false', beq_iff_eq, beq_eq_false_iff_ne] at h) <;> (first | (exfalso; first | omega | exact h trivial) | (conv => whnf))) | (refine CallX.mk _ _ (by first | exact len_pc | exact pdq1_pc _ _) ?_; conv => whnf) | (refine CallG.mk _ _ (by first | exact len_pc | exact pdq1_pc _ _) ?_; conv => whnf) | (refine Ask.mk (by first | omega | (unfold roomOK; simp [cutRows]; done) | (unfold roomOK; simp [cutRows]; omega)) ?_; conv => whnf) | (refine AppG.mk (by first | omega | (unfold roomOK; simp [cutRows]; done) | (unfold roomOK; simp [cutRows]; omega)) ?_; conv => whnf) | (refine SliceG.fr ?_; conv => whnf) | fail)
  exact .mk ⟨rfl, rfl⟩
set_option maxRecDepth 100000 in
set_option maxHeartbeats 4000000 in
theorem stock_pc (x : Ac) (hk : x.kd = 1) (hx : actErr x = 0) (m : Int) (hm : x.mo ≤ m) (hmm : momB m = true) : PCp 42 [.c (.lst 6 [encAc x]), .c (.int .i64 m)] [] (.tup [.c (.row 0), .c (.int .i64 0)]) [.row 57 3 [[.str x.drum, .str x.ty, .int .i64 x.long]]] := by
  refine fn_sound (mt := mts) tab_fits tab_mixed Tryz.func42 (by rfl) (by kernel_rfl) (by kernel_rfl) Tryz.results42 (Nat.le_of_ble_eq_true (by kernel_rfl)) ?_
  conv => whnf
  repeat' (first | ((first | refine Split.mk (fun h => ?_) (fun h => ?_) | refine CondG.mk (fun h => ?_) (fun h => ?_)) <;> (try simp only [decide_eq_true_eq, decide_eq_false_iff_not, Bool.not_eq_true', Bool.not_eq_false', beq_iff_eq, beq_eq_false_iff_ne] at h) <;> (first | (exfalso; first | omega | exact h trivial) | (conv => whnf))) | (refine CallX.mk _ _ (by first | exact at_pc x hk hx m hm hmm) ?_; conv => whnf) | (refine CallG.mk _ _ (by first | exact at_pc x hk hx m hm hmm) ?_; conv => whnf) | (refine Ask.mk (by first | omega | (unfold roomOK; simp [cutRows]; done) | (unfold roomOK; simp [cutRows]; omega)) ?_; conv => whnf) | (refine AppG.mk (by first | omega | (unfold roomOK; simp [cutRows]; done) | (unfold roomOK; simp [cutRows]; omega)) ?_; conv => whnf) | (refine SliceG.fr ?_; conv => whnf) | fail)
  · cases h
  refine .un 2 ?_
  conv => whnf
  refine .mk rfl ?_
  conv => whnf
  refine .mk (α := Nat × S × S) (fun e => e) [(0, .c (.str x.drum), .agg [.str x.ty, .int .i64 x.long])] rfl (by intro h; cases h) ?_
  intro e he
  simp only [List.mem_singleton] at he
  subst he
  conv => whnf
  repeat' (first | ((first | refine Split.mk (fun h => ?_) (fun h => ?_) | refine CondG.mk (fun h => ?_) (fun h => ?_)) <;> (try simp only [decide_eq_true_eq, decide_eq_false_iff_not, Bool.not_eq_true', Bool.not_eq_false', beq_iff_eq, beq_eq_false_iff_ne] at h) <;> (first | (exfalso; first | omega | exact h trivial) | (conv => whnf))) | (refine Ask.mk (by first | omega | (unfold roomOK; simp [cutRows]; done) | (unfold roomOK; simp [cutRows]; omega)) ?_; conv => whnf) | (refine AppG.mk (by first | omega | (unfold roomOK; simp [cutRows]; done) | (unfold roomOK; simp [cutRows]; omega)) ?_; conv => whnf) | (refine SliceG.fr ?_; conv => whnf) | fail)
  refine .mk _ _ rfl ?_
  conv => whnf
  repeat' (first | ((first | refine Split.mk (fun h => ?_) (fun h => ?_) | refine CondG.mk (fun h => ?_) (fun h => ?_)) <;> (try simp only [decide_eq_true_eq, decide_eq_false_iff_not, Bool.not_eq_true', Bool.not_eq_false', beq_iff_eq, beq_eq_false_iff_ne] at h) <;> (first | (exfalso; first | omega | exact h trivial) | (conv => whnf))) | (refine Ask.mk (by first | omega | (unfold roomOK; simp [cutRows]; done) | (unfold roomOK; simp [cutRows]; omega)) ?_; conv => whnf) | (refine AppG.mk (by first | omega | (unfold roomOK; simp [cutRows]; done) | (unfold roomOK; simp [cutRows]; omega)) ?_; conv => whnf) | (refine SliceG.fr ?_; conv => whnf) | fail)
  refine .mk (α := Nat × S × S) (fun e => e) [] rfl (fun _ => ?_) (by intro e he; cases he)
  conv => whnf
  repeat' (first | ((first | refine Split.mk (fun h => ?_) (fun h => ?_) | refine CondG.mk (fun h => ?_) (fun h => ?_)) <;> (try simp only [decide_eq_true_eq, decide_eq_false_iff_not, Bool.not_eq_true', Bool.not_eq_false', beq_iff_eq, beq_eq_false_iff_ne] at h) <;> (first | (exfalso; first | omega | exact h trivial) | (conv => whnf))) | (refine CallX.mk _ _ (by first | exact sort1_pc _ _) ?_; conv => whnf) | (refine CallG.mk _ _ (by first | exact sort1_pc _ _) ?_; conv => whnf) | (refine Ask.mk (by first | omega | (unfold roomOK; simp [cutRows]; done) | (unfold roomOK; simp [cutRows]; omega)) ?_; conv => whnf) | (refine AppG.mk (by first | omega | (unfold roomOK; simp [cutRows]; done) | (unfold roomOK; simp [cutRows]; omega)) ?_; conv => whnf) | (refine SliceG.fr ?_; conv => whnf) | fail)
  exact .mk ⟨rfl, rfl⟩
end Go.Proofs.YtobcplhaabaemaaGreatDoor

/- The law PlansWeighed, by the abstract walk. -/
namespace Go.Proofs.YtobcplhaabaemaaGreatDoor
set_option linter.unusedVariables false
set_option linter.unusedSimpArgs false
open Abs

set_option maxRecDepth 100000 in
set_option maxHeartbeats 4000000 in
theorem stored_pc : PCp 18 [] [] (.c (.bool true)) [] := by
  refine fn_sound (mt := mts) tab_fits tab_mixed Tryz.func18 (by rfl) (by kernel_rfl) (by kernel_rfl) Tryz.results18 (Nat.le_of_ble_eq_true (by kernel_rfl)) ?_
  conv => whnf
  refine .mk _ _ (stock_pc ⟨1, 1, ⟨#[100]⟩, ⟨#[116]⟩, ⟨#[]⟩, 5⟩ rfl (by decide +kernel) 1 (by decide) (by decide)) ?_
  conv => whnf
  repeat' (first | ((first | refine Split.mk (fun h => ?_) (fun h => ?_) | refine CondG.mk (fun h => ?_) (fun h => ?_)) <;> (try simp only [decide_eq_true_eq, decide_eq_false_iff_not, Bool.not_eq_true', Bool.not_eq_false', beq_iff_eq, beq_eq_false_iff_ne] at h) <;> (first | (exfalso; first | omega | exact h trivial) | (conv => whnf))) | (refine Ask.mk (by first | omega | (unfold roomOK; simp [cutRows]; done) | (unfold roomOK; simp [cutRows]; omega)) ?_; conv => whnf) | (refine AppG.mk (by first | omega | (unfold roomOK; simp [cutRows]; done) | (unfold roomOK; simp [cutRows]; omega)) ?_; conv => whnf) | (refine SliceG.fr ?_; conv => whnf) | fail)
  refine .mk (by simp) ?_
  conv => whnf
  refine .mk _ rfl ?_
  conv => whnf
  repeat' (first | ((first | refine Split.mk (fun h => ?_) (fun h => ?_) | refine CondG.mk (fun h => ?_) (fun h => ?_)) <;> (try simp only [decide_eq_true_eq, decide_eq_false_iff_not, Bool.not_eq_true', Bool.not_eq_false', beq_iff_eq, beq_eq_false_iff_ne] at h) <;> (first | (exfalso; first | omega | exact h trivial) | (conv => whnf))) | (refine Ask.mk (by first | omega | (unfold roomOK; simp [cutRows]; done) | (unfold roomOK; simp [cutRows]; omega)) ?_; conv => whnf) | (refine AppG.mk (by first | omega | (unfold roomOK; simp [cutRows]; done) | (unfold roomOK; simp [cutRows]; omega)) ?_; conv => whnf) | (refine SliceG.fr ?_; conv => whnf) | fail)
  · exact finb rfl
  · exact absurd rfl h

theorem drumsV_in (L : List Int) (p most : Int) (h0 : 0 ≤ most) : p ≤ (drumsV L p most).2 ∧ (drumsV L p most).2 ≤ p + 2 * most + 6 ∧ ((drumsV L p most).1.length : Int) ≤ most := by
  have hr := rangeV_in L p 0 most h0
  have hs := pcIter_snd L (p + 1) ⟨#[100]⟩ dLongs (rangeV L p 0 most).toNat
  have hl := pcIter_len L (p + 1) ⟨#[100]⟩ dLongs (rangeV L p 0 most).toNat
  unfold drumsV
  simp only
  generalize pcIter L (p + 1) ⟨#[100]⟩ dLongs (rangeV L p 0 most).toNat = A at *
  split
  · split
    · simp only [dSpoil, List.length_set]; omega
    · simp only; omega
  · omega
theorem sectsV_in (L : List Int) (p most : Int) (h0 : 0 ≤ most) : p ≤ (sectsV L p most).2 ∧ (sectsV L p most).2 ≤ p + 2 * most + 6 ∧ ((sectsV L p most).1.length : Int) ≤ most := by
  have hr := rangeV_in L p 0 most h0
  have hs := pcIter_snd L (p + 1) ⟨#[115]⟩ sLongs (rangeV L p 0 most).toNat
  have hl := pcIter_len L (p + 1) ⟨#[115]⟩ sLongs (rangeV L p 0 most).toNat
  unfold sectsV
  simp only
  generalize pcIter L (p + 1) ⟨#[115]⟩ sLongs (rangeV L p 0 most).toNat = A at *
  split
  · split
    · simp only [sSpoil, List.length_set]; omega
    · simp only; omega
  · omega
theorem cutV_in (L : List Int) (p : Int) : p ≤ (cutV L p).2 ∧ (cutV L p).2 ≤ p + 6 := by
  unfold cutV
  split <;> simp only <;> omega
end Go.Proofs.YtobcplhaabaemaaGreatDoor

/- Lists of acts are sorted. -/
namespace Go.Proofs.YtobcplhaabaemaaGreatDoor
set_option linter.unusedVariables false
set_option linter.unusedSimpArgs false
open Abs

/-! the length of a small number -/
theorem wrapU64 (n : Nat) (h : n ≤ 1000000) : IntKind.u64.wrap (n : Int) = n := IntWalk.u64_in _ ⟨by omega, by omega⟩
set_option maxRecDepth 100000 in
set_option maxHeartbeats 4000000 in
theorem bLen64_ex (n : Nat) (h : n ≤ 100) : ∃ v : Int, PCp 93 [.c (.int .u64 n)] [] (.c (.int .i64 v)) [] := by
  apply Exists.intro
  refine fn_sound (mt := mts) tab_fits tab_mixed Tryz.func93 (by rfl) (by kernel_rfl) (by kernel_rfl) Tryz.results93 (Nat.le_of_ble_eq_true (by kernel_rfl)) ?_
  conv => whnf
  repeat' (first | ((first | refine Split.mk (fun h => ?_) (fun h => ?_) | refine CondG.mk (fun h => ?_) (fun h => ?_)) <;> (try simp only [decide_eq_true_eq, decide_eq_false_iff_not, Bool.not_eq_true', Bool.not_eq_false', beq_iff_eq, beq_eq_false_iff_ne] at h) <;> (first | (exfalso; first | omega | exact h trivial) | (conv => whnf))) | (refine Ask.mk (by first | omega | (unfold roomOK; simp [cutRows]; done) | (unfold roomOK; simp [cutRows]; omega)) ?_; conv => whnf) | (refine AppG.mk (by first | omega | (unfold roomOK; simp [cutRows]; done) | (unfold roomOK; simp [cutRows]; omega)) ?_; conv => whnf) | (refine SliceG.fr ?_; conv => whnf) | fail)
  rw [IntWalk.u8_in _ ⟨by omega, by omega⟩]
  refine .mk ⟨by omega, Int.lt_of_lt_of_le (show (n : Int) < 101 by omega) (by decide +kernel)⟩ ?_
  conv => whnf
  exact .mk ⟨rfl, rfl⟩
set_option maxRecDepth 100000 in
set_option maxHeartbeats 4000000 in
theorem bLen_ex (n : Nat) (h : n ≤ 100) : ∃ v : Int, PCp 63 [.c (.int .u64 n)] [] (.c (.int .i64 v)) [] := by
  obtain ⟨v, hv⟩ := bLen64_ex n h
  refine ⟨v, ?_⟩
  refine fn_sound (mt := mts) tab_fits tab_mixed Tryz.func63 (by rfl) (by kernel_rfl) (by kernel_rfl) Tryz.results63 (Nat.le_of_ble_eq_true (by kernel_rfl)) ?_
  conv => whnf
  repeat' (first | ((first | refine Split.mk (fun h => ?_) (fun h => ?_) | refine CondG.mk (fun h => ?_) (fun h => ?_)) <;> (try simp only [decide_eq_true_eq, decide_eq_false_iff_not, Bool.not_eq_true', Bool.not_eq_false', beq_iff_eq, beq_eq_false_iff_ne] at h) <;> (first | (exfalso; first | omega | exact h trivial) | (conv => whnf))) | (refine CallX.mk _ _ (by first | exact hv) ?_; conv => whnf) | (refine CallG.mk _ _ (by first | exact hv) ?_; conv => whnf) | (refine Ask.mk (by first | omega | (unfold roomOK; simp [cutRows]; done) | (unfold roomOK; simp [cutRows]; omega)) ?_; conv => whnf) | (refine AppG.mk (by first | omega | (unfold roomOK; simp [cutRows]; done) | (unfold roomOK; simp [cutRows]; omega)) ?_; conv => whnf) | (refine SliceG.fr ?_; conv => whnf) | fail)
  exact fini rfl
deriving instance DecidableEq for Ac
end Go.Proofs.YtobcplhaabaemaaGreatDoor

/- The plan by the rule of thumb. -/
namespace Go.Proofs.YtobcplhaabaemaaGreatDoor
set_option linter.unusedVariables false
set_option linter.unusedSimpArgs false
open Abs

abbrev encFin {n : Nat} (x : Fin n) : List V := [.int .i64 ((x.val : Nat) : Int)]
abbrev encN (x : Nat) : List V := [.int .i64 (x : Int)]
theorem finR_val (n : Nat) : (List.finRange n).map (fun x : Fin n => x.val) = List.range n := by
  apply List.ext_getElem
  · simp
  · intro i h1 h2; simp
def firstCmp (s : List Pc) (x y : Fin s.length) : Int := firstErr [cmpI s[y].long s[x].long, cmpS s[x].key s[y].key]
set_option maxRecDepth 100000 in
set_option maxHeartbeats 4000000 in
theorem firstC_pc (s : List Pc) (x y : Fin s.length) : PCp 51 [.c (.int .i64 ((x.val : Nat) : Int)), .c (.int .i64 ((y.val : Nat) : Int)), .c (.ptr 0 0)] [.box [.lst 3 (s.map encPc)]] (.c (.int .i64 (firstCmp s x y))) [.box [.lst 3 (s.map encPc)]] := by
  have hx := x.isLt
  have hy := y.isLt
  have hsm : (s.map encPc).length = s.length := List.length_map ..
  have e : firstCmp s x y = firstErr [cmpI s[y.val].long s[x.val].long, cmpS s[x.val].key s[y.val].key] := rfl
  rw [e]
  generalize x.val = a at *
  generalize y.val = b at *
  refine fn_sound (mt := mts) tab_fits tab_mixed Tryz.func51 (by rfl) (by kernel_rfl) (by kernel_rfl) Tryz.results51 (Nat.le_of_ble_eq_true (by kernel_rfl)) ?_
  conv => whnf
  repeat' (first | ((first | refine Split.mk (fun h => ?_) (fun h => ?_) | refine CondG.mk (fun h => ?_) (fun h => ?_)) <;> (try simp only [decide_eq_true_eq, decide_eq_false_iff_not, Bool.not_eq_true', Bool.not_eq_false', beq_iff_eq, beq_eq_false_iff_ne, bne_iff_ne, bne_eq_false_iff_eq] at h) <;> (first | (exfalso; first | omega | exact h trivial) | (conv => whnf))) | (refine CallX.mk _ _ (by first | exact cmpI_pc _ _ | exact sCompare_pc _ _ | exact orI_pc [cmpI s[b].long s[a].long, cmpS s[a].key s[b].key] (by simp)) ?_; conv => whnf) | (refine CallG.mk _ _ (by first | exact cmpI_pc _ _ | exact sCompare_pc _ _ | exact orI_pc [cmpI s[b].long s[a].long, cmpS s[a].key s[b].key] (by simp)) ?_; conv => whnf) | (refine Ask.mk (by first | omega | (unfold roomOK; simp [cutRows]; done) | (unfold roomOK; simp [cutRows]; omega) | (simp [cutRows]; done) | (simp [cutRows]; omega)) ?_; conv => whnf) | (refine AppG.mk (by first | omega | (unfold roomOK; simp [cutRows]; done) | (unfold roomOK; simp [cutRows]; omega) | (simp [cutRows]; done) | (simp [cutRows]; omega)) ?_; conv => whnf) | (refine SliceG.fr ?_; conv => whnf) | (refine idx_at _ (by with_reducible rfl) (by first | assumption | omega) ?_; conv => whnf) | ((with_reducible refine row_map (by first | assumption | omega) ?_); conv => whnf) | ((with_reducible refine row_set (by first | assumption | omega | (simp only [List.length_set]; omega) | (simp; omega)) ?_); conv => whnf) | ((refine idx_map a hx rfl ?_); conv => whnf) | ((refine idx_map b hy rfl ?_); conv => whnf) | fail)
  all_goals exact .mk ⟨rfl, rfl⟩
set_option maxRecDepth 100000 in
set_option maxHeartbeats 4000000 in
theorem insFi_pc (s : List Pc) (g : Nat) (c : (Fin s.length) → (Fin s.length) → Int) (hg : ∀ x y : (Fin s.length), PCp g [.c (.int .i64 ((x.val : Nat) : Int)), .c (.int .i64 ((y.val : Nat) : Int)), .c (.ptr 0 0)] [.box [.lst 3 (s.map encPc)]] (.c (.int .i64 (c x y))) [.box [.lst 3 (s.map encPc)]]) (a b : Nat) (l : List (Fin s.length)) (ha : a ≤ l.length) (hb : b ≤ l.length) (hl : l.length ≤ 1000000000) :
    PCp 79 [.c (.row 0), .c (.int .i64 a), .c (.int .i64 b), .c (.fn g [.ptr 1 0])] [.row 3 1 (l.map encFin), .box [.lst 3 (s.map encPc)]] (.tup []) [.row 3 1 ((insTo c a (b - (a + 1)) l).map encFin), .box [.lst 3 (s.map encPc)]] := by
  have hw : IntKind.i64.wrap ((a : Int) + 1) = ((a + 1 : Nat) : Int) := by rw [wrap_in (by omega) (by omega)]; rfl
  refine fn_sound (mt := mts) tab_fits tab_mixed Tryz.func79 (by rfl) (by kernel_rfl) (by kernel_rfl) Tryz.results79 (Nat.le_of_ble_eq_true (by kernel_rfl)) ?_
  conv => whnf
  rw [hw]
  refine loop_count (b - (a + 1)) [] [0, 1, 2, 3, 8] (fun k (_ : Unit) => ⟨[(0, .c (.row 0)), (1, .c (.int .i64 a)), (2, .c (.int .i64 b)), (3, .c (.fn g [.ptr 1 0])), (8, .c (.int .i64 ((a + 1 + k : Nat) : Int)))], [(0, .row 3 1 ((insTo c a k l).map encFin)), (1, .box [.lst 3 (s.map encPc)])], 2⟩) (fun k (_ : Unit) => True) (()) ?_ ?_ ?_
  · conv => whnf
    exact ⟨rfl, trivial⟩
  · intro k _ hk _
    have hlen := insTo_len c a k l
    conv => whnf
    refine .mk (fun h => ?_) (fun h => ?_)
    rotate_left
    · simp at h; omega
    conv => whnf
    refine loop_meas2 (fun (j : Nat) (q : List (Fin s.length)) => j) [] [0, 1, 2, 3, 8, 9] (fun (j : Nat) (q : List (Fin s.length)) => ⟨[(0, .c (.row 0)), (1, .c (.int .i64 a)), (2, .c (.int .i64 b)), (3, .c (.fn g [.ptr 1 0])), (8, .c (.int .i64 ((a + 1 + k : Nat) : Int))), (9, .c (.int .i64 ((j : Nat) : Int)))], [(0, .row 3 1 (q.map encFin)), (1, .box [.lst 3 (s.map encPc)])], 2⟩) (fun (j : Nat) (q : List (Fin s.length)) => insDown c a j q = insTo c a (k + 1) l ∧ j < l.length ∧ q.length = l.length) (a + 1 + k) (insTo c a k l) ?_ ?_
    · conv => whnf
      exact ⟨rfl, rfl, by omega, by omega⟩
    · intro j q ⟨h1, h2, h3⟩
      conv => whnf
      repeat' (first | ((first | refine Split.mk (fun h => ?_) (fun h => ?_) | refine CondG.mk (fun h => ?_) (fun h => ?_)) <;> (try simp only [decide_eq_true_eq, decide_eq_false_iff_not, Bool.not_eq_true', Bool.not_eq_false', beq_iff_eq, beq_eq_false_iff_ne] at h) <;> (first | (exfalso; first | omega | exact h trivial) | (conv => whnf))) | (refine Ask.mk (by first | omega | (unfold roomOK; simp [cutRows]; done) | (unfold roomOK; simp [cutRows]; omega)) ?_; conv => whnf) | (refine AppG.mk (by first | omega | (unfold roomOK; simp [cutRows]; done) | (unfold roomOK; simp [cutRows]; omega)) ?_; conv => whnf) | (refine SliceG.fr ?_; conv => whnf) | fail)
      · -- one more to the left?
        obtain ⟨i, rfl⟩ : ∃ i, j = i + 1 := ⟨j - 1, by omega⟩
        have hw2 : IntKind.i64.wrap (((i + 1 : Nat) : Int) - 1) = ((i : Nat) : Int) := by rw [wrap_in (by omega) (by omega)]; omega
        refine .mk (by rw [List.length_map]; omega) ?_
        conv => whnf
        refine row_at (i + 1) toN (by omega) ?_
        conv => whnf
        rw [hw2]
        refine .mk (by rw [List.length_map]; omega) ?_
        conv => whnf
        refine row_at i toN (by omega) ?_
        conv => whnf
        repeat' (first | ((first | refine Split.mk (fun h => ?_) (fun h => ?_) | refine CondG.mk (fun h => ?_) (fun h => ?_)) <;> (try simp only [decide_eq_true_eq, decide_eq_false_iff_not, Bool.not_eq_true', Bool.not_eq_false', beq_iff_eq, beq_eq_false_iff_ne] at h) <;> (first | (exfalso; first | omega | exact h trivial) | (conv => whnf))) | (refine CallX.mk _ _ (by first | exact hg _ _) ?_; conv => whnf) | (refine CallG.mk _ _ (by first | exact hg _ _) ?_; conv => whnf) | (refine Ask.mk (by first | omega | (unfold roomOK; simp [cutRows]; done) | (unfold roomOK; simp [cutRows]; omega)) ?_; conv => whnf) | (refine AppG.mk (by first | omega | (unfold roomOK; simp [cutRows]; done) | (unfold roomOK; simp [cutRows]; omega)) ?_; conv => whnf) | (refine SliceG.fr ?_; conv => whnf) | fail)
        · rw [insDown_step (by omega) (by omega) h] at h1
          repeat' (first | ((first | refine Split.mk (fun h => ?_) (fun h => ?_) | refine CondG.mk (fun h => ?_) (fun h => ?_)) <;> (try simp only [decide_eq_true_eq, decide_eq_false_iff_not, Bool.not_eq_true', Bool.not_eq_false', beq_iff_eq, beq_eq_false_iff_ne] at h) <;> (first | (exfalso; first | omega | exact h trivial) | (conv => whnf))) | (refine Ask.mk (by first | omega | (unfold roomOK; simp [cutRows]; done) | (unfold roomOK; simp [cutRows]; omega)) ?_; conv => whnf) | (refine AppG.mk (by first | omega | (unfold roomOK; simp [cutRows]; done) | (unfold roomOK; simp [cutRows]; omega)) ?_; conv => whnf) | (refine SliceG.fr ?_; conv => whnf) | fail)
          rw [hw2]
          refine .mk (by rw [List.length_map]; omega) ?_
          conv => whnf
          refine row_at i toN (by omega) ?_
          conv => whnf
          refine .mk (by rw [List.length_map]; omega) ?_
          conv => whnf
          refine row_at (i + 1) toN (by omega) ?_
          conv => whnf
          refine .mk (by rw [List.length_map]; omega) ?_
          conv => whnf
          refine row_at (i + 1) toN (by omega) ?_
          conv => whnf
          refine .mk (by rw [List.length_set, List.length_map]; omega) ?_
          conv => whnf
          refine .mk (encFin (q[i]'(by omega))) (by rw [toN, toN, List.getElem?_set_ne (by omega)]; simp [show i < q.length by omega]) ?_
          conv => whnf
          refine meas_next (i, (q.set (i + 1) (q[i]'(by omega))).set i (q[i + 1]'(by omega))) (by simp only; omega) (by rw [toN, toN, hw2]; simp only [List.map_set]; rfl) ⟨h1, by simp only; omega, by simp [h3]⟩
        · rw [insDown_stop (by omega) h] at h1
          conv => whnf
          refine count_next () hk (by rw [h1, show IntKind.i64.wrap (((a + 1 + k : Nat) : Int) + 1) = ((a + 1 + (k + 1) : Nat) : Int) by rw [wrap_in (by omega) (by omega)]; omega]; rfl) trivial
      · rw [insDown_low (by omega)] at h1
        refine count_next () hk (by rw [h1, show IntKind.i64.wrap (((a + 1 + k : Nat) : Int) + 1) = ((a + 1 + (k + 1) : Nat) : Int) by rw [wrap_in (by omega) (by omega)]; omega]; rfl) trivial
  · intro _ _
    have hlen := insTo_len c a (b - (a + 1)) l
    conv => whnf
    repeat' (first | ((first | refine Split.mk (fun h => ?_) (fun h => ?_) | refine CondG.mk (fun h => ?_) (fun h => ?_)) <;> (try simp only [decide_eq_true_eq, decide_eq_false_iff_not, Bool.not_eq_true', Bool.not_eq_false', beq_iff_eq, beq_eq_false_iff_ne] at h) <;> (first | (exfalso; first | omega | exact h trivial) | (conv => whnf))) | (refine Ask.mk (by first | omega | (unfold roomOK; simp [cutRows]; done) | (unfold roomOK; simp [cutRows]; omega)) ?_; conv => whnf) | (refine AppG.mk (by first | omega | (unfold roomOK; simp [cutRows]; done) | (unfold roomOK; simp [cutRows]; omega)) ?_; conv => whnf) | (refine SliceG.fr ?_; conv => whnf) | fail)
    exact .mk ⟨rfl, rfl⟩
set_option maxRecDepth 100000 in
set_option maxHeartbeats 4000000 in
theorem pdqFi_pc (s : List Pc) (g : Nat) (c : (Fin s.length) → (Fin s.length) → Int) (hg : ∀ x y : (Fin s.length), PCp g [.c (.int .i64 ((x.val : Nat) : Int)), .c (.int .i64 ((y.val : Nat) : Int)), .c (.ptr 0 0)] [.box [.lst 3 (s.map encPc)]] (.c (.int .i64 (c x y))) [.box [.lst 3 (s.map encPc)]]) (l : List (Fin s.length)) (hl : l.length ≤ 12) :
    PCp 50 [.c (.row 0), .c (.fn g [.ptr 1 0])] [.row 3 1 (l.map encFin), .box [.lst 3 (s.map encPc)]] (.tup []) [.row 3 1 ((insSort c l).map encFin), .box [.lst 3 (s.map encPc)]] := by
  have hlm : (l.map encFin).length = l.length := List.length_map ..
  have hst : ∀ lim : Int, PCp 74 [.c (.row 0), .c (.int .i64 0), .c (.int .i64 l.length), .c (.int .i64 lim), .c (.fn g [.ptr 1 0])] [.row 3 1 (l.map encFin), .box [.lst 3 (s.map encPc)]] (.tup []) [.row 3 1 ((insSort c l).map encFin), .box [.lst 3 (s.map encPc)]] := by
    intro lim
    have hw : IntKind.i64.wrap ((l.length : Int) - 0) = l.length := by rw [wrap_in (by omega) (by omega)]; omega
    refine fn_sound (mt := mts) tab_fits tab_mixed Tryz.func74 (by rfl) (by kernel_rfl) (by kernel_rfl) Tryz.results74 (Nat.le_of_ble_eq_true (by kernel_rfl)) ?_
    conv => whnf
    refine .un 1 ?_
    conv => whnf
    rw [hw]
    repeat' (first | ((first | refine Split.mk (fun h => ?_) (fun h => ?_) | refine CondG.mk (fun h => ?_) (fun h => ?_)) <;> (try simp only [decide_eq_true_eq, decide_eq_false_iff_not, Bool.not_eq_true', Bool.not_eq_false', beq_iff_eq, beq_eq_false_iff_ne] at h) <;> (first | (exfalso; first | omega | exact h trivial) | (conv => whnf))) | (refine Ask.mk (by first | omega | (unfold roomOK; simp [cutRows]; done) | (unfold roomOK; simp [cutRows]; omega)) ?_; conv => whnf) | (refine AppG.mk (by first | omega | (unfold roomOK; simp [cutRows]; done) | (unfold roomOK; simp [cutRows]; omega)) ?_; conv => whnf) | (refine SliceG.fr ?_; conv => whnf) | fail)
    refine .mk _ _ (insFi_pc s g c hg 0 l.length l (Nat.zero_le _) (Nat.le_refl _) (by omega)) ?_
    conv => whnf
    exact .mk ⟨rfl, rfl⟩
  refine fn_sound (mt := mts) tab_fits tab_mixed Tryz.func50 (by rfl) (by kernel_rfl) (by kernel_rfl) Tryz.results50 (Nat.le_of_ble_eq_true (by kernel_rfl)) ?_
  conv => whnf
  rw [hlm, wrapU64 l.length (by omega)]
  obtain ⟨lim, hlim⟩ := bLen_ex l.length (by omega)
  repeat' (first | ((first | refine Split.mk (fun h => ?_) (fun h => ?_) | refine CondG.mk (fun h => ?_) (fun h => ?_)) <;> (try simp only [decide_eq_true_eq, decide_eq_false_iff_not, Bool.not_eq_true', Bool.not_eq_false', beq_iff_eq, beq_eq_false_iff_ne] at h) <;> (first | (exfalso; first | omega | exact h trivial) | (conv => whnf))) | (refine CallX.mk _ _ (by first | exact hlim | exact hst _) ?_; conv => whnf) | (refine CallG.mk _ _ (by first | exact hlim | exact hst _) ?_; conv => whnf) | (refine Ask.mk (by first | omega | (unfold roomOK; simp [cutRows]; done) | (unfold roomOK; simp [cutRows]; omega)) ?_; conv => whnf) | (refine AppG.mk (by first | omega | (unfold roomOK; simp [cutRows]; done) | (unfold roomOK; simp [cutRows]; omega)) ?_; conv => whnf) | (refine SliceG.fr ?_; conv => whnf) | fail)
  exact .mk ⟨rfl, rfl⟩
/-! what it does, section by section -/
def fstBest (d s : List Pc) (lost : Int) (R : List Int) (i : Nat) : Nat → Int
  | 0 => -1
  | k + 1 => if (d.getD k default).kind = (s.getD i default).kind ∧ (s.getD i default).long + lost ≤ R.getD k 0 ∧ (fstBest d s lost R i k < 0 ∨ R.getD k 0 < R.getD (fstBest d s lost R i k).toNat 0) then (k : Int) else fstBest d s lost R i k
theorem fstBest_in (d s : List Pc) (lost : Int) (R : List Int) (i : Nat) : ∀ k, fstBest d s lost R i k = -1 ∨ ∃ b : Nat, b < k ∧ fstBest d s lost R i k = (b : Int) ∧ (d.getD b default).kind = (s.getD i default).kind ∧ (s.getD i default).long + lost ≤ R.getD b 0
  | 0 => .inl rfl
  | k + 1 => by
    rw [fstBest]
    split
    · rename_i h; exact .inr ⟨k, by omega, rfl, h.1, h.2.1⟩
    · rcases fstBest_in d s lost R i k with h | ⟨b, h1, h2⟩
      · exact .inl h
      · exact .inr ⟨b, by omega, h2⟩
def fstStep (d s : List Pc) (lost : Int) (st : List Int × List Int) (i : Nat) : List Int × List Int :=
  if fstBest d s lost st.2 i d.length < 0 then st
  else (st.1.set i (fstBest d s lost st.2 i d.length), st.2.set (fstBest d s lost st.2 i d.length).toNat (st.2.getD (fstBest d s lost st.2 i d.length).toNat 0 - ((s.getD i default).long + lost)))
def fstOrd (s : List Pc) : List Nat := (insSort (firstCmp s) (List.finRange s.length)).map (·.val)
def fstK (d s : List Pc) (lost : Int) (k : Nat) : List Int × List Int := ((fstOrd s).take k).foldl (fstStep d s lost) (List.replicate s.length (-1), d.map Pc.long)
def fstV (d s : List Pc) (lost : Int) : List Int := (fstK d s lost s.length).1
theorem fstOrd_perm (s : List Pc) : (fstOrd s).Perm (List.range s.length) := by
  have h := (insSort_perm (firstCmp s) (List.finRange s.length)).map (fun x : Fin s.length => x.val)
  refine h.trans ?_
  rw [finR_val]
theorem fstOrd_len (s : List Pc) : (fstOrd s).length = s.length := by rw [(fstOrd_perm s).length_eq, List.length_range]
theorem fstK_succ (d s : List Pc) (lost : Int) {k : Nat} (hk : k < (fstOrd s).length) : fstK d s lost (k + 1) = fstStep d s lost (fstK d s lost k) (fstOrd s)[k] := by
  unfold fstK
  rw [List.take_succ_eq_append_getElem hk, List.foldl_append]
  rfl
structure FstOk (d s : List Pc) (st : List Int × List Int) : Prop where
  l1 : st.1.length = s.length
  l2 : st.2.length = d.length
  b2 : ∀ x ∈ st.2, 0 ≤ x ∧ x ≤ 200000
theorem fst_ok {d s : List Pc} {r : Int × Int} (hc : ∀ x ∈ d, 1 ≤ x.long ∧ x.long ≤ 200000) (hs : ∀ x ∈ s, 1 ≤ x.long ∧ x.long ≤ 200000) (h1 : 0 ≤ r.1) : ∀ k, k ≤ s.length → FstOk d s (fstK d s r.1 k)
  | 0, _ => ⟨by simp [fstK], by simp [fstK], fun x hx => by
      obtain ⟨y, hy, rfl⟩ := List.mem_map.1 (show x ∈ d.map Pc.long from hx)
      have := hc y hy; omega⟩
  | k + 1, hk => by
    have ih := fst_ok (r := r) hc hs h1 k (by omega)
    have hkl : k < (fstOrd s).length := by rw [fstOrd_len]; omega
    rw [fstK_succ d s r.1 hkl]
    have hi : (fstOrd s)[k] < s.length := List.mem_range.1 ((fstOrd_perm s).mem_iff.1 (List.getElem_mem hkl))
    generalize (fstOrd s)[k] = i at *
    generalize fstK d s r.1 k = st at *
    unfold fstStep
    rcases fstBest_in d s r.1 st.2 i d.length with h | ⟨b, g1, g2, g3, g4⟩
    · rw [if_pos (by omega)]; exact ih
    · rw [if_neg (by omega), g2, Int.toNat_natCast]
      refine ⟨by simp [ih.l1], by simp [ih.l2], fun x hx => ?_⟩
      rcases List.mem_or_eq_of_mem_set hx with h | h
      · exact ih.b2 x h
      · have hbl : b < st.2.length := by rw [ih.l2]; exact g1
        have := ih.b2 _ (List.getElem_mem hbl)
        have e : st.2.getD b 0 = st.2[b] := by simp [List.getD_eq_getElem?_getD, List.getElem?_eq_getElem hbl]
        have e2 : s.getD i default = s[i] := by simp [List.getD_eq_getElem?_getD, List.getElem?_eq_getElem hi]
        have := hs _ (List.getElem_mem hi)
        rw [e] at g4 h; rw [e2] at g4 h
        omega
end Go.Proofs.YtobcplhaabaemaaGreatDoor

/- The plan by the rule of thumb is possible; whole plans (plain). -/
namespace Go.Proofs.YtobcplhaabaemaaGreatDoor
set_option linter.unusedVariables false
set_option linter.unusedSimpArgs false
open Abs

theorem needV_set (s : List Pc) (lost : Int) (O : List Int) (i b j : Nat) (hi : i < O.length) (h : O.getD i (-1) = -1) : ∀ m, needV s lost (O.set i (b : Int)) j m = needV s lost O j m + (if i < m ∧ b = j then (s.getD i default).long + lost else 0)
  | 0 => by simp [needV]
  | m + 1 => by
    have ih := needV_set s lost O i b j hi h m
    rw [needV, needV, ih]
    by_cases e : i = m
    · subst e
      have h1 : (O.set i (b : Int)).getD i (-1) = (b : Int) := by simp [List.getD_eq_getElem?_getD, List.getElem?_set, hi]
      rw [h1, h, if_neg (by omega), if_neg (show ¬ ((-1 : Int) = j) by omega)]
      by_cases e2 : b = j
      · rw [if_pos (by omega), if_pos ⟨by omega, e2⟩] <;> try omega
      · rw [if_neg (by omega), if_neg (by omega)] <;> try omega
    · have h1 : (O.set i (b : Int)).getD m (-1) = O.getD m (-1) := by simp [List.getD_eq_getElem?_getD, List.getElem?_set, e]
      rw [h1]
      have h2 : (i < m + 1 ∧ b = j) ↔ (i < m ∧ b = j) := by omega
      simp only [h2]; omega
structure FstI (d s : List Pc) (lost : Int) (k : Nat) (st : List Int × List Int) : Prop where
  R : ∀ b, b < d.length → st.2.getD b 0 = (d.getD b default).long - needV s lost st.1 b s.length
  pe : ∀ i, i < s.length → planErr1 d s i (st.1.getD i (-1)) = 0
  un : ∀ i, i ∈ (fstOrd s).drop k → st.1.getD i (-1) = -1
theorem needV_none (s : List Pc) (lost : Int) (n b : Nat) : ∀ m, needV s lost (List.replicate n (-1)) b m = 0
  | 0 => rfl
  | m + 1 => by
    rw [needV, needV_none s lost n b m]
    have : (List.replicate n (-1 : Int)).getD m (-1) = -1 := by
      rw [List.getD_eq_getElem?_getD, List.getElem?_replicate]; split <;> rfl
    rw [this, if_neg (by omega)]; rfl
theorem fst_inv {d s : List Pc} {r : Int × Int} (hd : ∀ x ∈ d, 1 ≤ x.long ∧ x.long ≤ 200000) (hs : ∀ x ∈ s, 1 ≤ x.long ∧ x.long ≤ 200000) (h1 : 0 ≤ r.1) : ∀ k, k ≤ s.length → FstI d s r.1 k (fstK d s r.1 k)
  | 0, _ => by
    have e : ∀ i, (List.replicate s.length (-1 : Int)).getD i (-1) = -1 := fun i => by
      rw [List.getD_eq_getElem?_getD, List.getElem?_replicate]; split <;> rfl
    refine ⟨fun b hb => ?_, fun i hi => ?_, fun i hi => e i⟩
    · show (d.map Pc.long).getD b 0 = _ - needV s r.1 (List.replicate s.length (-1)) b s.length
      rw [needV_none]
      simp [List.getD_eq_getElem?_getD, List.getElem?_map, List.getElem?_eq_getElem hb]
    · show planErr1 d s i ((List.replicate s.length (-1)).getD i (-1)) = 0
      rw [e, planErr1, if_pos rfl]
  | k + 1, hk => by
    have ih := fst_inv (r := r) hd hs h1 k (by omega)
    have hok := fst_ok (r := r) hd hs h1 k (by omega)
    have hkl : k < (fstOrd s).length := by rw [fstOrd_len]; omega
    rw [fstK_succ d s r.1 hkl]
    have hnd : (fstOrd s).Nodup := (fstOrd_perm s).nodup_iff.2 List.nodup_range
    have hi : (fstOrd s)[k] < s.length := List.mem_range.1 ((fstOrd_perm s).mem_iff.1 (List.getElem_mem hkl))
    have hdr : (fstOrd s).drop k = (fstOrd s)[k] :: (fstOrd s).drop (k + 1) := List.drop_eq_getElem_cons hkl
    have hni : ∀ j ∈ (fstOrd s).drop (k + 1), j ≠ (fstOrd s)[k] := by
      intro j hj e
      have := (List.drop_sublist k (fstOrd s)).nodup hnd
      rw [hdr, List.nodup_cons] at this
      exact this.1 (e ▸ hj)
    have hun := ih.un (fstOrd s)[k] (by rw [hdr]; exact List.mem_cons_self ..)
    have hun2 : ∀ j ∈ (fstOrd s).drop (k + 1), (fstK d s r.1 k).1.getD j (-1) = -1 := fun j hj => ih.un j (by rw [hdr]; exact List.mem_cons_of_mem _ hj)
    have ihR := ih.R
    have ihp := ih.pe
    generalize (fstOrd s)[k] = i at *
    generalize fstK d s r.1 k = st at *
    unfold fstStep
    rcases fstBest_in d s r.1 st.2 i d.length with h | ⟨b, g1, g2, g3, g4⟩
    · rw [if_pos (by omega)]; exact ⟨ihR, ihp, hun2⟩
    · rw [if_neg (by omega), g2, Int.toNat_natCast]
      have hil : i < st.1.length := by rw [hok.l1]; exact hi
      have hbl : b < st.2.length := by rw [hok.l2]; exact g1
      refine ⟨fun j hj => ?_, fun j hj => ?_, fun j hj => ?_⟩
      · simp only
        rw [needV_set s r.1 st.1 i b j hil hun]
        have := ihR j hj
        by_cases e : b = j
        · subst e
          rw [if_pos ⟨hi, rfl⟩]
          have : (st.2.set b (st.2.getD b 0 - ((s.getD i default).long + r.1))).getD b 0 = st.2.getD b 0 - ((s.getD i default).long + r.1) := by
            simp [List.getD_eq_getElem?_getD, List.getElem?_set, hbl]
          rw [this]; omega
        · rw [if_neg (by omega)]
          have : (st.2.set b (st.2.getD b 0 - ((s.getD i default).long + r.1))).getD j 0 = st.2.getD j 0 := by
            simp [List.getD_eq_getElem?_getD, List.getElem?_set, e]
          rw [this]; omega
      · simp only
        by_cases e : i = j
        · subst e
          have : (st.1.set i (b : Int)).getD i (-1) = b := by simp [List.getD_eq_getElem?_getD, List.getElem?_set, hil]
          rw [this, planErr1, if_neg (by omega), if_neg (by omega), Int.toNat_natCast, if_neg (fun h => h g3)]
        · have : (st.1.set i (b : Int)).getD j (-1) = st.1.getD j (-1) := by simp [List.getD_eq_getElem?_getD, List.getElem?_set, e]
          rw [this]; exact ihp j hj
      · simp only
        have : (st.1.set i (b : Int)).getD j (-1) = st.1.getD j (-1) := by simp [List.getD_eq_getElem?_getD, List.getElem?_set, Ne.symm (hni j hj)]
        rw [this]; exact hun2 j hj
theorem fst_left {d s : List Pc} {r : Int × Int} (ha : allErr d s r = 0) : leftE d s r (fstV d s r.1) = 0 := by
  obtain ⟨f1, f2, f3, f4, f5, f6⟩ := allErr_ok ha
  have hI := fst_inv (r := r) (pcFault_ok f1).2 (pcFault_ok f2).2 f3 s.length (Nat.le_refl _)
  have hO := fst_ok (r := r) (pcFault_ok f1).2 (pcFault_ok f2).2 f3 s.length (Nat.le_refl _)
  have hl : (fstV d s r.1).length = s.length := hO.l1
  have hp : planErrs d s 0 (fstV d s r.1) = 0 := by
    rw [planErrs_zero]
    intro j hj
    have := hI.pe j (by rw [← hl]; exact hj)
    rw [Nat.zero_add]
    have e : (fstV d s r.1).getD j 0 = (fstV d s r.1).getD j (-1) := by simp [List.getD_eq_getElem?_getD, List.getElem?_eq_getElem hj]
    rw [e]; exact this
  have hn : (leftL d s r.1 (fstV d s r.1) (fstV d s r.1).length).any (fun x => decide (x < 0)) = false := by
    rw [any_neg, leftL_len]
    intro k hk
    have h1 : k < (leftL d s r.1 (fstV d s r.1) (fstV d s r.1).length).length := by rw [leftL_len]; exact hk
    rw [List.getD_eq_getElem?_getD, List.getElem?_eq_getElem h1, Option.getD_some, leftL_get h1, hl]
    have h2 := hI.R k hk
    have h3 : k < (fstK d s r.1 s.length).2.length := by rw [hO.l2]; exact hk
    have h4 := hO.b2 _ (List.getElem_mem h3)
    have e : (fstK d s r.1 s.length).2.getD k 0 = (fstK d s r.1 s.length).2[k] := by simp [List.getD_eq_getElem?_getD, List.getElem?_eq_getElem h3]
    rw [e] at h2
    show 0 ≤ (d.getD k default).long - needV s r.1 (fstV d s r.1) k s.length
    have : needV s r.1 (fstV d s r.1) k s.length = needV s r.1 (fstK d s r.1 s.length).1 k s.length := rfl
    omega
  unfold leftE
  rw [if_neg (by omega), if_neg (by omega), if_neg (by omega), hn]
  rfl
end Go.Proofs.YtobcplhaabaemaaGreatDoor

/- Lists that are overwritten from the begin. -/
namespace Go.Proofs.YtobcplhaabaemaaGreatDoor
set_option linter.unusedVariables false
set_option linter.unusedSimpArgs false
open Abs

def spK {α : Type} (z : α) (l : List α) (k : Nat) : List α := List.replicate k z ++ l.drop k
theorem spK_len {α : Type} (z : α) (l : List α) (k : Nat) (h : k ≤ l.length) : (spK z l k).length = l.length := by unfold spK; simp; omega
theorem spK_set {α : Type} (z : α) (l : List α) (k : Nat) (h : k < l.length) : (spK z l k).set k z = spK z l (k + 1) := by
  unfold spK
  rw [List.set_append, if_neg (by simp), List.length_replicate, Nat.sub_self, List.drop_eq_getElem_cons h, List.set_cons_zero, List.replicate_succ', List.append_assoc]
  rfl
end Go.Proofs.YtobcplhaabaemaaGreatDoor

/- The plan by the rule of thumb, by the walk. -/
namespace Go.Proofs.YtobcplhaabaemaaGreatDoor
set_option linter.unusedVariables false
set_option linter.unusedSimpArgs false
open Abs

theorem finR_map (n : Nat) : (List.finRange n).map encFin = (List.range n).map encN := by
  rw [← finR_val, List.map_map]; rfl
set_option maxRecDepth 100000 in
set_option maxHeartbeats 4000000 in
theorem dfirst_pc (d s : List Pc) (r : Int × Int) (ha : allErr d s r = 0) (h12 : s.length ≤ 12) :
    PCp 25 [.c (.lst 3 (d.map encPc)), .c (.lst 3 (s.map encPc)), .agg [.int .i64 r.1, .int .i64 r.2]] [] (.c (.row 0)) [.row 3 1 ((fstV d s r.1).map encI)] := by
  obtain ⟨f1, f2, f3, f4, f5, f6⟩ := allErr_ok ha
  obtain ⟨d1, d2⟩ := pcFault_ok f1
  obtain ⟨s1, s2⟩ := pcFault_ok f2
  have hdm : (d.map encPc).length = d.length := List.length_map ..
  have hsm : (s.map encPc).length = s.length := List.length_map ..
  have hz : List.replicate (((s.map encPc).length : Nat) : Int).toNat [V.int .i64 0] = (spK (-1) (List.replicate s.length (0 : Int)) 0).map encI := by
    rw [hsm, Int.toNat_natCast]; simp [spK, encI]
  have c0 := pdqFi_pc s 51 (firstCmp s) (firstC_pc s) (List.finRange s.length) (by rw [List.length_finRange]; omega)
  have hord : (insSort (firstCmp s) (List.finRange s.length)).map encFin = (fstOrd s).map encN := by unfold fstOrd; rw [List.map_map]; rfl
  rw [finR_map, hord] at c0
  have hol := fstOrd_len s
  have hom : ((fstOrd s).map encN).length = s.length := by rw [List.length_map, hol]
  have hV : fstV d s r.1 = (fstK d s r.1 s.length).1 := rfl
  have hok := fst_ok (r := r) d2 s2 f3
  refine fn_sound (mt := mts) tab_fits tab_mixed Tryz.func25 (by rfl) (by kernel_rfl) (by kernel_rfl) Tryz.results25 (Nat.le_of_ble_eq_true (by kernel_rfl)) ?_
  conv => whnf
  repeat' (first | ((first | refine Split.mk (fun h => ?_) (fun h => ?_) | refine CondG.mk (fun h => ?_) (fun h => ?_)) <;> (try simp only [decide_eq_true_eq, decide_eq_false_iff_not, Bool.not_eq_true', Bool.not_eq_false', beq_iff_eq, beq_eq_false_iff_ne, bne_iff_ne, bne_eq_false_iff_eq] at h) <;> (first | (exfalso; first | omega | exact h trivial) | (conv => whnf))) | (refine Ask.mk (by first | omega | (unfold roomOK; simp [cutRows]; done) | (unfold roomOK; simp [cutRows]; omega) | (simp [cutRows]; done) | (simp [cutRows]; omega)) ?_; conv => whnf) | (refine AppG.mk (by first | omega | (unfold roomOK; simp [cutRows]; done) | (unfold roomOK; simp [cutRows]; omega) | (simp [cutRows]; done) | (simp [cutRows]; omega)) ?_; conv => whnf) | (refine SliceG.fr ?_; conv => whnf) | (refine idx_at _ (by with_reducible rfl) (by first | assumption | omega) ?_; conv => whnf) | ((with_reducible refine row_map (by first | assumption | omega) ?_); conv => whnf) | ((with_reducible refine row_set (by first | assumption | omega | (simp only [List.length_set]; omega) | (simp; omega)) ?_); conv => whnf) | fail)
  refine loop_for (s.length) [.sl 8 3 1] [0, 4, 5, 7, 8, 9, 22, 23] (fun k (_ : Unit) => [(8, .c (.row 3)), (23, .c (.int .i64 (k : Int)))]) (fun k (_ : Unit) => [(2, .row 3 1 ((spK (-1) (List.replicate s.length (0 : Int)) k).map encI)), (3, .row 3 1 ((List.range k).map encN))]) (fun k (_ : Unit) => True) (()) ?_
  conv => whnf
  refine ⟨?_, (by trivial), ?_, ?_⟩
  · simp only [← hz]; rfl
  · intro k _ hk _
    have hsl := spK_len (-1) (List.replicate s.length (0 : Int)) k (by simp; omega)
    rw [List.length_replicate] at hsl
    have hslm : ((spK (-1) (List.replicate s.length (0 : Int)) k).map encI).length = s.length := by rw [List.length_map, hsl]
    have hset := spK_set (-1) (List.replicate s.length (0 : Int)) k (by simp; omega)
    have hrl : ((List.range k).map encN).length = k := by simp
    conv => whnf
    repeat' (first | ((first | refine Split.mk (fun h => ?_) (fun h => ?_) | refine CondG.mk (fun h => ?_) (fun h => ?_)) <;> (try simp only [decide_eq_true_eq, decide_eq_false_iff_not, Bool.not_eq_true', Bool.not_eq_false', beq_iff_eq, beq_eq_false_iff_ne, bne_iff_ne, bne_eq_false_iff_eq] at h) <;> (first | (exfalso; first | omega | exact h trivial) | (conv => whnf))) | (refine Ask.mk (by first | omega | (unfold roomOK; simp [cutRows]; done) | (unfold roomOK; simp [cutRows]; omega) | (simp [cutRows]; done) | (simp [cutRows]; omega)) ?_; conv => whnf) | (refine AppG.mk (by first | omega | (unfold roomOK; simp [cutRows]; done) | (unfold roomOK; simp [cutRows]; omega) | (simp [cutRows]; done) | (simp [cutRows]; omega)) ?_; conv => whnf) | (refine SliceG.fr ?_; conv => whnf) | (refine idx_at _ (by with_reducible rfl) (by first | assumption | omega) ?_; conv => whnf) | ((with_reducible refine row_map (by first | assumption | omega) ?_); conv => whnf) | ((with_reducible refine row_set (by first | assumption | omega | (simp only [List.length_set]; omega) | (simp; omega)) ?_); conv => whnf) | fail)
    exact count_next () hk (by rw [wrap_succ hk (by omega), ← hset, List.map_set, List.range_succ, List.map_append]; rfl) trivial
  · intro _ _
    have hinit : spK (-1) (List.replicate s.length (0 : Int)) s.length = List.replicate s.length (-1) := by simp [spK]
    rw [hinit]
    conv => whnf
    repeat' (first | ((first | refine Split.mk (fun h => ?_) (fun h => ?_) | refine CondG.mk (fun h => ?_) (fun h => ?_)) <;> (try simp only [decide_eq_true_eq, decide_eq_false_iff_not, Bool.not_eq_true', Bool.not_eq_false', beq_iff_eq, beq_eq_false_iff_ne, bne_iff_ne, bne_eq_false_iff_eq] at h) <;> (first | (exfalso; first | omega | exact h trivial) | (conv => whnf))) | (refine Ask.mk (by first | omega | (unfold roomOK; simp [cutRows]; done) | (unfold roomOK; simp [cutRows]; omega) | (simp [cutRows]; done) | (simp [cutRows]; omega)) ?_; conv => whnf) | (refine AppG.mk (by first | omega | (unfold roomOK; simp [cutRows]; done) | (unfold roomOK; simp [cutRows]; omega) | (simp [cutRows]; done) | (simp [cutRows]; omega)) ?_; conv => whnf) | (refine SliceG.fr ?_; conv => whnf) | (refine idx_at _ (by with_reducible rfl) (by first | assumption | omega) ?_; conv => whnf) | ((with_reducible refine row_map (by first | assumption | omega) ?_); conv => whnf) | ((with_reducible refine row_set (by first | assumption | omega | (simp only [List.length_set]; omega) | (simp; omega)) ?_); conv => whnf) | fail)
    refine loop_for (d.length) [.sl 9 3 1] [0, 4, 5, 7, 8, 9, 34, 35, 36] (fun k (_ : Unit) => [(9, .c (.row 4)), (36, .c (.int .i64 (k : Int)))]) (fun k (_ : Unit) => [(4, .row 3 1 (((d.take k).map Pc.long).map encI))]) (fun k (_ : Unit) => True) (()) ?_
    conv => whnf
    refine ⟨(by first | rfl | (simp; done) | (simp; rfl)), (by trivial), ?_, ?_⟩
    · intro k _ hk _
      have hrl : (((d.take k).map Pc.long).map encI).length = k := by simp; omega
      conv => whnf
      repeat' (first | ((first | refine Split.mk (fun h => ?_) (fun h => ?_) | refine CondG.mk (fun h => ?_) (fun h => ?_)) <;> (try simp only [decide_eq_true_eq, decide_eq_false_iff_not, Bool.not_eq_true', Bool.not_eq_false', beq_iff_eq, beq_eq_false_iff_ne, bne_iff_ne, bne_eq_false_iff_eq] at h) <;> (first | (exfalso; first | omega | exact h trivial) | (conv => whnf))) | (refine Ask.mk (by first | omega | (unfold roomOK; simp [cutRows]; done) | (unfold roomOK; simp [cutRows]; omega) | (simp [cutRows]; done) | (simp [cutRows]; omega)) ?_; conv => whnf) | (refine AppG.mk (by first | omega | (unfold roomOK; simp [cutRows]; done) | (unfold roomOK; simp [cutRows]; omega) | (simp [cutRows]; done) | (simp [cutRows]; omega)) ?_; conv => whnf) | (refine SliceG.fr ?_; conv => whnf) | (refine idx_at _ (by with_reducible rfl) (by first | assumption | omega) ?_; conv => whnf) | ((with_reducible refine row_map (by first | assumption | omega) ?_); conv => whnf) | ((with_reducible refine row_set (by first | assumption | omega | (simp only [List.length_set]; omega) | (simp; omega)) ?_); conv => whnf) | fail)
      all_goals exact count_next () hk (by rw [wrap_succ hk (by omega), List.take_succ_eq_append_getElem hk, List.map_append, List.map_append]; rfl) trivial
    · intro _ _
      rw [List.take_length]
      have h0 : fstK d s r.1 0 = (List.replicate s.length (-1), d.map Pc.long) := rfl
      conv => whnf
      repeat' (first | ((first | refine Split.mk (fun h => ?_) (fun h => ?_) | refine CondG.mk (fun h => ?_) (fun h => ?_)) <;> (try simp only [decide_eq_true_eq, decide_eq_false_iff_not, Bool.not_eq_true', Bool.not_eq_false', beq_iff_eq, beq_eq_false_iff_ne, bne_iff_ne, bne_eq_false_iff_eq] at h) <;> (first | (exfalso; first | omega | exact h trivial) | (conv => whnf))) | (refine CallX.mk _ _ (by first | exact c0) ?_; conv => whnf) | (refine CallG.mk _ _ (by first | exact c0) ?_; conv => whnf) | (refine Ask.mk (by first | omega | (unfold roomOK; simp [cutRows]; done) | (unfold roomOK; simp [cutRows]; omega) | (simp [cutRows]; done) | (simp [cutRows]; omega)) ?_; conv => whnf) | (refine AppG.mk (by first | omega | (unfold roomOK; simp [cutRows]; done) | (unfold roomOK; simp [cutRows]; omega) | (simp [cutRows]; done) | (simp [cutRows]; omega)) ?_; conv => whnf) | (refine SliceG.fr ?_; conv => whnf) | (refine idx_at _ (by with_reducible rfl) (by first | assumption | omega) ?_; conv => whnf) | ((with_reducible refine row_map (by first | assumption | omega) ?_); conv => whnf) | ((with_reducible refine row_set (by first | assumption | omega | (simp only [List.length_set]; omega) | (simp; omega)) ?_); conv => whnf) | fail)
      refine loop_for (s.length) [] [0, 4, 5, 7, 9, 49, 50, 51] (fun k (_ : Unit) => [(51, .c (.int .i64 (k : Int)))]) (fun k (_ : Unit) => [(2, .row 3 1 ((fstK d s r.1 k).1.map encI)), (3, .row 3 1 ((fstK d s r.1 k).2.map encI))]) (fun k (_ : Unit) => True) (()) ?_
      conv => whnf
      refine ⟨(by first | rfl | (simp; done) | (simp; rfl)), (by trivial), ?_, ?_⟩
      · intro k _ hk _
        have hkl : k < (fstOrd s).length := by omega
        have hS := fstK_succ d s r.1 hkl
        have hO := hok k (by omega)
        have hi : (fstOrd s)[k] < s.length := List.mem_range.1 ((fstOrd_perm s).mem_iff.1 (List.getElem_mem hkl))
        conv => whnf
        repeat' (first | ((first | refine Split.mk (fun h => ?_) (fun h => ?_) | refine CondG.mk (fun h => ?_) (fun h => ?_)) <;> (try simp only [decide_eq_true_eq, decide_eq_false_iff_not, Bool.not_eq_true', Bool.not_eq_false', beq_iff_eq, beq_eq_false_iff_ne, bne_iff_ne, bne_eq_false_iff_eq] at h) <;> (first | (exfalso; first | omega | exact h trivial) | (conv => whnf))) | (refine Ask.mk (by first | omega | (unfold roomOK; simp [cutRows]; done) | (unfold roomOK; simp [cutRows]; omega) | (simp [cutRows]; done) | (simp [cutRows]; omega)) ?_; conv => whnf) | (refine AppG.mk (by first | omega | (unfold roomOK; simp [cutRows]; done) | (unfold roomOK; simp [cutRows]; omega) | (simp [cutRows]; done) | (simp [cutRows]; omega)) ?_; conv => whnf) | (refine SliceG.fr ?_; conv => whnf) | (refine idx_at _ (by with_reducible rfl) (by first | assumption | omega) ?_; conv => whnf) | ((with_reducible refine row_map (by first | assumption | omega) ?_); conv => whnf) | ((with_reducible refine row_set (by first | assumption | omega | (simp only [List.length_set]; omega) | (simp; omega)) ?_); conv => whnf) | fail)
        simp only [Int.toNat_natCast]
        generalize (fstOrd s)[k] = i at *
        have hpair : fstK d s r.1 k = ((fstK d s r.1 k).1, (fstK d s r.1 k).2) := rfl
        rw [hpair] at hS
        obtain ⟨hO1, hO2, hO3⟩ := hO
        clear hpair
        generalize (fstK d s r.1 k).1 = O at *
        generalize (fstK d s r.1 k).2 = R at *
        have hOm : (O.map encI).length = s.length := by rw [List.length_map, hO1]
        have hRm : (R.map encI).length = d.length := by rw [List.length_map, hO2]
        have hsi := s2 _ (List.getElem_mem hi)
        have hsg : s.getD i default = s[i] := by simp [List.getD_eq_getElem?_getD, List.getElem?_eq_getElem hi]
        refine loop_for (d.length) [] [0, 4, 5, 7, 9, 14, 15, 49, 50, 51, 55, 56, 57] (fun q (_ : Unit) => [(15, .c (.int .i64 (fstBest d s r.1 R i q))), (57, .c (.int .i64 (q : Int)))]) (fun q (_ : Unit) => []) (fun q (_ : Unit) => True) (()) ?_
        conv => whnf
        refine ⟨(by first | rfl | (simp; done) | (simp; rfl)), (by trivial), ?_, ?_⟩
        · intro q _ hq _
          have hB : fstBest d s r.1 R i (q + 1) = if (d.getD q default).kind = (s.getD i default).kind ∧ (s.getD i default).long + r.1 ≤ R.getD q 0 ∧ (fstBest d s r.1 R i q < 0 ∨ R.getD q 0 < R.getD (fstBest d s r.1 R i q).toNat 0) then (q : Int) else fstBest d s r.1 R i q := rfl
          have hdg : d.getD q default = d[q] := by simp [List.getD_eq_getElem?_getD, List.getElem?_eq_getElem hq]
          have hqR : q < R.length := by omega
          have hRq := hO3 _ (List.getElem_mem hqR)
          have hRg : R.getD q 0 = R[q] := by simp [List.getD_eq_getElem?_getD, List.getElem?_eq_getElem hqR]
          rw [hdg, hsg, hRg] at hB
          have hin := fstBest_in d s r.1 R i q
          generalize fstBest d s r.1 R i q = bb at *
          have hw : IntKind.i64.wrap (s[i].long + r.1) = s[i].long + r.1 := wrap_in (by omega) (by omega)
          have hbl : ¬ bb < 0 → bb.toNat < R.length := fun hb => by
            rcases hin with h | ⟨b, g1, g2, _⟩ <;> omega
          have hgd : ∀ (hx : bb.toNat < R.length), R.getD bb.toNat 0 = R[bb.toNat] := fun hx => by simp [List.getD_eq_getElem?_getD, List.getElem?_eq_getElem hx]
          conv => whnf
          repeat' (first | ((first | refine Split.mk (fun h => ?_) (fun h => ?_) | refine CondG.mk (fun h => ?_) (fun h => ?_)) <;> (try simp only [decide_eq_true_eq, decide_eq_false_iff_not, Bool.not_eq_true', Bool.not_eq_false', beq_iff_eq, beq_eq_false_iff_ne, bne_iff_ne, bne_eq_false_iff_eq] at h) <;> (first | (exfalso; first | omega | exact h trivial) | (conv => whnf))) | (refine Ask.mk (by first | omega | (unfold roomOK; simp [cutRows]; done) | (unfold roomOK; simp [cutRows]; omega) | (simp [cutRows]; done) | (simp [cutRows]; omega)) ?_; conv => whnf) | (refine AppG.mk (by first | omega | (unfold roomOK; simp [cutRows]; done) | (unfold roomOK; simp [cutRows]; omega) | (simp [cutRows]; done) | (simp [cutRows]; omega)) ?_; conv => whnf) | (refine SliceG.fr ?_; conv => whnf) | (refine idx_at _ (by with_reducible rfl) (by first | assumption | omega) ?_; conv => whnf) | ((with_reducible refine row_map (by first | assumption | omega) ?_); conv => whnf) | ((with_reducible refine row_set (by first | assumption | omega | (simp only [List.length_set]; omega) | (simp; omega)) ?_); conv => whnf) | ((refine idx_map i hi rfl ?_); conv => whnf) | fail)
          all_goals simp only [Int.toNat_natCast] at *
          · rw [if_pos ⟨toList_inj (by assumption), by omega, .inl (by assumption)⟩] at hB
            exact count_next () hq (by rw [wrap_succ hq (by omega), hB]; rfl) trivial
          · rw [if_pos ⟨toList_inj (by assumption), by omega, .inr (by rw [hgd (hbl (by assumption))]; assumption)⟩] at hB
            exact count_next () hq (by rw [wrap_succ hq (by omega), hB]; rfl) trivial
          · have hn1 : ¬ bb < 0 := by assumption
            have hn2 : ¬ R[q] < R[bb.toNat]'(hbl hn1) := by assumption
            rw [if_neg (fun e => e.2.2.elim hn1 (fun e2 => hn2 (by rw [hgd (hbl hn1)] at e2; exact e2)))] at hB
            exact count_next () hq (by rw [wrap_succ hq (by omega), hB]; rfl) trivial
          · have hn1 : ¬ IntKind.i64.wrap (s[i].long + r.1) ≤ R[q] := by assumption
            rw [if_neg (fun e => hn1 (by rw [hw]; exact e.2.1))] at hB
            exact count_next () hq (by rw [wrap_succ hq (by omega), hB]; rfl) trivial
          · have hn1 : d[q].kind.toList ≠ s[i].kind.toList := by assumption
            rw [if_neg (fun e => hn1 (by rw [e.1]))] at hB
            exact count_next () hq (by rw [wrap_succ hq (by omega), hB]; rfl) trivial
        · intro _ _
          have hS2 : fstStep d s r.1 (O, R) i = if fstBest d s r.1 R i d.length < 0 then (O, R) else (O.set i (fstBest d s r.1 R i d.length), R.set (fstBest d s r.1 R i d.length).toNat (R.getD (fstBest d s r.1 R i d.length).toNat 0 - ((s.getD i default).long + r.1))) := rfl
          rw [hsg] at hS2
          have hin := fstBest_in d s r.1 R i d.length
          generalize fstBest d s r.1 R i d.length = bb at *
          have hw : IntKind.i64.wrap (s[i].long + r.1) = s[i].long + r.1 := wrap_in (by omega) (by omega)
          rcases hin with hm | ⟨b, g1, g2, g3, g4⟩
          · rw [if_pos (by omega)] at hS2
            rw [hS2] at hS
            subst hm
            conv => whnf
            repeat' (first | ((first | refine Split.mk (fun h => ?_) (fun h => ?_) | refine CondG.mk (fun h => ?_) (fun h => ?_)) <;> (try simp only [decide_eq_true_eq, decide_eq_false_iff_not, Bool.not_eq_true', Bool.not_eq_false', beq_iff_eq, beq_eq_false_iff_ne, bne_iff_ne, bne_eq_false_iff_eq] at h) <;> (first | (exfalso; first | omega | exact h trivial) | (conv => whnf))) | (refine Ask.mk (by first | omega | (unfold roomOK; simp [cutRows]; done) | (unfold roomOK; simp [cutRows]; omega) | (simp [cutRows]; done) | (simp [cutRows]; omega)) ?_; conv => whnf) | (refine AppG.mk (by first | omega | (unfold roomOK; simp [cutRows]; done) | (unfold roomOK; simp [cutRows]; omega) | (simp [cutRows]; done) | (simp [cutRows]; omega)) ?_; conv => whnf) | (refine SliceG.fr ?_; conv => whnf) | (refine idx_at _ (by with_reducible rfl) (by first | assumption | omega) ?_; conv => whnf) | ((with_reducible refine row_map (by first | assumption | omega) ?_); conv => whnf) | ((with_reducible refine row_set (by first | assumption | omega | (simp only [List.length_set]; omega) | (simp; omega)) ?_); conv => whnf) | fail)
            all_goals first | (exfalso; omega) | exact count_next () hk (by rw [wrap_succ hk (by omega), hS]; rfl) trivial
          · rw [if_neg (by omega), g2, Int.toNat_natCast] at hS2
            rw [hS2] at hS
            subst g2
            have hbR : b < R.length := by omega
            have hRb := hO3 _ (List.getElem_mem hbR)
            have hRg : R.getD b 0 = R[b] := by simp [List.getD_eq_getElem?_getD, List.getElem?_eq_getElem hbR]
            rw [hRg, hsg] at g4
            rw [hRg] at hS
            have hw2 : IntKind.i64.wrap (R[b] - (s[i].long + r.1)) = R[b] - (s[i].long + r.1) := wrap_in (by omega) (by omega)
            have hRs : ((R.map encI).set b [V.int .i64 (R[b] - (s[i].long + r.1))]).length = d.length := by rw [List.length_set, hRm]
            conv => whnf
            repeat' (first | ((first | refine Split.mk (fun h => ?_) (fun h => ?_) | refine CondG.mk (fun h => ?_) (fun h => ?_)) <;> (try simp only [decide_eq_true_eq, decide_eq_false_iff_not, Bool.not_eq_true', Bool.not_eq_false', beq_iff_eq, beq_eq_false_iff_ne, bne_iff_ne, bne_eq_false_iff_eq] at h) <;> (first | (exfalso; first | omega | exact h trivial) | (conv => whnf))) | (refine Ask.mk (by first | omega | (unfold roomOK; simp [cutRows]; done) | (unfold roomOK; simp [cutRows]; omega) | (simp [cutRows]; done) | (simp [cutRows]; omega)) ?_; conv => whnf) | (refine AppG.mk (by first | omega | (unfold roomOK; simp [cutRows]; done) | (unfold roomOK; simp [cutRows]; omega) | (simp [cutRows]; done) | (simp [cutRows]; omega)) ?_; conv => whnf) | (refine SliceG.fr ?_; conv => whnf) | (refine idx_at _ (by with_reducible rfl) (by first | assumption | omega) ?_; conv => whnf) | ((with_reducible refine row_map (by first | assumption | omega) ?_); conv => whnf) | ((with_reducible refine row_set (by first | assumption | omega | (simp only [List.length_set]; omega) | (simp; omega)) ?_); conv => whnf) | ((refine idx_map i hi rfl ?_); conv => whnf) | fail)
            all_goals first | (exfalso; omega) | exact count_next () hk (by rw [wrap_succ hk (by omega), hS]; simp only [Int.toNat_natCast, hw, hw2, List.map_set]; rfl) trivial
      · intro _ _
        rw [← hV]
        conv => whnf
        repeat' (first | ((first | refine Split.mk (fun h => ?_) (fun h => ?_) | refine CondG.mk (fun h => ?_) (fun h => ?_)) <;> (try simp only [decide_eq_true_eq, decide_eq_false_iff_not, Bool.not_eq_true', Bool.not_eq_false', beq_iff_eq, beq_eq_false_iff_ne, bne_iff_ne, bne_eq_false_iff_eq] at h) <;> (first | (exfalso; first | omega | exact h trivial) | (conv => whnf))) | (refine Ask.mk (by first | omega | (unfold roomOK; simp [cutRows]; done) | (unfold roomOK; simp [cutRows]; omega) | (simp [cutRows]; done) | (simp [cutRows]; omega)) ?_; conv => whnf) | (refine AppG.mk (by first | omega | (unfold roomOK; simp [cutRows]; done) | (unfold roomOK; simp [cutRows]; omega) | (simp [cutRows]; done) | (simp [cutRows]; omega)) ?_; conv => whnf) | (refine SliceG.fr ?_; conv => whnf) | (refine idx_at _ (by with_reducible rfl) (by first | assumption | omega) ?_; conv => whnf) | ((with_reducible refine row_map (by first | assumption | omega) ?_); conv => whnf) | ((with_reducible refine row_set (by first | assumption | omega | (simp only [List.length_set]; omega) | (simp; omega)) ?_); conv => whnf) | fail)
        exact .mk ⟨rfl, rfl⟩
end Go.Proofs.YtobcplhaabaemaaGreatDoor

/- What the rule of thumb does not cut, and drum.First. -/
namespace Go.Proofs.YtobcplhaabaemaaGreatDoor
set_option linter.unusedVariables false
set_option linter.unusedSimpArgs false
open Abs

def unK (s : List Pc) (O : List Int) : Nat → List ByteArray
  | 0 => []
  | k + 1 => if O.getD k 0 < 0 then unK s O k ++ [(s.getD k default).key] else unK s O k
theorem unK_len (s : List Pc) (O : List Int) : ∀ k, (unK s O k).length ≤ k
  | 0 => by simp [unK]
  | k + 1 => by
    have := unK_len s O k
    rw [unK]; split
    · simp; omega
    · omega
def fstF (d s : List Pc) (r : Int × Int) : List Int := if allErr d s r = 0 then fstV d s r.1 else []
def unF (d s : List Pc) (r : Int × Int) : List ByteArray := if allErr d s r = 0 then unK s (fstV d s r.1) s.length else []
theorem fstV_len {d s : List Pc} {r : Int × Int} (ha : allErr d s r = 0) : (fstV d s r.1).length = s.length := (leftE_ok (fst_left ha)).2.1
set_option maxRecDepth 100000 in
set_option maxHeartbeats 4000000 in
theorem dFirst_pc (d s : List Pc) (r : Int × Int) (h12 : s.length ≤ 12) :
    PCp 9 [.c (.lst 3 (d.map encPc)), .c (.lst 3 (s.map encPc)), .agg [.int .i64 r.1, .int .i64 r.2]] [] (.tup [.c (.lst 1 ((fstF d s r).map encI)), .c (.lst 1 ((unF d s r).map encS)), .c (.int .i64 (allErr d s r))]) [] := by
  have hsm : (s.map encPc).length = s.length := List.length_map ..
  by_cases ha : allErr d s r = 0
  · have c1 := dfirst_pc d s r ha h12
    have hl := fstV_len ha
    have e1 : fstF d s r = fstV d s r.1 := by unfold fstF; rw [if_pos ha]
    have e2 : unF d s r = unK s (fstV d s r.1) s.length := by unfold unF; rw [if_pos ha]
    rw [e1, e2]
    generalize fstV d s r.1 = O at *
    have hom : (O.map encI).length = s.length := by rw [List.length_map, hl]
    have cf := dFault_pc d s r
    rw [ha] at cf ⊢
    refine fn_sound (mt := mts) tab_fits tab_mixed Tryz.func9 (by rfl) (by kernel_rfl) (by kernel_rfl) Tryz.results9 (Nat.le_of_ble_eq_true (by kernel_rfl)) ?_
    conv => whnf
    repeat' (first | ((first | refine Split.mk (fun h => ?_) (fun h => ?_) | refine CondG.mk (fun h => ?_) (fun h => ?_)) <;> (try simp only [decide_eq_true_eq, decide_eq_false_iff_not, Bool.not_eq_true', Bool.not_eq_false', beq_iff_eq, beq_eq_false_iff_ne, bne_iff_ne, bne_eq_false_iff_eq] at h) <;> (first | (exfalso; first | omega | exact h trivial | contradiction | (simp_all [eqRes]; done)) | (conv => whnf))) | (refine CallX.mk _ _ (by first | exact cf | exact c1) ?_; conv => whnf) | (refine CallG.mk _ _ (by first | exact cf | exact c1) ?_; conv => whnf) | (refine Ask.mk (by first | omega | (unfold roomOK; simp [cutRows]; done) | (unfold roomOK; simp [cutRows]; omega) | (simp [cutRows]; done) | (simp [cutRows]; omega)) ?_; conv => whnf) | (refine AppG.mk (by first | omega | (unfold roomOK; simp [cutRows]; done) | (unfold roomOK; simp [cutRows]; omega) | (simp [cutRows]; done) | (simp [cutRows]; omega)) ?_; conv => whnf) | (refine SliceG.fr ?_; conv => whnf) | (refine idx_at _ (by with_reducible rfl) (by first | assumption | omega) ?_; conv => whnf) | ((with_reducible refine row_map (by first | assumption | omega) ?_); conv => whnf) | ((with_reducible refine row_set (by first | assumption | omega | (simp only [List.length_set]; omega) | (simp; omega)) ?_); conv => whnf) | fail)
    refine loop_for (s.length) [.sl 11 9 1] [1, 10, 11, 25, 26, 27] (fun k (_ : Unit) => [(11, .c (.row 1)), (27, .c (.int .i64 (k : Int)))]) (fun k (_ : Unit) => [(1, .row 9 1 ((unK s O k).map encS))]) (fun k (_ : Unit) => True) (()) ?_
    conv => whnf
    refine ⟨(by first | rfl | (simp; done) | (simp; rfl)), (by trivial), ?_, ?_⟩
    · intro k _ hk _
      have hkO : k < O.length := by omega
      have hul := unK_len s O k
      have hum : ((unK s O k).map encS).length = (unK s O k).length := List.length_map ..
      have hg : O.getD k 0 = O[k] := by simp [List.getD_eq_getElem?_getD, List.getElem?_eq_getElem hkO]
      have hsg : s.getD k default = s[k] := by simp [List.getD_eq_getElem?_getD, List.getElem?_eq_getElem hk]
      have hU : unK s O (k + 1) = if O[k] < 0 then unK s O k ++ [s[k].key] else unK s O k := by rw [unK, hg, hsg]
      conv => whnf
      repeat' (first | ((first | refine Split.mk (fun h => ?_) (fun h => ?_) | refine CondG.mk (fun h => ?_) (fun h => ?_)) <;> (try simp only [decide_eq_true_eq, decide_eq_false_iff_not, Bool.not_eq_true', Bool.not_eq_false', beq_iff_eq, beq_eq_false_iff_ne, bne_iff_ne, bne_eq_false_iff_eq] at h) <;> (first | (exfalso; first | omega | exact h trivial) | (conv => whnf))) | (refine Ask.mk (by first | omega | (unfold roomOK; simp [cutRows]; done) | (unfold roomOK; simp [cutRows]; omega) | (simp [cutRows]; done) | (simp [cutRows]; omega)) ?_; conv => whnf) | (refine AppG.mk (by first | omega | (unfold roomOK; simp [cutRows]; done) | (unfold roomOK; simp [cutRows]; omega) | (simp [cutRows]; done) | (simp [cutRows]; omega)) ?_; conv => whnf) | (refine SliceG.fr ?_; conv => whnf) | (refine idx_at _ (by with_reducible rfl) (by first | assumption | omega) ?_; conv => whnf) | ((with_reducible refine row_map (by first | assumption | omega) ?_); conv => whnf) | ((with_reducible refine row_set (by first | assumption | omega | (simp only [List.length_set]; omega) | (simp; omega)) ?_); conv => whnf) | fail)
      all_goals simp only [Int.toNat_natCast] at *
      · rw [if_pos (by assumption)] at hU
        exact count_next () hk (by rw [wrap_succ hk (by omega), hU, List.map_append]; rfl) trivial
      · rw [if_neg (by assumption)] at hU
        exact count_next () hk (by rw [wrap_succ hk (by omega), hU]; rfl) trivial
    · intro _ _
      conv => whnf
      repeat' (first | ((first | refine Split.mk (fun h => ?_) (fun h => ?_) | refine CondG.mk (fun h => ?_) (fun h => ?_)) <;> (try simp only [decide_eq_true_eq, decide_eq_false_iff_not, Bool.not_eq_true', Bool.not_eq_false', beq_iff_eq, beq_eq_false_iff_ne, bne_iff_ne, bne_eq_false_iff_eq] at h) <;> (first | (exfalso; first | omega | exact h trivial) | (conv => whnf))) | (refine Ask.mk (by first | omega | (unfold roomOK; simp [cutRows]; done) | (unfold roomOK; simp [cutRows]; omega) | (simp [cutRows]; done) | (simp [cutRows]; omega)) ?_; conv => whnf) | (refine AppG.mk (by first | omega | (unfold roomOK; simp [cutRows]; done) | (unfold roomOK; simp [cutRows]; omega) | (simp [cutRows]; done) | (simp [cutRows]; omega)) ?_; conv => whnf) | (refine SliceG.fr ?_; conv => whnf) | (refine idx_at _ (by with_reducible rfl) (by first | assumption | omega) ?_; conv => whnf) | ((with_reducible refine row_map (by first | assumption | omega) ?_); conv => whnf) | ((with_reducible refine row_set (by first | assumption | omega | (simp only [List.length_set]; omega) | (simp; omega)) ?_); conv => whnf) | fail)
      refine .frz 0 _ _ _ rfl (.frz 1 _ _ _ rfl (.weak [_, _] (.tup _ _ rfl ?_) rfl (Nat.le_refl _)))
      intro i a b ha hb
      match i with
      | 0 => cases ha; cases hb; exact .fro 0 1 _ rfl
      | 1 => cases ha; cases hb; exact .fro 1 1 _ rfl
      | 2 => cases ha; cases hb; exact .refl _
  · have e1 : fstF d s r = [] := by unfold fstF; rw [if_neg ha]
    have e2 : unF d s r = [] := by unfold unF; rw [if_neg ha]
    rw [e1, e2]
    refine fn_sound (mt := mts) tab_fits tab_mixed Tryz.func9 (by rfl) (by kernel_rfl) (by kernel_rfl) Tryz.results9 (Nat.le_of_ble_eq_true (by kernel_rfl)) ?_
    conv => whnf
    repeat' (first | ((first | refine Split.mk (fun h => ?_) (fun h => ?_) | refine CondG.mk (fun h => ?_) (fun h => ?_)) <;> (try simp only [decide_eq_true_eq, decide_eq_false_iff_not, Bool.not_eq_true', Bool.not_eq_false', beq_iff_eq, beq_eq_false_iff_ne, bne_iff_ne, bne_eq_false_iff_eq] at h) <;> (first | (exfalso; first | omega | exact h trivial | contradiction | (simp_all [eqRes]; done)) | (conv => whnf))) | (refine CallX.mk _ _ (by first | exact dFault_pc d s r) ?_; conv => whnf) | (refine CallG.mk _ _ (by first | exact dFault_pc d s r) ?_; conv => whnf) | (refine Ask.mk (by first | omega | (unfold roomOK; simp [cutRows]; done) | (unfold roomOK; simp [cutRows]; omega) | (simp [cutRows]; done) | (simp [cutRows]; omega)) ?_; conv => whnf) | (refine AppG.mk (by first | omega | (unfold roomOK; simp [cutRows]; done) | (unfold roomOK; simp [cutRows]; omega) | (simp [cutRows]; done) | (simp [cutRows]; omega)) ?_; conv => whnf) | (refine SliceG.fr ?_; conv => whnf) | (refine idx_at _ (by with_reducible rfl) (by first | assumption | omega) ?_; conv => whnf) | ((with_reducible refine row_map (by first | assumption | omega) ?_); conv => whnf) | ((with_reducible refine row_set (by first | assumption | omega | (simp only [List.length_set]; omega) | (simp; omega)) ?_); conv => whnf) | fail)
    refine .weak [] (.tup _ _ rfl ?_) rfl (Nat.le_refl _)
    intro i a b ha hb
    match i with
    | 0 => cases ha; cases hb; exact .nil 1
    | 1 => cases ha; cases hb; exact .nil 1
    | 2 => cases ha; cases hb; exact .refl _
end Go.Proofs.YtobcplhaabaemaaGreatDoor

/- Acts are made. -/
namespace Go.Proofs.YtobcplhaabaemaaGreatDoor
set_option linter.unusedVariables false
set_option linter.unusedSimpArgs false
open Abs

def sgn (n : Int) : Int := if n < 0 then -1 else if 0 < n then 1 else 0
set_option maxRecDepth 100000 in
set_option maxHeartbeats 4000000 in
theorem sign_pc (n : Int) : PCp 33 [.c (.int .i64 n)] [] (.c (.int .i64 (sgn n))) [] := by
  refine fn_sound (mt := mts) tab_fits tab_mixed Tryz.func33 (by rfl) (by kernel_rfl) (by kernel_rfl) Tryz.results33 (Nat.le_of_ble_eq_true (by kernel_rfl)) ?_
  conv => whnf
  repeat' (first | ((first | refine Split.mk (fun h => ?_) (fun h => ?_) | refine CondG.mk (fun h => ?_) (fun h => ?_)) <;> (try simp only [decide_eq_true_eq, decide_eq_false_iff_not, Bool.not_eq_true', Bool.not_eq_false', beq_iff_eq, beq_eq_false_iff_ne] at h) <;> (first | (exfalso; first | omega | exact h trivial) | (conv => whnf))) | (refine Ask.mk (by first | omega | (unfold roomOK; simp [cutRows]; done) | (unfold roomOK; simp [cutRows]; omega)) ?_; conv => whnf) | (refine AppG.mk (by first | omega | (unfold roomOK; simp [cutRows]; done) | (unfold roomOK; simp [cutRows]; omega)) ?_; conv => whnf) | (refine SliceG.fr ?_; conv => whnf) | fail)
  all_goals exact fini (by simp_all [sgn] <;> omega)
end Go.Proofs.YtobcplhaabaemaaGreatDoor

/- The document sorts sections by length alone, but stably: the same order (plain). -/
namespace Go.Proofs.YtobcplhaabaemaaGreatDoor
set_option linter.unusedVariables false
set_option linter.unusedSimpArgs false
open Abs

theorem insDown_same {α : Type} {c1 c2 : α → α → Int} (R : α → α → Prop) (hc : ∀ x y, R x y → (c1 x y < 0 ↔ c2 x y < 0)) (a : Nat) : ∀ (j : Nat) (l : List α), (∀ x, l[j]? = some x → ∀ i, i < j → ∀ y, l[i]? = some y → R x y) → insDown c1 a j l = insDown c2 a j l
  | 0, _, _ => rfl
  | j + 1, l, h => by
    rw [insDown, insDown]
    split
    · split
      · rename_i x y hx hy
        have hr := hc x y (h x hx j (by omega) y hy)
        by_cases h1 : c1 x y < 0
        · rw [if_pos h1, if_pos (hr.1 h1)]
          have hj1 := (List.getElem?_eq_some_iff.1 hx).1
          refine insDown_same R hc a j _ fun x' hx' i hi y' hy' => ?_
          rw [List.getElem?_set_self (by rw [List.length_set]; omega)] at hx'
          rw [List.getElem?_set_ne (by omega), List.getElem?_set_ne (by omega)] at hy'
          cases hx'
          exact h x hx i (by omega) y' hy'
        · rw [if_neg h1, if_neg (fun q => h1 (hr.2 q))]
      · rfl
    · rfl
theorem insDown_above {α : Type} (c : α → α → Int) (a : Nat) : ∀ (j : Nat) (l : List α) (i : Nat), j < i → (insDown c a j l)[i]? = l[i]?
  | 0, _, _, _ => rfl
  | j + 1, l, i, h => by
    rw [insDown]
    split
    · split
      · split
        · rw [insDown_above c a j _ i (by omega), List.getElem?_set_ne (by omega), List.getElem?_set_ne (by omega)]
        · rfl
      · rfl
    · rfl
theorem insTo_above {α : Type} (c : α → α → Int) : ∀ (m : Nat) (l : List α) (i : Nat), m < i → (insTo c 0 m l)[i]? = l[i]?
  | 0, _, _, _ => rfl
  | m + 1, l, i, h => by rw [insTo, insDown_above c 0 _ _ i (by omega), insTo_above c m l i (by omega)]
theorem insTo_same {n : Nat} {c1 c2 : Fin n → Fin n → Int} (hc : ∀ x y : Fin n, y.val < x.val → (c1 x y < 0 ↔ c2 x y < 0)) : ∀ m, insTo c1 0 m (List.finRange n) = insTo c2 0 m (List.finRange n)
  | 0 => rfl
  | m + 1 => by
    have ih := insTo_same hc m
    rw [insTo, insTo, ← ih]
    refine insDown_same (fun x y => y.val < x.val) hc 0 _ _ fun x hx i hi y hy => ?_
    have hq := insTo_above c1 m (List.finRange n)
    have hnd : (insTo c1 0 m (List.finRange n)).Nodup := ((insTo_perm c1 0 m (List.finRange n)).nodup_iff).2 (List.nodup_finRange n)
    have hx2 := hx
    rw [show 0 + 1 + m = m + 1 by omega] at hx2 hi
    rw [hq (m + 1) (by omega)] at hx2
    have hxv : x.val = m + 1 := by
      obtain ⟨h1, h2⟩ := List.getElem?_eq_some_iff.1 hx2
      rw [← h2]; simp
    rw [hxv]
    refine Classical.byContradiction fun hn => ?_
    have hyv : (insTo c1 0 m (List.finRange n))[y.val]? = some y := by
      rw [hq y.val (by omega), List.getElem?_eq_getElem (by simp)]
      simp
    have := (List.getElem?_inj (List.getElem?_eq_some_iff.1 hy).1 hnd).1 (hy.trans hyv.symm)
    omega
def firstC2 (s : List Pc) (x y : Fin s.length) : Int := sgn (IntKind.i64.wrap (s[y].long - s[x].long))
theorem ord_same {s : List Pc} (hs : ∀ x ∈ s, 1 ≤ x.long ∧ x.long ≤ 200000) (hr : Rise Pc.key s) : insSort (firstC2 s) (List.finRange s.length) = insSort (firstCmp s) (List.finRange s.length) := by
  unfold insSort
  refine insTo_same (fun x y hxy => ?_) _
  have h1 := hs s[x] (List.getElem_mem x.isLt)
  have h2 := hs s[y] (List.getElem_mem y.isLt)
  have h3 : ltB s[y].key s[x].key = true := hr.at hxy x.isLt
  unfold firstC2 firstCmp
  rw [wrap_in (by omega) (by omega)]
  have hk : ¬ cmpS s[x].key s[y].key < 0 := fun h => by
    rw [cmp_lt] at h
    rw [ltB_asym h3] at h; cases h
  rcases Int.lt_trichotomy s[y].long s[x].long with h | h | h
  · have e : cmpI s[y].long s[x].long = -1 := by unfold cmpI; rw [if_pos h]
    have e2 : sgn (s[y].long - s[x].long) = -1 := by unfold sgn; rw [if_pos (by omega)]
    rw [firstErr, e, if_neg (by decide), e2]
  · have e : cmpI s[y].long s[x].long = 0 := by unfold cmpI; rw [if_neg (by omega), if_neg (by omega)]
    have e2 : sgn (s[y].long - s[x].long) = 0 := by unfold sgn; rw [if_neg (by omega), if_neg (by omega)]
    rw [firstErr, e, if_pos rfl, e2, firstErr]
    constructor
    · intro q; exact absurd q (by decide)
    · intro q
      split at q
      · exact absurd q (by simp [firstErr])
      · exact (hk q).elim
  · have e : cmpI s[y].long s[x].long = 1 := by unfold cmpI; rw [if_neg (by omega), if_pos h]
    have e2 : sgn (s[y].long - s[x].long) = 1 := by unfold sgn; rw [if_neg (by omega), if_pos (by omega)]
    rw [firstErr, e, if_neg (by decide), e2]
end Go.Proofs.YtobcplhaabaemaaGreatDoor

/- What the document says of a plan that is written on. -/
namespace Go.Proofs.YtobcplhaabaemaaGreatDoor
set_option linter.unusedVariables false
set_option linter.unusedSimpArgs false
open Abs

set_option maxRecDepth 100000 in
set_option maxHeartbeats 4000000 in
theorem rLeftRow_pc (d s : List Pc) (r : Int × Int) (plan : List Int) (ha : allErr d s r = 0) (hpl : plan.length ≤ s.length) :
    PCp 35 [.c (.lst 3 (d.map encPc)), .c (.lst 3 (s.map encPc)), .agg [.int .i64 r.1, .int .i64 r.2], .c (.row 0)] [.row 3 1 (plan.map encI)]
      (.c (.row 1)) [.row 3 1 (plan.map encI), .row 3 1 ((leftL d s r.1 plan plan.length).map encI)] := by
  have hld : (d.map encPc).length = d.length := List.length_map ..
  have hlp : (plan.map encI).length = plan.length := List.length_map ..
  obtain ⟨f1, f2, f3, f4, f5, f6⟩ := allErr_ok ha
  obtain ⟨d1, d2⟩ := pcFault_ok f1
  obtain ⟨s1, s2⟩ := pcFault_ok f2
  have hll := leftL_len d s r.1 plan plan.length
  refine fn_sound (mt := mts) tab_fits tab_mixed Tryz.func35 (by rfl) (by kernel_rfl) (by kernel_rfl) Tryz.results35 (Nat.le_of_ble_eq_true (by kernel_rfl)) ?_
  conv => whnf
  refine loop_for (d.length) [.sl 9 3 1] [1, 3, 6, 9, 15, 16, 17] (fun k (_ : Unit) => [(9, .c (.row 2)), (17, .c (.int .i64 (k : Int)))]) (fun k (_ : Unit) => [(2, .row 3 1 (((leftL d s r.1 plan plan.length).take k).map encI))]) (fun k (_ : Unit) => True) (()) ?_
  conv => whnf
  refine ⟨(by first | rfl | (simp; done) | (simp; rfl)), (by trivial), ?_, ?_⟩
  · intro k _ hk _
    have hkl : k < (leftL d s r.1 plan plan.length).length := by rw [leftL_len]; exact hk
    have hd1 := d2 _ (List.getElem_mem hk)
    have htk : (((leftL d s r.1 plan plan.length).take k).map encI).length = k := by rw [List.length_map, List.length_take]; omega
    conv => whnf
    repeat' (first | ((first | refine Split.mk (fun h => ?_) (fun h => ?_) | refine CondG.mk (fun h => ?_) (fun h => ?_)) <;> (try simp only [decide_eq_true_eq, decide_eq_false_iff_not, Bool.not_eq_true', Bool.not_eq_false', beq_iff_eq, beq_eq_false_iff_ne, bne_iff_ne, bne_eq_false_iff_eq] at h) <;> (first | (exfalso; first | omega | exact h trivial) | (conv => whnf))) | (refine Ask.mk (by first | omega | (unfold roomOK; simp [cutRows]; done) | (unfold roomOK; simp [cutRows]; omega) | (simp [cutRows]; done) | (simp [cutRows]; omega)) ?_; conv => whnf) | (refine AppG.mk (by first | omega | (unfold roomOK; simp [cutRows]; done) | (unfold roomOK; simp [cutRows]; omega) | (simp [cutRows]; done) | (simp [cutRows]; omega)) ?_; conv => whnf) | (refine SliceG.fr ?_; conv => whnf) | (refine idx_at _ (by with_reducible rfl) (by first | assumption | omega) ?_; conv => whnf) | ((with_reducible refine row_map (by first | assumption | omega) ?_); conv => whnf) | ((with_reducible refine row_set (by first | assumption | omega | (simp only [List.length_set]; omega) | (simp; omega)) ?_); conv => whnf) | fail)
    refine loop_for (plan.length) [] [1, 3, 6, 9, 10, 12, 15, 16, 17, 24, 25, 26] (fun m (_ : Unit) => [(12, .c (.int .i64 (d[k].long - needV s r.1 plan k m))), (26, .c (.int .i64 (m : Int)))]) (fun m (_ : Unit) => []) (fun m (_ : Unit) => True) (()) ?_
    conv => whnf
    refine ⟨?_, (by trivial), ?_, ?_⟩
    · simp only [needV, Int.sub_zero]; rfl
    · intro m _ hm _
      have hn := needV_in s2 f3 f4 plan k m (by omega)
      have hms : m < s.length := by omega
      have hs1 := s2 _ (List.getElem_mem hms)
      conv => whnf
      repeat' (first | ((first | refine Split.mk (fun h => ?_) (fun h => ?_) | refine CondG.mk (fun h => ?_) (fun h => ?_)) <;> (try simp only [decide_eq_true_eq, decide_eq_false_iff_not, Bool.not_eq_true', Bool.not_eq_false', beq_iff_eq, beq_eq_false_iff_ne, bne_iff_ne, bne_eq_false_iff_eq] at h) <;> (first | (exfalso; first | omega | exact h trivial) | (conv => whnf))) | (refine Ask.mk (by first | omega | (unfold roomOK; simp [cutRows]; done) | (unfold roomOK; simp [cutRows]; omega) | (simp [cutRows]; done) | (simp [cutRows]; omega)) ?_; conv => whnf) | (refine AppG.mk (by first | omega | (unfold roomOK; simp [cutRows]; done) | (unfold roomOK; simp [cutRows]; omega) | (simp [cutRows]; done) | (simp [cutRows]; omega)) ?_; conv => whnf) | (refine SliceG.fr ?_; conv => whnf) | (refine idx_at _ (by with_reducible rfl) (by first | assumption | omega) ?_; conv => whnf) | ((with_reducible refine row_map (by first | assumption | omega) ?_); conv => whnf) | ((with_reducible refine row_set (by first | assumption | omega | (simp only [List.length_set]; omega) | (simp; omega)) ?_); conv => whnf) | fail)
      all_goals simp only [Int.toNat_natCast] at *
      · exact count_next () hm (by rw [wrap_succ hm (by omega), wrap_in (x := s[m].long + r.1) (by omega) (by omega), wrap_in (by omega) (by omega), needV_hit hm hms (by assumption), Int.sub_sub]; rfl) trivial
      · exact count_next () hm (by rw [wrap_succ hm (by omega), needV_miss hm (by assumption)]; rfl) trivial
    · intro _ _
      conv => whnf
      repeat' (first | ((first | refine Split.mk (fun h => ?_) (fun h => ?_) | refine CondG.mk (fun h => ?_) (fun h => ?_)) <;> (try simp only [decide_eq_true_eq, decide_eq_false_iff_not, Bool.not_eq_true', Bool.not_eq_false', beq_iff_eq, beq_eq_false_iff_ne, bne_iff_ne, bne_eq_false_iff_eq] at h) <;> (first | (exfalso; first | omega | exact h trivial) | (conv => whnf))) | (refine Ask.mk (by first | omega | (unfold roomOK; simp [cutRows]; done) | (unfold roomOK; simp [cutRows]; omega) | (simp [cutRows]; done) | (simp [cutRows]; omega)) ?_; conv => whnf) | (refine AppG.mk (by first | omega | (unfold roomOK; simp [cutRows]; done) | (unfold roomOK; simp [cutRows]; omega) | (simp [cutRows]; done) | (simp [cutRows]; omega)) ?_; conv => whnf) | (refine SliceG.fr ?_; conv => whnf) | (refine idx_at _ (by with_reducible rfl) (by first | assumption | omega) ?_; conv => whnf) | ((with_reducible refine row_map (by first | assumption | omega) ?_); conv => whnf) | ((with_reducible refine row_set (by first | assumption | omega | (simp only [List.length_set]; omega) | (simp; omega)) ?_); conv => whnf) | fail)
      have hgd : d.getD k default = d[k] := by simp [hk]
      exact count_next () hk (by rw [wrap_succ hk (by omega), List.take_succ_eq_append_getElem hkl, leftL_get hkl, hgd]; simp only [List.map_append]; rfl) trivial
  · intro _ _
    conv => whnf
    repeat' (first | ((first | refine Split.mk (fun h => ?_) (fun h => ?_) | refine CondG.mk (fun h => ?_) (fun h => ?_)) <;> (try simp only [decide_eq_true_eq, decide_eq_false_iff_not, Bool.not_eq_true', Bool.not_eq_false', beq_iff_eq, beq_eq_false_iff_ne, bne_iff_ne, bne_eq_false_iff_eq] at h) <;> (first | (exfalso; first | omega | exact h trivial) | (conv => whnf))) | (refine Ask.mk (by first | omega | (unfold roomOK; simp [cutRows]; done) | (unfold roomOK; simp [cutRows]; omega) | (simp [cutRows]; done) | (simp [cutRows]; omega)) ?_; conv => whnf) | (refine AppG.mk (by first | omega | (unfold roomOK; simp [cutRows]; done) | (unfold roomOK; simp [cutRows]; omega) | (simp [cutRows]; done) | (simp [cutRows]; omega)) ?_; conv => whnf) | (refine SliceG.fr ?_; conv => whnf) | (refine idx_at _ (by with_reducible rfl) (by first | assumption | omega) ?_; conv => whnf) | ((with_reducible refine row_map (by first | assumption | omega) ?_); conv => whnf) | ((with_reducible refine row_set (by first | assumption | omega | (simp only [List.length_set]; omega) | (simp; omega)) ?_); conv => whnf) | fail)
    exact .mk ⟨rfl, by rw [List.take_of_length_le (by rw [leftL_len]; omega)]⟩
set_option maxRecDepth 100000 in
set_option maxHeartbeats 4000000 in
theorem rWasteRow_pc (d s : List Pc) (r : Int × Int) (plan : List Int) (ha : leftE d s r plan = 0) :
    PCp 39 [.c (.lst 3 (d.map encPc)), .c (.lst 3 (s.map encPc)), .agg [.int .i64 r.1, .int .i64 r.2], .c (.row 0)] [.row 3 1 (plan.map encI)]
      (.c (.int .i64 (wasteV d s r plan))) [.row 3 1 (plan.map encI)] := by
  have hlp : (plan.map encI).length = plan.length := List.length_map ..
  obtain ⟨hae, hpl, hpe, hne⟩ := leftE_ok ha
  obtain ⟨f1, f2, f3, f4, f5, f6⟩ := allErr_ok hae
  obtain ⟨d1, d2⟩ := pcFault_ok f1
  obtain ⟨s1, s2⟩ := pcFault_ok f2
  have hW : wasteV d s r plan = wasteN r plan (leftL d s r.1 plan plan.length) := by rw [wasteV, if_pos ha, leftV, if_pos ha]
  rw [hW]
  refine fn_sound (mt := mts) tab_fits tab_mixed Tryz.func39 (by rfl) (by kernel_rfl) (by kernel_rfl) Tryz.results39 (Nat.le_of_ble_eq_true (by kernel_rfl)) ?_
  conv => whnf
  refine loop_for (plan.length) [] [0, 1, 3, 6, 9, 14, 15, 16] (fun m (_ : Unit) => [(9, .c (.int .i64 (lostV r.1 plan m))), (16, .c (.int .i64 (m : Int)))]) (fun m (_ : Unit) => []) (fun m (_ : Unit) => True) (()) ?_
  conv => whnf
  refine ⟨(by first | rfl | (simp; done) | (simp; rfl)), (by trivial), ?_, ?_⟩
  · intro m _ hm _
    have hv := lostV_in f3 f4 plan m
    conv => whnf
    repeat' (first | ((first | refine Split.mk (fun h => ?_) (fun h => ?_) | refine CondG.mk (fun h => ?_) (fun h => ?_)) <;> (try simp only [decide_eq_true_eq, decide_eq_false_iff_not, Bool.not_eq_true', Bool.not_eq_false', beq_iff_eq, beq_eq_false_iff_ne, bne_iff_ne, bne_eq_false_iff_eq] at h) <;> (first | (exfalso; first | omega | exact h trivial) | (conv => whnf))) | (refine Ask.mk (by first | omega | (unfold roomOK; simp [cutRows]; done) | (unfold roomOK; simp [cutRows]; omega) | (simp [cutRows]; done) | (simp [cutRows]; omega)) ?_; conv => whnf) | (refine AppG.mk (by first | omega | (unfold roomOK; simp [cutRows]; done) | (unfold roomOK; simp [cutRows]; omega) | (simp [cutRows]; done) | (simp [cutRows]; omega)) ?_; conv => whnf) | (refine SliceG.fr ?_; conv => whnf) | (refine idx_at _ (by with_reducible rfl) (by first | assumption | omega) ?_; conv => whnf) | ((with_reducible refine row_map (by first | assumption | omega) ?_); conv => whnf) | ((with_reducible refine row_set (by first | assumption | omega | (simp only [List.length_set]; omega) | (simp; omega)) ?_); conv => whnf) | fail)
    all_goals simp only [Int.toNat_natCast] at *
    · exact count_next () hm (by rw [wrap_succ hm (by omega), wrap_in (by omega) (by omega), lostV, if_neg (by simpa [hm] using h)]; rfl) trivial
    · exact count_next () hm (by rw [wrap_succ hm (by omega), lostV, if_pos (by simpa [hm] using h), Int.add_zero]; rfl) trivial
  · intro _ _
    have hv := lostV_in f3 f4 plan plan.length
    conv => whnf
    repeat' (first | ((first | refine Split.mk (fun h => ?_) (fun h => ?_) | refine CondG.mk (fun h => ?_) (fun h => ?_)) <;> (try simp only [decide_eq_true_eq, decide_eq_false_iff_not, Bool.not_eq_true', Bool.not_eq_false', beq_iff_eq, beq_eq_false_iff_ne, bne_iff_ne, bne_eq_false_iff_eq] at h) <;> (first | (exfalso; first | omega | exact h trivial) | (conv => whnf))) | (refine CallX.mk _ _ (by first | exact rLeftRow_pc d s r plan hae (by omega)) ?_; conv => whnf) | (refine CallG.mk _ _ (by first | exact rLeftRow_pc d s r plan hae (by omega)) ?_; conv => whnf) | (refine Ask.mk (by first | omega | (unfold roomOK; simp [cutRows]; done) | (unfold roomOK; simp [cutRows]; omega) | (simp [cutRows]; done) | (simp [cutRows]; omega)) ?_; conv => whnf) | (refine AppG.mk (by first | omega | (unfold roomOK; simp [cutRows]; done) | (unfold roomOK; simp [cutRows]; omega) | (simp [cutRows]; done) | (simp [cutRows]; omega)) ?_; conv => whnf) | (refine SliceG.fr ?_; conv => whnf) | (refine idx_at _ (by with_reducible rfl) (by first | assumption | omega) ?_; conv => whnf) | ((with_reducible refine row_map (by first | assumption | omega) ?_); conv => whnf) | ((with_reducible refine row_set (by first | assumption | omega | (simp only [List.length_set]; omega) | (simp; omega)) ?_); conv => whnf) | fail)
    have hll := leftL_len d s r.1 plan plan.length
    generalize leftL d s r.1 plan plan.length = l at *
    have hlm : (l.map encI).length = l.length := List.length_map ..
    have hne' := hne
    refine loop_for (l.length) [] [3, 6, 9, 31, 32, 33] (fun k (_ : Unit) => [(9, .c (.int .i64 (lostV r.1 plan plan.length + restV r.2 plan l k))), (33, .c (.int .i64 (k : Int)))]) (fun k (_ : Unit) => []) (fun k (_ : Unit) => True) (()) ?_
    conv => whnf
    refine ⟨?_, (by trivial), ?_, ?_⟩
    · simp only [restV, Int.add_zero]; rfl
    · intro k _ hk _
      have hv2 := restV_in f6 plan hne' k
      conv => whnf
      repeat' (first | ((first | refine Split.mk (fun h => ?_) (fun h => ?_) | refine CondG.mk (fun h => ?_) (fun h => ?_)) <;> (try simp only [decide_eq_true_eq, decide_eq_false_iff_not, Bool.not_eq_true', Bool.not_eq_false', beq_iff_eq, beq_eq_false_iff_ne, bne_iff_ne, bne_eq_false_iff_eq] at h) <;> (first | (exfalso; first | omega | exact h trivial) | (conv => whnf))) | (refine CallX.mk _ _ (by first | exact containsIR_pc _ _ (by omega)) ?_; conv => whnf) | (refine CallG.mk _ _ (by first | exact containsIR_pc _ _ (by omega)) ?_; conv => whnf) | (refine Ask.mk (by first | omega | (unfold roomOK; simp [cutRows]; done) | (unfold roomOK; simp [cutRows]; omega) | (simp [cutRows]; done) | (simp [cutRows]; omega)) ?_; conv => whnf) | (refine AppG.mk (by first | omega | (unfold roomOK; simp [cutRows]; done) | (unfold roomOK; simp [cutRows]; omega) | (simp [cutRows]; done) | (simp [cutRows]; omega)) ?_; conv => whnf) | (refine SliceG.fr ?_; conv => whnf) | (refine idx_at _ (by with_reducible rfl) (by first | assumption | omega) ?_; conv => whnf) | ((with_reducible refine row_map (by first | assumption | omega) ?_); conv => whnf) | ((with_reducible refine row_set (by first | assumption | omega | (simp only [List.length_set]; omega) | (simp; omega)) ?_); conv => whnf) | fail)
      all_goals simp only [Int.toNat_natCast] at *
      · rename_i h1
        have hv3 : 0 ≤ l[k] := by have h3 := List.any_eq_false.1 hne' _ (List.getElem_mem hk); simpa using h3
        exact count_next () hk (by rw [wrap_succ hk (by omega), wrap_in (by omega) (by omega), restV_hit hk (by assumption) (by assumption)]; rfl) trivial
      · have h9 : ¬ l[k] < r.2 := by assumption
        exact count_next () hk (by rw [wrap_succ hk (by omega), restV_miss hk (fun q => h9 q.1)]; rfl) trivial
      · have h9 : plan.any (fun x => (k : Int) == x) = false := by assumption
        exact count_next () hk (by rw [wrap_succ hk (by omega), restV_miss hk (fun q => by rw [q.2] at h9; cases h9)]; rfl) trivial
    · intro _ _
      conv => whnf
      repeat' (first | ((first | refine Split.mk (fun h => ?_) (fun h => ?_) | refine CondG.mk (fun h => ?_) (fun h => ?_)) <;> (try simp only [decide_eq_true_eq, decide_eq_false_iff_not, Bool.not_eq_true', Bool.not_eq_false', beq_iff_eq, beq_eq_false_iff_ne, bne_iff_ne, bne_eq_false_iff_eq] at h) <;> (first | (exfalso; first | omega | exact h trivial) | (conv => whnf))) | (refine Ask.mk (by first | omega | (unfold roomOK; simp [cutRows]; done) | (unfold roomOK; simp [cutRows]; omega) | (simp [cutRows]; done) | (simp [cutRows]; omega)) ?_; conv => whnf) | (refine AppG.mk (by first | omega | (unfold roomOK; simp [cutRows]; done) | (unfold roomOK; simp [cutRows]; omega) | (simp [cutRows]; done) | (simp [cutRows]; omega)) ?_; conv => whnf) | (refine SliceG.fr ?_; conv => whnf) | (refine idx_at _ (by with_reducible rfl) (by first | assumption | omega) ?_; conv => whnf) | ((with_reducible refine row_map (by first | assumption | omega) ?_); conv => whnf) | ((with_reducible refine row_set (by first | assumption | omega | (simp only [List.length_set]; omega) | (simp; omega)) ?_); conv => whnf) | fail)
      exact .mk ⟨rfl, rfl⟩
end Go.Proofs.YtobcplhaabaemaaGreatDoor

/- A store, as the program follows it. -/
namespace Go.Proofs.YtobcplhaabaemaaGreatDoor
set_option linter.unusedVariables false
set_option linter.unusedSimpArgs false
open Abs

abbrev bE : ByteArray := ⟨#[]⟩
structure Sto where
  d : SM ByteArray (ByteArray × Int)
  k : SM ByteArray ByteArray
structure Sto.ok (s : Sto) : Prop where
  d : s.d.ok
  k : s.k.ok
end Go.Proofs.YtobcplhaabaemaaGreatDoor

/- What was used, as the program counts it. -/
namespace Go.Proofs.YtobcplhaabaemaaGreatDoor
set_option linter.unusedVariables false
set_option linter.unusedSimpArgs false
open Abs

end Go.Proofs.YtobcplhaabaemaaGreatDoor

/- The least stock, as the program finds it. -/
namespace Go.Proofs.YtobcplhaabaemaaGreatDoor
set_option linter.unusedVariables false
set_option linter.unusedSimpArgs false
open Abs

end Go.Proofs.YtobcplhaabaemaaGreatDoor

/- The least stock, as the program finds it: all acts. -/
namespace Go.Proofs.YtobcplhaabaemaaGreatDoor
set_option linter.unusedVariables false
set_option linter.unusedSimpArgs false
open Abs

end Go.Proofs.YtobcplhaabaemaaGreatDoor

/- The document's store. -/
namespace Go.Proofs.YtobcplhaabaemaaGreatDoor
set_option linter.unusedVariables false
set_option linter.unusedSimpArgs false
open Abs

structure Rto where
  l : SM ByteArray Int
  k : SM ByteArray ByteArray
structure Rto.ok (s : Rto) : Prop where
  l : s.l.ok
  k : s.k.ok
end Go.Proofs.YtobcplhaabaemaaGreatDoor

/- What was used, by the document. -/
namespace Go.Proofs.YtobcplhaabaemaaGreatDoor
set_option linter.unusedVariables false
set_option linter.unusedSimpArgs false
open Abs

end Go.Proofs.YtobcplhaabaemaaGreatDoor

/- Stock at a moment, by the document. -/
namespace Go.Proofs.YtobcplhaabaemaaGreatDoor
set_option linter.unusedVariables false
set_option linter.unusedSimpArgs false
open Abs

end Go.Proofs.YtobcplhaabaemaaGreatDoor

/- Sorted lists: sorting by insertion sorts; lists that rise by keys are told by what they hold. -/
namespace Go.Proofs.YtobcplhaabaemaaGreatDoor
set_option linter.unusedVariables false
set_option linter.unusedSimpArgs false
open Abs

/-- in order up to m, but for the one at j, which is not greater than any behind it -/
def InsInv {α : Type} (c : α → α → Int) (m j : Nat) (l : List α) : Prop :=
  (∀ i k x y, i < k → k ≤ m → i ≠ j → k ≠ j → l[i]? = some x → l[k]? = some y → ¬ c y x < 0) ∧ ∀ k x y, j < k → k ≤ m → l[j]? = some x → l[k]? = some y → ¬ c y x < 0
def SrtTo {α : Type} (c : α → α → Int) (n : Nat) (l : List α) : Prop := ∀ i k x y, i < k → k < n → l[i]? = some x → l[k]? = some y → ¬ c y x < 0
theorem insDown_srt {α : Type} {c : α → α → Int} (hc : SWOc c) (m : Nat) : ∀ (j : Nat) (l : List α), j ≤ m → m < l.length → InsInv c m j l → SrtTo c (m + 1) (insDown c 0 j l)
  | 0, l, _, hm, ⟨h1, h2⟩ => by
    intro i k x y hik hk hx hy
    rw [insDown] at hx hy
    by_cases e : i = 0
    · subst e; exact h2 k x y hik (by omega) hx hy
    · exact h1 i k x y hik (by omega) e (by omega) hx hy
  | j + 1, l, hj, hm, ⟨h1, h2⟩ => by
    by_cases hlt : c (l[j + 1]'(by omega)) (l[j]'(by omega)) < 0
    · rw [insDown_step (by omega) (by omega) hlt]
      refine insDown_srt hc m j _ (by omega) (by simpa using hm) ⟨?_, ?_⟩
      · intro i k x y hik hk hij hkj hx hy
        rw [List.getElem?_set_ne (Ne.symm hij)] at hx
        rw [List.getElem?_set_ne (Ne.symm hkj)] at hy
        by_cases e1 : k = j + 1
        · subst e1
          rw [List.getElem?_set_ne (by omega)] at hx
          rw [List.getElem?_set_self (by omega)] at hy
          cases hy
          exact h1 i j x _ (by omega) (by omega) (by omega) (by omega) hx (List.getElem?_eq_getElem (by omega))
        · by_cases e2 : i = j + 1
          · subst e2
            rw [List.getElem?_set_self (by omega)] at hx
            rw [List.getElem?_set_ne (by omega)] at hy
            cases hx
            exact h1 j k _ y (by omega) hk (by omega) e1 (List.getElem?_eq_getElem (by omega)) hy
          · rw [List.getElem?_set_ne (by omega)] at hx hy
            exact h1 i k x y hik hk e2 e1 hx hy
      · intro k x y hjk hk hx hy
        rw [List.getElem?_set_self (by simp; omega)] at hx
        cases hx
        rw [List.getElem?_set_ne (by omega)] at hy
        by_cases e1 : k = j + 1
        · subst e1
          rw [List.getElem?_set_self (by omega)] at hy
          cases hy
          intro h6
          exact hc.irrefl _ (hc.trans _ _ _ hlt h6)
        · rw [List.getElem?_set_ne (by omega)] at hy
          exact h2 k _ y (by omega) hk (List.getElem?_eq_getElem (by omega)) hy
    · rw [insDown_stop (by omega) hlt]
      intro i k x y hik hk hx hy
      by_cases e1 : k = j + 1
      · subst e1
        rw [List.getElem?_eq_getElem (by omega)] at hy
        cases hy
        by_cases e2 : i = j
        · subst e2
          rw [List.getElem?_eq_getElem (by omega)] at hx
          cases hx
          exact hlt
        · exact hc.ntrans _ _ _ hlt (h1 i j x _ (by omega) (by omega) (by omega) (by omega) hx (List.getElem?_eq_getElem (by omega)))
      · by_cases e2 : i = j + 1
        · subst e2; exact h2 k x y hik (by omega) hx hy
        · exact h1 i k x y hik (by omega) e2 e1 hx hy
theorem insTo_srt {α : Type} {c : α → α → Int} (hc : SWOc c) (l : List α) : ∀ m, m < l.length → SrtTo c (m + 1) (insTo c 0 m l)
  | 0, _ => fun i k x y h1 h2 => by omega
  | m + 1, h => by
    have ih := insTo_srt hc l m (by omega)
    rw [insTo, show 0 + 1 + m = m + 1 by omega]
    refine insDown_srt hc (m + 1) (m + 1) _ (Nat.le_refl _) (by rw [insTo_len]; exact h) ⟨?_, ?_⟩
    · intro i k x y hik hk _ hk2 hx hy
      exact ih i k x y hik (by omega) hx hy
    · intro k x y h1 h2; omega
theorem insSort_srt {α : Type} {c : α → α → Int} (hc : SWOc c) (l : List α) : (insSort c l).Pairwise fun x y => ¬ c y x < 0 := by
  unfold insSort
  cases h : l with
  | nil => exact List.Pairwise.nil
  | cons a r =>
    rw [← h]
    have h0 : 0 < l.length := by rw [h]; simp
    have := insTo_srt hc l (l.length - 1) (by omega)
    rw [List.pairwise_iff_getElem]
    intro i k hi hk hik
    have hlen := insTo_len c 0 (l.length - 1) l
    exact this i k _ _ hik (by omega) (List.getElem?_eq_getElem hi) (List.getElem?_eq_getElem hk)
theorem swo_key {α : Type} (key : α → ByteArray) : SWOc fun a b : α => cmpS (key a) (key b) where
  irrefl x := by rw [cmp_lt, ltB_irr]; simp
  trans x y z h1 h2 := cmp_lt.2 (ltB_trans (cmp_lt.1 h1) (cmp_lt.1 h2))
  ntrans x y z h1 h2 := by
    rw [cmp_lt] at h1 h2 ⊢
    intro h3
    rcases ltB_tri (key x) (key y) with h | h | h
    · exact h1 h
    · rw [h] at h3; exact h2 h3
    · exact h2 (ltB_trans h h3)
theorem rise_of {α : Type} {key : α → ByteArray} {l : List α} (h : l.Pairwise fun x y => ¬ cmpS (key y) (key x) < 0) (hn : (l.map key).Nodup) : Rise key l := by
  unfold Rise
  have hn' : l.Pairwise fun x y => key x ≠ key y := List.pairwise_map.1 hn
  refine (h.and hn').imp ?_
  rintro x y ⟨h1, h2⟩
  rw [cmp_lt] at h1
  rcases ltB_tri (key x) (key y) with h | h | h
  · exact h
  · exact (h2 h).elim
  · exact (h1 h).elim
end Go.Proofs.YtobcplhaabaemaaGreatDoor

/- Strings sorted (a few), and what numbers look like: Itoa by the kit's contract. -/
namespace Go.Proofs.YtobcplhaabaemaaGreatDoor
set_option linter.unusedVariables false
set_option linter.unusedSimpArgs false
open Abs

set_option maxRecDepth 100000 in
set_option maxHeartbeats 4000000 in
theorem isNaNO_pc (s : ByteArray) : PCp 119 [.c (.str s)] [] (.c (.bool false)) [] := by
  refine fn_sound (mt := mts) tab_fits tab_mixed Tryz.func119 (by rfl) (by kernel_rfl) (by kernel_rfl) Tryz.results119 (Nat.le_of_ble_eq_true (by kernel_rfl)) ?_
  conv => whnf
  exact finb (by simp)
set_option maxRecDepth 100000 in
set_option maxHeartbeats 4000000 in
theorem lessO_pc (a b : ByteArray) : PCp 89 [.c (.str a), .c (.str b)] [] (.c (.bool (ltB a b))) [] := by
  refine fn_sound (mt := mts) tab_fits tab_mixed Tryz.func89 (by rfl) (by kernel_rfl) (by kernel_rfl) Tryz.results89 (Nat.le_of_ble_eq_true (by kernel_rfl)) ?_
  conv => whnf
  repeat' (first | ((first | refine Split.mk (fun h => ?_) (fun h => ?_) | refine CondG.mk (fun h => ?_) (fun h => ?_)) <;> (try simp only [decide_eq_true_eq, decide_eq_false_iff_not, Bool.not_eq_true', Bool.not_eq_false', beq_iff_eq, beq_eq_false_iff_ne, bne_iff_ne, bne_eq_false_iff_eq] at h) <;> (first | (exfalso; first | omega | exact h trivial) | (conv => whnf))) | (refine CallX.mk _ _ (by first | exact isNaNO_pc _) ?_; conv => whnf) | (refine CallG.mk _ _ (by first | exact isNaNO_pc _) ?_; conv => whnf) | (refine Ask.mk (by first | omega | (unfold roomOK; simp [cutRows]; done) | (unfold roomOK; simp [cutRows]; omega) | (simp [cutRows]; done) | (simp [cutRows]; omega)) ?_; conv => whnf) | (refine AppG.mk (by first | omega | (unfold roomOK; simp [cutRows]; done) | (unfold roomOK; simp [cutRows]; omega) | (simp [cutRows]; done) | (simp [cutRows]; omega)) ?_; conv => whnf) | (refine SliceG.fr ?_; conv => whnf) | (refine idx_at _ (by with_reducible rfl) (by first | assumption | omega) ?_; conv => whnf) | ((with_reducible refine row_map (by first | assumption | omega) ?_); conv => whnf) | ((with_reducible refine row_set (by first | assumption | omega | (simp only [List.length_set]; omega) | (simp; omega)) ?_); conv => whnf) | fail)
  all_goals exact finb (by simp_all [ltB])
set_option maxRecDepth 100000 in
set_option maxHeartbeats 4000000 in
theorem insS_pc (a b : Nat) (l : List ByteArray) (ha : a ≤ l.length) (hb : b ≤ l.length) (hl : l.length ≤ 1000000000) :
    PCp 83 [.c (.row 0), .c (.int .i64 a), .c (.int .i64 b)] [.row 9 1 (l.map encS)] (.tup []) [.row 9 1 ((insTo cmpS a (b - (a + 1)) l).map encS)] := by
  have hw : IntKind.i64.wrap ((a : Int) + 1) = ((a + 1 : Nat) : Int) := by rw [wrap_in (by omega) (by omega)]; rfl
  refine fn_sound (mt := mts) tab_fits tab_mixed Tryz.func83 (by rfl) (by kernel_rfl) (by kernel_rfl) Tryz.results83 (Nat.le_of_ble_eq_true (by kernel_rfl)) ?_
  conv => whnf
  rw [hw]
  refine loop_count (b - (a + 1)) [] [0, 1, 2, 6] (fun k (_ : Unit) => ⟨[(0, .c (.row 0)), (1, .c (.int .i64 a)), (2, .c (.int .i64 b)), (6, .c (.int .i64 ((a + 1 + k : Nat) : Int)))], [(0, .row 9 1 ((insTo cmpS a k l).map encS))], 1⟩) (fun k (_ : Unit) => True) (()) ?_ ?_ ?_
  · conv => whnf
    exact ⟨rfl, trivial⟩
  · intro k _ hk _
    have hlen := insTo_len cmpS a k l
    conv => whnf
    refine .mk (fun h => ?_) (fun h => ?_)
    rotate_left
    · simp at h; omega
    conv => whnf
    refine loop_meas2 (fun (j : Nat) (q : List ByteArray) => j) [] [0, 1, 2, 6, 7] (fun (j : Nat) (q : List ByteArray) => ⟨[(0, .c (.row 0)), (1, .c (.int .i64 a)), (2, .c (.int .i64 b)), (6, .c (.int .i64 ((a + 1 + k : Nat) : Int))), (7, .c (.int .i64 ((j : Nat) : Int)))], [(0, .row 9 1 (q.map encS))], 1⟩) (fun (j : Nat) (q : List ByteArray) => insDown cmpS a j q = insTo cmpS a (k + 1) l ∧ j < l.length ∧ q.length = l.length) (a + 1 + k) (insTo cmpS a k l) ?_ ?_
    · conv => whnf
      exact ⟨rfl, rfl, by omega, by omega⟩
    · intro j q ⟨h1, h2, h3⟩
      conv => whnf
      repeat' (first | ((first | refine Split.mk (fun h => ?_) (fun h => ?_) | refine CondG.mk (fun h => ?_) (fun h => ?_)) <;> (try simp only [decide_eq_true_eq, decide_eq_false_iff_not, Bool.not_eq_true', Bool.not_eq_false', beq_iff_eq, beq_eq_false_iff_ne] at h) <;> (first | (exfalso; first | omega | exact h trivial) | (conv => whnf))) | (refine Ask.mk (by first | omega | (unfold roomOK; simp [cutRows]; done) | (unfold roomOK; simp [cutRows]; omega)) ?_; conv => whnf) | (refine AppG.mk (by first | omega | (unfold roomOK; simp [cutRows]; done) | (unfold roomOK; simp [cutRows]; omega)) ?_; conv => whnf) | (refine SliceG.fr ?_; conv => whnf) | fail)
      · -- one more to the left?
        obtain ⟨i, rfl⟩ : ∃ i, j = i + 1 := ⟨j - 1, by omega⟩
        have hw2 : IntKind.i64.wrap (((i + 1 : Nat) : Int) - 1) = ((i : Nat) : Int) := by rw [wrap_in (by omega) (by omega)]; omega
        refine .mk (by rw [List.length_map]; omega) ?_
        conv => whnf
        refine row_at (i + 1) toN (by omega) ?_
        conv => whnf
        rw [hw2]
        refine .mk (by rw [List.length_map]; omega) ?_
        conv => whnf
        refine row_at i toN (by omega) ?_
        conv => whnf
        repeat' (first | ((first | refine Split.mk (fun h => ?_) (fun h => ?_) | refine CondG.mk (fun h => ?_) (fun h => ?_)) <;> (try simp only [decide_eq_true_eq, decide_eq_false_iff_not, Bool.not_eq_true', Bool.not_eq_false', beq_iff_eq, beq_eq_false_iff_ne, bne_iff_ne, bne_eq_false_iff_eq] at h) <;> (first | (exfalso; first | omega | exact h trivial) | (conv => whnf))) | (refine CallX.mk _ _ (by first | exact lessO_pc _ _) ?_; conv => whnf) | (refine CallG.mk _ _ (by first | exact lessO_pc _ _) ?_; conv => whnf) | (refine Ask.mk (by first | omega | (unfold roomOK; simp [cutRows]; done) | (unfold roomOK; simp [cutRows]; omega) | (simp [cutRows]; done) | (simp [cutRows]; omega)) ?_; conv => whnf) | (refine AppG.mk (by first | omega | (unfold roomOK; simp [cutRows]; done) | (unfold roomOK; simp [cutRows]; omega) | (simp [cutRows]; done) | (simp [cutRows]; omega)) ?_; conv => whnf) | (refine SliceG.fr ?_; conv => whnf) | (refine idx_at _ (by with_reducible rfl) (by first | assumption | omega) ?_; conv => whnf) | ((with_reducible refine row_map (by first | assumption | omega) ?_); conv => whnf) | ((with_reducible refine row_set (by first | assumption | omega | (simp only [List.length_set]; omega) | (simp; omega)) ?_); conv => whnf) | fail)
        · rw [insDown_step (by omega) (by omega) (cmp_lt.2 h)] at h1
          repeat' (first | ((first | refine Split.mk (fun h => ?_) (fun h => ?_) | refine CondG.mk (fun h => ?_) (fun h => ?_)) <;> (try simp only [decide_eq_true_eq, decide_eq_false_iff_not, Bool.not_eq_true', Bool.not_eq_false', beq_iff_eq, beq_eq_false_iff_ne] at h) <;> (first | (exfalso; first | omega | exact h trivial) | (conv => whnf))) | (refine Ask.mk (by first | omega | (unfold roomOK; simp [cutRows]; done) | (unfold roomOK; simp [cutRows]; omega)) ?_; conv => whnf) | (refine AppG.mk (by first | omega | (unfold roomOK; simp [cutRows]; done) | (unfold roomOK; simp [cutRows]; omega)) ?_; conv => whnf) | (refine SliceG.fr ?_; conv => whnf) | fail)
          rw [hw2]
          refine .mk (by rw [List.length_map]; omega) ?_
          conv => whnf
          refine row_at i toN (by omega) ?_
          conv => whnf
          refine .mk (by rw [List.length_map]; omega) ?_
          conv => whnf
          refine row_at (i + 1) toN (by omega) ?_
          conv => whnf
          refine .mk (by rw [List.length_map]; omega) ?_
          conv => whnf
          refine row_at (i + 1) toN (by omega) ?_
          conv => whnf
          refine .mk (by rw [List.length_set, List.length_map]; omega) ?_
          conv => whnf
          refine .mk (encS (q[i]'(by omega))) (by rw [toN, toN, List.getElem?_set_ne (by omega)]; simp [show i < q.length by omega]) ?_
          conv => whnf
          refine meas_next (i, (q.set (i + 1) (q[i]'(by omega))).set i (q[i + 1]'(by omega))) (by simp only; omega) (by rw [toN, toN, hw2]; simp only [List.map_set]; rfl) ⟨h1, by simp only; omega, by simp [h3]⟩
        · rw [insDown_stop (by omega) (fun e => by rw [cmp_lt.1 e] at h; cases h)] at h1
          conv => whnf
          refine count_next () hk (by rw [h1, show IntKind.i64.wrap (((a + 1 + k : Nat) : Int) + 1) = ((a + 1 + (k + 1) : Nat) : Int) by rw [wrap_in (by omega) (by omega)]; omega]; rfl) trivial
      · rw [insDown_low (by omega)] at h1
        refine count_next () hk (by rw [h1, show IntKind.i64.wrap (((a + 1 + k : Nat) : Int) + 1) = ((a + 1 + (k + 1) : Nat) : Int) by rw [wrap_in (by omega) (by omega)]; omega]; rfl) trivial
  · intro _ _
    have hlen := insTo_len cmpS a (b - (a + 1)) l
    conv => whnf
    repeat' (first | ((first | refine Split.mk (fun h => ?_) (fun h => ?_) | refine CondG.mk (fun h => ?_) (fun h => ?_)) <;> (try simp only [decide_eq_true_eq, decide_eq_false_iff_not, Bool.not_eq_true', Bool.not_eq_false', beq_iff_eq, beq_eq_false_iff_ne] at h) <;> (first | (exfalso; first | omega | exact h trivial) | (conv => whnf))) | (refine Ask.mk (by first | omega | (unfold roomOK; simp [cutRows]; done) | (unfold roomOK; simp [cutRows]; omega)) ?_; conv => whnf) | (refine AppG.mk (by first | omega | (unfold roomOK; simp [cutRows]; done) | (unfold roomOK; simp [cutRows]; omega)) ?_; conv => whnf) | (refine SliceG.fr ?_; conv => whnf) | fail)
    exact .mk ⟨rfl, rfl⟩

set_option maxRecDepth 100000 in
set_option maxHeartbeats 4000000 in
theorem sortS_pc (l : List ByteArray) (hl : l.length ≤ 12) : PCp 36 [.c (.row 0)] [.row 9 1 (l.map encS)] (.tup []) [.row 9 1 ((insSort cmpS l).map encS)] := by
  have hlm : (l.map encS).length = l.length := List.length_map ..
  have hst : ∀ lim : Int, PCp 62 [.c (.row 0), .c (.int .i64 0), .c (.int .i64 l.length), .c (.int .i64 lim)] [.row 9 1 (l.map encS)] (.tup []) [.row 9 1 ((insSort cmpS l).map encS)] := by
    intro lim
    have hw : IntKind.i64.wrap ((l.length : Int) - 0) = l.length := by rw [wrap_in (by omega) (by omega)]; omega
    refine fn_sound (mt := mts) tab_fits tab_mixed Tryz.func62 (by rfl) (by kernel_rfl) (by kernel_rfl) Tryz.results62 (Nat.le_of_ble_eq_true (by kernel_rfl)) ?_
    conv => whnf
    refine .un 1 ?_
    conv => whnf
    rw [hw]
    repeat' (first | ((first | refine Split.mk (fun h => ?_) (fun h => ?_) | refine CondG.mk (fun h => ?_) (fun h => ?_)) <;> (try simp only [decide_eq_true_eq, decide_eq_false_iff_not, Bool.not_eq_true', Bool.not_eq_false', beq_iff_eq, beq_eq_false_iff_ne] at h) <;> (first | (exfalso; first | omega | exact h trivial) | (conv => whnf))) | (refine Ask.mk (by first | omega | (unfold roomOK; simp [cutRows]; done) | (unfold roomOK; simp [cutRows]; omega)) ?_; conv => whnf) | (refine AppG.mk (by first | omega | (unfold roomOK; simp [cutRows]; done) | (unfold roomOK; simp [cutRows]; omega)) ?_; conv => whnf) | (refine SliceG.fr ?_; conv => whnf) | fail)
    refine .mk _ _ (insS_pc 0 l.length l (Nat.zero_le _) (Nat.le_refl _) (by omega)) ?_
    conv => whnf
    exact .mk ⟨rfl, rfl⟩
  refine fn_sound (mt := mts) tab_fits tab_mixed Tryz.func36 (by rfl) (by kernel_rfl) (by kernel_rfl) Tryz.results36 (Nat.le_of_ble_eq_true (by kernel_rfl)) ?_
  conv => whnf
  rw [hlm, wrapU64 l.length (by omega)]
  obtain ⟨lim, hlim⟩ := bLen_ex l.length (by omega)
  repeat' (first | ((first | refine Split.mk (fun h => ?_) (fun h => ?_) | refine CondG.mk (fun h => ?_) (fun h => ?_)) <;> (try simp only [decide_eq_true_eq, decide_eq_false_iff_not, Bool.not_eq_true', Bool.not_eq_false', beq_iff_eq, beq_eq_false_iff_ne] at h) <;> (first | (exfalso; first | omega | exact h trivial) | (conv => whnf))) | (refine CallX.mk _ _ (by first | exact hlim | exact hst _) ?_; conv => whnf) | (refine CallG.mk _ _ (by first | exact hlim | exact hst _) ?_; conv => whnf) | (refine Ask.mk (by first | omega | (unfold roomOK; simp [cutRows]; done) | (unfold roomOK; simp [cutRows]; omega)) ?_; conv => whnf) | (refine AppG.mk (by first | omega | (unfold roomOK; simp [cutRows]; done) | (unfold roomOK; simp [cutRows]; omega)) ?_; conv => whnf) | (refine SliceG.fr ?_; conv => whnf) | fail)
  exact .mk ⟨rfl, rfl⟩
/-! what a function of the library gives that makes new memory of its own -/
theorem Nx.grown {F : Nat → Prop} {φ : Nat → Option Value} {w : World} {N : Nat → Prop} {h : Nat → Option Ob} (k : Nat) (os : Array Obj) : Nx F φ w h N [] F φ (Sort.grow (w.drewN k) os) where
  hF _ h := h
  hφ _ _ h := h
  nφ _ _ h := .inl h
  os := rfl
  tape := rfl
  output := rfl
  drawn _ := Nat.le_add_right _ _
  size := by simp [Sort.grow, World.drewN]
  keep b hb hne := (hne (by simp only [Sort.grow, World.drewN]; rw [Array.getElem?_append_left hb])).elim
  nF b h := .inl h
  objs l o h := by simp [chGet] at h
  own l o b h := by simp [chGet] at h
  inj l l' o o' b h := by simp [chGet] at h
theorem PCs.of_laid {P : Program} {f : Nat} {args : List S} {r : S} {cargs : Array Value} {c : Value} (hfn : ∃ fn, P.funcs[f]? = some fn ∧ (fn.name == "runtime.NumGoroutine") = false ∧ fn.body.isNone = false)
    (ha : ∀ (F : Nat → Prop) (φ : Nat → Option Value) (w : World) (cs : Array Value), P2 (RS F φ w) cs.toList args → cs = cargs) (hr : ∀ (F : Nat → Prop) (φ : Nat → Option Value) (w : World), RS F φ w c r) {g : Nat × (Array Value → Prop)} (hg : g ∈ globs)
    (h : ∀ w, (∃ cs t f, g.2 cs ∧ w.heap[g.1]? = some (.cells cs t f)) → Calls P f cargs w fun e w' => e = .returned c ∧ ∃ k os, w' = Sort.grow (w.drewN k) os) : PCs P f args [] r [] := by
  refine ⟨hfn, fun F φ w cs hp hrp hφ => ?_⟩
  have := ha F φ w cs hp
  subst this
  refine (h w (hrp.tb g hg).2).mono ?_
  rintro e w' ⟨rfl, k, os, rfl⟩
  exact ⟨c, F, φ, r, [], ⟨rfl, rfl⟩, rfl, hr F φ _, Nx.grown k os⟩
def itoaB (n : Int) : ByteArray := ⟨(Lib.itoa n).toArray⟩
theorem itoa_pc (n : Int) (h0 : -9223372036854775808 ≤ n) (h1 : n ≤ 9223372036854775807) : PCp 55 [.c (.int .i64 n)] [] (.c (.str (itoaB n))) [] :=
  PCs.of_laid ⟨_, Tryz.func55, by kernel_rfl, by kernel_rfl⟩ (cargs := #[.int .i64 n]) (fun F φ w cs hp => by
    obtain ⟨x, xs, e1, r1, hp⟩ := hp.cons_inv
    have := hp.nil_inv
    subst this
    apply Array.ext'
    rw [e1, r1.int_inv]) (fun F φ w => .c (.tree (.str _))) (g := (1, fun cs => cs = (Lib.pow10Tab.map fun z => Value.int .u64 z).toArray)) (by simp [globs])
    (fun w ⟨cs, t, fm, hcs, hc⟩ => Any.strconv_Itoa layItoa n h0 h1 w (by
      unfold Lib.TabIs World.var?
      rw [show (Tryz.prog).globalNamed "internal/strconv.uint64pow10" = some 1 from by kernel_rfl]
      simp only [Option.bind_some]
      rw [hc, show cs = _ from hcs]))
end Go.Proofs.YtobcplhaabaemaaGreatDoor

/- Lists of acts joined: slices.Grow by the kit's contract, slices.Concat. -/
namespace Go.Proofs.YtobcplhaabaemaaGreatDoor
set_option linter.unusedVariables false
set_option linter.unusedSimpArgs false
open Abs

end Go.Proofs.YtobcplhaabaemaaGreatDoor

/- Stock at a moment, by the document: the list. -/
namespace Go.Proofs.YtobcplhaabaemaaGreatDoor
set_option linter.unusedVariables false
set_option linter.unusedSimpArgs false
open Abs

/-- metres of a type -/
def sumP (kind : ByteArray) : List Pc → Int
  | [] => 0
  | e :: r => (if e.kind = kind then e.long else 0) + sumP kind r
theorem sumP_in (kind : ByteArray) : ∀ (l : List Pc), (∀ e ∈ l, 0 ≤ e.long ∧ e.long ≤ 200000) → 0 ≤ sumP kind l ∧ sumP kind l ≤ 200000 * l.length
  | [], _ => by simp [sumP]
  | e :: r, h => by
    have ih := sumP_in kind r (fun e he => h e (by simp [he]))
    have := h e (by simp)
    simp only [sumP, List.length_cons]
    split <;> omega
end Go.Proofs.YtobcplhaabaemaaGreatDoor

/- Errors of acts and windows, by the document. -/
namespace Go.Proofs.YtobcplhaabaemaaGreatDoor
set_option linter.unusedVariables false
set_option linter.unusedSimpArgs false
open Abs
end Go.Proofs.YtobcplhaabaemaaGreatDoor

/- The two stores are one. -/
namespace Go.Proofs.YtobcplhaabaemaaGreatDoor
set_option linter.unusedVariables false
set_option linter.unusedSimpArgs false
open Abs

section
variable {κ β : Type} [DecidableEq κ]
theorem get_of_mem {s : SM κ β} (h : s.ok) {e : Nat × κ × β} (he : e ∈ s.es) : s.get e.2.1 = some e.2.2 := by
  have hk := h.kn
  unfold SM.get SM.m at *
  generalize s.es = es at he hk
  clear h
  induction es with
  | nil => cases he
  | cons a r ih =>
    simp only [List.map_cons, List.nodup_cons] at hk
    rcases List.mem_cons.1 he with rfl | he
    · simp [mget]
    · have hne : ¬ a.2.1 = e.2.1 := by
        intro h2
        exact hk.1 (by rw [h2]; exact List.mem_map.2 ⟨e.2, List.mem_map.2 ⟨e, he, rfl⟩, rfl⟩)
      have := ih he hk.2
      simpa [mget, List.find?_cons, hne] using this
theorem mem_of_get {s : SM κ β} {x : κ} {y : β} (h : s.get x = some y) : ∃ n, (n, x, y) ∈ s.es := by
  unfold SM.get SM.m at h
  generalize s.es = es at h
  induction es with
  | nil => simp [mget] at h
  | cons a r ih =>
    by_cases hx : a.2.1 = x
    · have hy : a.2.2 = y := by simpa [mget, List.find?_cons, hx] using h
      exact ⟨a.1, by rw [← hx, ← hy]; simp⟩
    · obtain ⟨n, hn⟩ := ih (by simpa [mget, List.find?_cons, hx] using h)
      exact ⟨n, by simp [hn]⟩
end
/-- what the program's store has, by the document's -/
def seen (r : Rto) (d : ByteArray) : Option (ByteArray × Int) := if 0 < (r.l.get d).getD 0 then some ((r.k.get d).getD bE, (r.l.get d).getD 0) else none
end Go.Proofs.YtobcplhaabaemaaGreatDoor

/- Sums over both stores. -/
namespace Go.Proofs.YtobcplhaabaemaaGreatDoor
set_option linter.unusedVariables false
set_option linter.unusedSimpArgs false
open Abs

theorem keys_nd {α : Type} [DecidableEq α] {β : Type} {s : SM α β} (h : s.ok) : (s.es.map (·.2.1)).Nodup := by
  have := h.kn
  rw [SM.m, List.map_map] at this
  exact this
theorem eput_len {κ β : Type} [DecidableEq κ] (c : Nat) : ∀ (es : List (Nat × κ × β)) (x : κ) (y : β), (eput c es x y).length ≤ es.length + 1
  | [], _, _ => by simp [eput]
  | e :: r, x, y => by
    unfold eput
    split
    · simp
    · have := eput_len c r x y; simp; omega
end Go.Proofs.YtobcplhaabaemaaGreatDoor

/- The least stock: both say the same. -/
namespace Go.Proofs.YtobcplhaabaemaaGreatDoor
set_option linter.unusedVariables false
set_option linter.unusedSimpArgs false
open Abs

end Go.Proofs.YtobcplhaabaemaaGreatDoor

/- The store at a moment, by the program. -/
namespace Go.Proofs.YtobcplhaabaemaaGreatDoor
set_option linter.unusedVariables false
set_option linter.unusedSimpArgs false
open Abs

end Go.Proofs.YtobcplhaabaemaaGreatDoor

/- What is in the store at a moment: the lists. -/
namespace Go.Proofs.YtobcplhaabaemaaGreatDoor
set_option linter.unusedVariables false
set_option linter.unusedSimpArgs false
open Abs

theorem PCx.mono {P : Program} {f : Nat} {args : List S} {objs : List Ob} {Q Q' : S → List Ob → Prop} (h : PCx P f args objs Q) (hi : ∀ r os, Q r os → Q' r os) : PCx P f args objs Q' :=
  ⟨h.fn, fun F φ w cs a b c => (h.calls F φ w cs a b c).mono (by rintro e w' ⟨c, F', φ', r, os, hQ, rest⟩; exact ⟨c, F', φ', r, os, hi _ _ hQ, rest⟩)⟩
end Go.Proofs.YtobcplhaabaemaaGreatDoor

/- The store behind the acts of a plan (plain). -/
namespace Go.Proofs.YtobcplhaabaemaaGreatDoor
set_option linter.unusedVariables false
set_option linter.unusedSimpArgs false
open Abs

theorem pcsErr_keys : ∀ (l : List Pc) (f : Bool) (b : ByteArray), pcsErr f b l = 0 → (∀ x ∈ l, keyB x.key = true ∧ keyB x.kind = true) ∧ Rise Pc.key l ∧ (f = false → ∀ x ∈ l, ltB b x.key = true)
  | [], _, _, _ => ⟨fun x hx => (by cases hx), List.Pairwise.nil, fun _ x hx => (by cases hx)⟩
  | y :: r, f, b, h => by
    simp only [pcsErr] at h
    split at h
    · rename_i h1
      obtain ⟨g1, g2, g3⟩ := pcsErr_keys r _ _ h
      have hk : keyB y.key = true ∧ keyB y.kind = true ∧ (f = false → ltB b y.key = true) := by
        unfold pcErr at h1
        split at h1
        · omega
        · rename_i h2
          simp only [Bool.or_eq_true, Bool.not_eq_true', not_or, Bool.not_eq_false] at h2
          refine ⟨h2.1, h2.2, fun hf => ?_⟩
          split at h1
          · omega
          · rename_i h3
            rw [hf] at h3
            simp only [Bool.not_false, Bool.true_and, Bool.not_eq_true] at h3
            exact leB_not.1 h3
      refine ⟨fun x hx => ?_, List.pairwise_cons.2 ⟨g3 rfl, g2⟩, fun hf x hx => ?_⟩
      · rcases List.mem_cons.1 hx with rfl | hx
        · exact ⟨hk.1, hk.2.1⟩
        · exact g1 x hx
      · rcases List.mem_cons.1 hx with rfl | hx
        · exact hk.2.2 hf
        · exact ltB_trans (hk.2.2 hf) (g3 rfl x hx)
    · rename_i h1; exact absurd h h1
theorem pcFault_keys {l : List Pc} (h : pcFault l = 0) : (∀ x ∈ l, keyB x.key = true ∧ keyB x.kind = true) ∧ Rise Pc.key l := by
  unfold pcFault at h
  split at h
  · omega
  · exact ⟨(pcsErr_keys l _ _ h).1, (pcsErr_keys l _ _ h).2.1⟩
theorem needV_mono {s : List Pc} {lost : Int} (hs : ∀ x ∈ s, 1 ≤ x.long ∧ x.long ≤ 200000) (h0 : 0 ≤ lost) (O : List Int) (k : Nat) {a : Nat} : ∀ {b : Nat}, a ≤ b → b ≤ s.length → needV s lost O k a ≤ needV s lost O k b
  | 0, h, _ => by have : a = 0 := by omega
                  rw [this]; exact Int.le_refl _
  | b + 1, h, hb => by
    by_cases e : a = b + 1
    · rw [e]; exact Int.le_refl _
    · have ih := needV_mono hs h0 O k (a := a) (b := b) (by omega) (by omega)
      have h1 : b < s.length := by omega
      have h2 := hs _ (List.getElem_mem h1)
      have e2 : s.getD b default = s[b] := by simp [List.getD_eq_getElem?_getD, List.getElem?_eq_getElem h1]
      rw [needV, e2]; split <;> omega
end Go.Proofs.YtobcplhaabaemaaGreatDoor

/- Ducts and cables in them: what is computed, as functions on lists. -/
namespace Go.Proofs.YtobcplhaabaemaaGreatDoor
set_option linter.unusedVariables false
set_option linter.unusedSimpArgs false
open Abs

/-! sums -/
end Go.Proofs.YtobcplhaabaemaaGreatDoor

/- Ducts and cables in them: lists searched. -/
namespace Go.Proofs.YtobcplhaabaemaaGreatDoor
set_option linter.unusedVariables false
set_option linter.unusedSimpArgs false
open Abs

def isStr (t : S) : Prop := ∃ key : ByteArray, t = .c (.str key)
end Go.Proofs.YtobcplhaabaemaaGreatDoor

/- Strings searched in two halves; lists copied. -/
namespace Go.Proofs.YtobcplhaabaemaaGreatDoor
set_option linter.unusedVariables false
set_option linter.unusedSimpArgs false
open Abs

end Go.Proofs.YtobcplhaabaemaaGreatDoor

/- Lists made of one number. -/
namespace Go.Proofs.YtobcplhaabaemaaGreatDoor
set_option linter.unusedVariables false
set_option linter.unusedSimpArgs false
open Abs

theorem overR_map {α : Type} {enc : α → List V} {a b c : List α} {o : Nat} (ho : o = a.length) : overR ((a ++ c).map enc) (b.map enc) o = (a ++ b ++ c.drop b.length).map enc := by
  subst ho
  unfold overR
  simp [List.take_append, List.drop_append]
theorem and_mask (n : Nat) (h : n < 4294967296) : bitsV .and .u64 (n : Int) 4294967295 = (n : Int) := by
  have h1 : (BitVec.ofInt 64 (n : Int)).toNat = n := by
    rw [BitVec.ofInt_natCast, BitVec.toNat_ofNat]; exact Nat.mod_eq_of_lt (by omega)
  have h2 : (BitVec.ofInt 64 (4294967295 : Int)).toNat = 2 ^ 32 - 1 := by decide
  show IntKind.u64.wrap (((BitVec.ofInt 64 (n : Int) &&& BitVec.ofInt 64 4294967295).toNat : Nat) : Int) = n
  rw [BitVec.toNat_and, h1, h2, Nat.and_two_pow_sub_one_eq_mod, Nat.mod_eq_of_lt (by omega)]
  exact IntWalk.u64_in _ ⟨by omega, by omega⟩
theorem shr32 (n : Nat) (h : n < 4294967296) : shV .shr .u64 (n : Int) 32 = 0 := by
  show Int.fdiv (n : Int) (2 ^ 32) = 0
  rw [Int.fdiv_eq_ediv_of_nonneg _ (by omega)]; omega
theorem u64_nat (n : Nat) (h : n < 4294967296) : IntKind.u64.wrap (n : Int) = n := IntWalk.u64_in _ ⟨by omega, by omega⟩
set_option maxRecDepth 100000 in
set_option maxHeartbeats 4000000 in
theorem mul64_pc (a b : Nat) (ha : a ≤ 1000) (hb : b ≤ 1000) : PCp 82 [.c (.int .u64 a), .c (.int .u64 b)] [] (.tup [.c (.int .u64 0), .c (.int .u64 ((a * b : Nat) : Int))]) [] := by
  have hab : a * b ≤ 1000000 := Nat.le_trans (Nat.mul_le_mul ha hb) (by decide)
  have e0 : bitsV .and .u64 0 4294967295 = 0 := and_mask 0 (by decide)
  have s0 : shV .shr .u64 0 32 = 0 := shr32 0 (by decide)
  refine fn_sound (mt := mts) tab_fits tab_mixed Tryz.func82 (by rfl) (by kernel_rfl) (by kernel_rfl) Tryz.results82 (Nat.le_of_ble_eq_true (by kernel_rfl)) ?_
  conv => whnf
  repeat' (first | ((first | refine Split.mk (fun h => ?_) (fun h => ?_) | refine CondG.mk (fun h => ?_) (fun h => ?_)) <;> (try simp only [decide_eq_true_eq, decide_eq_false_iff_not, Bool.not_eq_true', Bool.not_eq_false', beq_iff_eq, beq_eq_false_iff_ne, bne_iff_ne, bne_eq_false_iff_eq] at h) <;> (first | (exfalso; first | omega | exact h trivial) | (conv => whnf))) | (refine Ask.mk (by first | omega | (unfold roomOK; simp [cutRows]; done) | (unfold roomOK; simp [cutRows]; omega) | (simp [cutRows]; done) | (simp [cutRows]; omega)) ?_; conv => whnf) | (refine AppG.mk (by first | omega | (unfold roomOK; simp [cutRows]; done) | (unfold roomOK; simp [cutRows]; omega) | (simp [cutRows]; done) | (simp [cutRows]; omega)) ?_; conv => whnf) | (refine SliceG.fr ?_; conv => whnf) | (refine idx_at _ (by with_reducible rfl) (by first | assumption | omega) ?_; conv => whnf) | ((with_reducible refine row_map (by first | assumption | omega) ?_); conv => whnf) | ((with_reducible refine row_set (by first | assumption | omega | (simp only [List.length_set]; omega) | (simp; omega)) ?_); conv => whnf) | fail)
  refine .mk ⟨?_, rfl⟩
  rw [and_mask a (by omega), and_mask b (by omega), shr32 a (by omega), shr32 b (by omega)]
  have w0 : IntKind.u64.wrap 0 = 0 := rfl
  have hm : IntKind.u64.wrap ((a : Int) * (b : Int)) = ((a * b : Nat) : Int) := by rw [← Int.natCast_mul]; exact u64_nat _ (by omega)
  simp only [Int.zero_mul, Int.mul_zero, w0, hm, shr32 (a * b) (by omega), Int.add_zero, e0, s0]
  rfl
set_option maxRecDepth 100000 in
set_option maxHeartbeats 4000000 in
theorem mul_pc (a b : Nat) (ha : a ≤ 1000) (hb : b ≤ 1000) : PCp 61 [.c (.int .u64 a), .c (.int .u64 b)] [] (.tup [.c (.int .u64 0), .c (.int .u64 ((a * b : Nat) : Int))]) [] := by
  refine fn_sound (mt := mts) tab_fits tab_mixed Tryz.func61 (by rfl) (by kernel_rfl) (by kernel_rfl) Tryz.results61 (Nat.le_of_ble_eq_true (by kernel_rfl)) ?_
  conv => whnf
  repeat' (first | ((first | refine Split.mk (fun h => ?_) (fun h => ?_) | refine CondG.mk (fun h => ?_) (fun h => ?_)) <;> (try simp only [decide_eq_true_eq, decide_eq_false_iff_not, Bool.not_eq_true', Bool.not_eq_false', beq_iff_eq, beq_eq_false_iff_ne] at h) <;> (first | (exfalso; first | omega | exact h trivial) | (conv => whnf))) | (refine CallX.mk _ _ (by first | exact mul64_pc a b ha hb) ?_; conv => whnf) | (refine CallG.mk _ _ (by first | exact mul64_pc a b ha hb) ?_; conv => whnf) | (refine Ask.mk (by first | omega | (unfold roomOK; simp [cutRows]; done) | (unfold roomOK; simp [cutRows]; omega)) ?_; conv => whnf) | (refine AppG.mk (by first | omega | (unfold roomOK; simp [cutRows]; done) | (unfold roomOK; simp [cutRows]; omega)) ?_; conv => whnf) | (refine SliceG.fr ?_; conv => whnf) | fail)
  exact .mk ⟨rfl, rfl⟩
/-! a number, some times -/
set_option maxRecDepth 100000 in
set_option maxHeartbeats 4000000 in
theorem repeatI_pc (x : Int) (n : Nat) (hn : n ≤ 1000) : PCp 34 [.c (.lst 1 ([x].map encI)), .c (.int .i64 n)] [] (.c (.row 0)) [.row 3 1 ((List.replicate n x).map encI)] := by
  have hw : IntKind.u64.wrap (n : Int) = n := u64_nat n (by omega)
  have hw1 : IntKind.u64.wrap (([x].map encI).length : Nat) = ((1 : Nat) : Int) := rfl
  have hi : IntKind.i64.wrap (((1 * n : Nat)) : Int) = n := by rw [Nat.one_mul]; exact wrap_in (by omega) (by omega)
  have hg : decide ((9223372036854775807 : Int) < ((1 * n : Nat) : Int)) = false := decide_eq_false (by omega)
  refine fn_sound (mt := mts) tab_fits tab_mixed Tryz.func34 (by rfl) (by kernel_rfl) (by kernel_rfl) Tryz.results34 (Nat.le_of_ble_eq_true (by kernel_rfl)) ?_
  conv => whnf
  repeat' (first | ((first | refine Split.mk (fun h => ?_) (fun h => ?_) | refine CondG.mk (fun h => ?_) (fun h => ?_)) <;> (try simp only [decide_eq_true_eq, decide_eq_false_iff_not, Bool.not_eq_true', Bool.not_eq_false', beq_iff_eq, beq_eq_false_iff_ne, bne_iff_ne, bne_eq_false_iff_eq] at h) <;> (first | (exfalso; first | omega | exact h trivial) | (conv => whnf))) | (refine Ask.mk (by first | omega | (unfold roomOK; simp [cutRows]; done) | (unfold roomOK; simp [cutRows]; omega) | (simp [cutRows]; done) | (simp [cutRows]; omega)) ?_; conv => whnf) | (refine AppG.mk (by first | omega | (unfold roomOK; simp [cutRows]; done) | (unfold roomOK; simp [cutRows]; omega) | (simp [cutRows]; done) | (simp [cutRows]; omega)) ?_; conv => whnf) | (refine SliceG.fr ?_; conv => whnf) | (refine idx_at _ (by with_reducible rfl) (by first | assumption | omega) ?_; conv => whnf) | ((with_reducible refine row_map (by first | assumption | omega) ?_); conv => whnf) | ((with_reducible refine row_set (by first | assumption | omega | (simp only [List.length_set]; omega) | (simp; omega)) ?_); conv => whnf) | fail)
  rw [hw, hw1]
  repeat' (first | ((first | refine Split.mk (fun h => ?_) (fun h => ?_) | refine CondG.mk (fun h => ?_) (fun h => ?_)) <;> (try simp only [decide_eq_true_eq, decide_eq_false_iff_not, Bool.not_eq_true', Bool.not_eq_false', beq_iff_eq, beq_eq_false_iff_ne, bne_iff_ne, bne_eq_false_iff_eq] at h) <;> (first | (exfalso; first | omega | exact h trivial) | (conv => whnf))) | (refine CallX.mk _ _ (by first | exact mul_pc 1 n (by omega) hn) ?_; conv => whnf) | (refine CallG.mk _ _ (by first | exact mul_pc 1 n (by omega) hn) ?_; conv => whnf) | (refine Ask.mk (by first | omega | (unfold roomOK; simp [cutRows]; done) | (unfold roomOK; simp [cutRows]; omega) | (simp [cutRows]; done) | (simp [cutRows]; omega)) ?_; conv => whnf) | (refine AppG.mk (by first | omega | (unfold roomOK; simp [cutRows]; done) | (unfold roomOK; simp [cutRows]; omega) | (simp [cutRows]; done) | (simp [cutRows]; omega)) ?_; conv => whnf) | (refine SliceG.fr ?_; conv => whnf) | (refine idx_at _ (by with_reducible rfl) (by first | assumption | omega) ?_; conv => whnf) | ((with_reducible refine row_map (by first | assumption | omega) ?_); conv => whnf) | ((with_reducible refine row_set (by first | assumption | omega | (simp only [List.length_set]; omega) | (simp; omega)) ?_); conv => whnf) | fail)
  · rw [hi]
    refine .mk ⟨rfl, by omega, by unfold roomOK; simp; omega⟩ ?_
    conv => whnf
    repeat' (first | ((first | refine Split.mk (fun h => ?_) (fun h => ?_) | refine CondG.mk (fun h => ?_) (fun h => ?_)) <;> (try simp only [decide_eq_true_eq, decide_eq_false_iff_not, Bool.not_eq_true', Bool.not_eq_false', beq_iff_eq, beq_eq_false_iff_ne, bne_iff_ne, bne_eq_false_iff_eq] at h) <;> (first | (exfalso; first | omega | exact h trivial) | (conv => whnf))) | (refine Ask.mk (by first | omega | (unfold roomOK; simp [cutRows]; done) | (unfold roomOK; simp [cutRows]; omega) | (simp [cutRows]; done) | (simp [cutRows]; omega)) ?_; conv => whnf) | (refine AppG.mk (by first | omega | (unfold roomOK; simp [cutRows]; done) | (unfold roomOK; simp [cutRows]; omega) | (simp [cutRows]; done) | (simp [cutRows]; omega)) ?_; conv => whnf) | (refine SliceG.fr ?_; conv => whnf) | (refine idx_at _ (by with_reducible rfl) (by first | assumption | omega) ?_; conv => whnf) | ((with_reducible refine row_map (by first | assumption | omega) ?_); conv => whnf) | ((with_reducible refine row_set (by first | assumption | omega | (simp only [List.length_set]; omega) | (simp; omega)) ?_); conv => whnf) | fail)
    refine loop_while (fun (m : Nat) => n - m) [] [7, 8] (fun (m : Nat) => [(8, .c (.int .i64 (m : Int)))]) (fun (m : Nat) => [(0, .row 3 1 ((List.replicate m x ++ List.replicate (n - m) 0).map encI))]) (fun (m : Nat) => m ≤ n ∧ (m = 0 → n = 0)) (min 1 n) ?_
    conv => whnf
    refine ⟨?_, ?_, ?_⟩
    · have hz : (List.replicate n ([.int .i64 0] : List V)) = (List.replicate n (0 : Int)).map encI := by simp [encI]
      have h1 := overR_map (enc := encI) (a := []) (b := [x].take n) (c := List.replicate n (0 : Int)) (o := 0) rfl
      simp only [List.nil_append] at h1
      rw [← hz] at h1
      have h2 : [x].take n ++ (List.replicate n (0 : Int)).drop ([x].take n).length = List.replicate (min 1 n) x ++ List.replicate (n - min 1 n) 0 := by
        cases n with
        | zero => rfl
        | succ n => simp [show min 1 (n + 1) = 1 by omega]
      rw [h2, List.map_take] at h1
      simp only [Int.toNat_natCast, List.length_replicate, List.length_map, List.length_cons, List.length_nil]
      rw [h1]
      rfl
    · exact ⟨by omega, by omega⟩
    · rintro m ⟨h1, h2⟩
      have hlm : ((List.replicate m x ++ List.replicate (n - m) 0).map encI).length = n := by simp; omega
      conv => whnf
      refine .mk (fun h => ?_) (fun h => ?_)
      · simp only [decide_eq_true_eq] at h
        conv => whnf
        refine .mk ⟨by omega, by omega⟩ ?_
        conv => whnf
        refine .vw ?_
        conv => whnf
        refine .mk ⟨by omega, by omega⟩ ?_
        conv => whnf
        refine .vw ?_
        conv => whnf
        have hs : sub ((List.replicate m x ++ List.replicate (n - m) 0).map encI) 0 (0 + ((m : Int).toNat - 0)) = (List.replicate m x).map encI := by simp [sub]
        have ht : List.take (((List.replicate m x ++ List.replicate (n - m) 0).map encI).length - (m : Int).toNat) ((List.replicate m x).map encI) = (List.replicate (min (n - m) m) x).map encI := by rw [hlm, Int.toNat_natCast, ← List.map_take, List.take_replicate]
        have ho := overR_map (enc := encI) (a := List.replicate m x) (b := List.replicate (min (n - m) m) x) (c := List.replicate (n - m) 0) (o := (m : Int).toNat) (by simp)
        have hrep : List.replicate m x ++ List.replicate (min (n - m) m) x ++ (List.replicate (n - m) (0 : Int)).drop (List.replicate (min (n - m) m) x).length = List.replicate (m + min (n - m) m) x ++ List.replicate (n - (m + min (n - m) m)) 0 := by
          rw [List.replicate_append_replicate, List.length_replicate, List.drop_replicate, show n - m - min (n - m) m = n - (m + min (n - m) m) by omega]
        have hw2 : IntKind.i64.wrap ((m : Int) + ((min ((List.replicate m x).map encI).length (((List.replicate m x ++ List.replicate (n - m) 0).map encI).length - (m : Int).toNat) : Nat) : Int)) = ((m + min (n - m) m : Nat) : Int) := by
          rw [hlm, List.length_map, List.length_replicate, Int.toNat_natCast, wrap_in (by omega) (by omega)]; omega
        rw [hs, ht, ho, hw2, hrep]
        exact meas_next (m + min (n - m) m) (by omega) rfl ⟨by omega, by omega⟩
      · simp only [decide_eq_false_iff_not] at h
        have hmn : m = n := by omega
        subst hmn
        conv => whnf
        refine .mk ⟨rfl, ?_⟩
        simp
end Go.Proofs.YtobcplhaabaemaaGreatDoor

/- Numbers, fractions, lists of strings. -/
namespace Go.Proofs.YtobcplhaabaemaaGreatDoor
set_option linter.unusedVariables false
set_option linter.unusedSimpArgs false
open Abs

end Go.Proofs.YtobcplhaabaemaaGreatDoor

/- Go's sort of strings, by the kit's contract of it, as a contract of the abstract walk. -/
namespace Go.Proofs.YtobcplhaabaemaaGreatDoor
set_option linter.unusedVariables false
set_option linter.unusedSimpArgs false
open Go.Shelf Go.Sort Go.RowKit
namespace Abs
variable {P : Program} {ρ : Ren}
end Abs
end Go.Proofs.YtobcplhaabaemaaGreatDoor

/- Services: what is computed, as functions on lists. -/
namespace Go.Proofs.YtobcplhaabaemaaGreatDoor
set_option linter.unusedVariables false
set_option linter.unusedSimpArgs false
open Abs

/-! what broken elements affect -/
end Go.Proofs.YtobcplhaabaemaaGreatDoor

/- Lists of strings: searched, cut, sorted; what is cut out of a row that is written. -/
namespace Go.Proofs.YtobcplhaabaemaaGreatDoor
set_option linter.unusedVariables false
set_option linter.unusedSimpArgs false
open Abs

end Go.Proofs.YtobcplhaabaemaaGreatDoor

/- Ducts and cables are checked. -/
namespace Go.Proofs.YtobcplhaabaemaaGreatDoor
set_option linter.unusedVariables false
set_option linter.unusedSimpArgs false
open Abs

theorem k0 {k : Nat} : decide ((0 : Int) < (k : Int)) = !decide (k = 0) := by
  rw [Bool.eq_iff_iff]; simp; omega
end Go.Proofs.YtobcplhaabaemaaGreatDoor

/- Services are checked; what is down and up is checked. -/
namespace Go.Proofs.YtobcplhaabaemaaGreatDoor
set_option linter.unusedVariables false
set_option linter.unusedSimpArgs false
open Abs

/-! the number of a service -/
end Go.Proofs.YtobcplhaabaemaaGreatDoor

/- Ducts and cables are made. -/
namespace Go.Proofs.YtobcplhaabaemaaGreatDoor
set_option linter.unusedVariables false
set_option linter.unusedSimpArgs false
open Abs

end Go.Proofs.YtobcplhaabaemaaGreatDoor

/- Cables in ducts are made. -/
namespace Go.Proofs.YtobcplhaabaemaaGreatDoor
set_option linter.unusedVariables false
set_option linter.unusedSimpArgs false
open Abs

end Go.Proofs.YtobcplhaabaemaaGreatDoor

/- Services and elements are made. -/
namespace Go.Proofs.YtobcplhaabaemaaGreatDoor
set_option linter.unusedVariables false
set_option linter.unusedSimpArgs false
open Abs

end Go.Proofs.YtobcplhaabaemaaGreatDoor

/- Suspects. -/
namespace Go.Proofs.YtobcplhaabaemaaGreatDoor
set_option linter.unusedVariables false
set_option linter.unusedSimpArgs false
open Abs

/-- sorted, each once -/
theorem srt_one {a b : List ByteArray} (hp : a.Perm b) : insSort cmpS a = insSort cmpS b := by
  refine sorted_one (c := cmpS) (swo_key id) ?_ ((insSort_perm cmpS a).trans (hp.trans (insSort_perm cmpS b).symm)) (insSort_srt (swo_key id) a) (insSort_srt (swo_key id) b)
  intro x y h1 h2
  rw [cmp_lt] at h1 h2
  rcases ltB_tri x y with h | h | h
  · exact (h1 h).elim
  · exact h
  · exact (h2 h).elim
theorem srt_rise {a : List ByteArray} (hn : a.Nodup) : Rise id (insSort cmpS a) := by
  refine rise_of (key := id) (insSort_srt (swo_key id) a) ?_
  rw [List.map_id]
  exact ((insSort_perm cmpS a).nodup_iff).2 hn
/-! what can be broken -/
end Go.Proofs.YtobcplhaabaemaaGreatDoor

/- The document's plan by the rule of thumb. -/
namespace Go.Proofs.YtobcplhaabaemaaGreatDoor
set_option linter.unusedVariables false
set_option linter.unusedSimpArgs false
open Abs

/-! plain: what is not cut -/
def notK (d s : List Pc) (lost : Int) : Nat → List ByteArray
  | 0 => []
  | k + 1 => if (fstK d s lost (k + 1)).1.getD ((fstOrd s).getD k 0) 0 < 0 then notK d s lost k ++ [(s.getD ((fstOrd s).getD k 0) default).key] else notK d s lost k
theorem notK_len (d s : List Pc) (lost : Int) : ∀ k, (notK d s lost k).length ≤ k
  | 0 => by simp [notK]
  | k + 1 => by
    have := notK_len d s lost k
    rw [notK]; split
    · simp; omega
    · omega
theorem fst_keep (d s : List Pc) (lost : Int) (i k : Nat) (hi : i ∉ (fstOrd s).drop k) : ∀ m, k + m ≤ s.length → (fstK d s lost (k + m)).1.getD i 0 = (fstK d s lost k).1.getD i 0
  | 0, _ => rfl
  | m + 1, h => by
    have hk : k + m < (fstOrd s).length := by rw [fstOrd_len]; omega
    rw [show k + (m + 1) = k + m + 1 by omega, fstK_succ d s lost hk, ← fst_keep d s lost i k hi m (by omega)]
    have hne : (fstOrd s)[k + m] ≠ i := fun e => hi (by
      rw [← e, List.mem_iff_getElem]
      exact ⟨m, by rw [List.length_drop]; omega, by rw [List.getElem_drop]⟩)
    unfold fstStep
    split
    · rfl
    · simp [List.getD_eq_getElem?_getD, List.getElem?_set, hne]
theorem filter_one {α : Type} (p : α → Bool) (x : α) : [x].filter p = if p x = true then [x] else [] := by cases h : p x <;> simp [h]
theorem notK_eq (d s : List Pc) (lost : Int) : ∀ k, k ≤ s.length → notK d s lost k = (((fstOrd s).take k).filter fun i => decide ((fstV d s lost).getD i 0 < 0)).map fun i => (s.getD i default).key
  | 0, _ => by simp [notK]
  | k + 1, h => by
    have hk : k < (fstOrd s).length := by rw [fstOrd_len]; omega
    have hg : (fstOrd s).getD k 0 = (fstOrd s)[k] := by simp [List.getD_eq_getElem?_getD, List.getElem?_eq_getElem hk]
    have hnd : (fstOrd s).Nodup := (fstOrd_perm s).nodup_iff.2 List.nodup_range
    have hni : (fstOrd s)[k] ∉ (fstOrd s).drop (k + 1) := by
      have h1 := (List.drop_sublist k (fstOrd s)).nodup hnd
      rw [List.drop_eq_getElem_cons hk, List.nodup_cons] at h1
      exact h1.1
    have hke := fst_keep d s lost (fstOrd s)[k] (k + 1) hni (s.length - (k + 1)) (by omega)
    rw [show k + 1 + (s.length - (k + 1)) = s.length by omega] at hke
    have hV : (fstV d s lost).getD (fstOrd s)[k] 0 = (fstK d s lost (k + 1)).1.getD (fstOrd s)[k] 0 := hke
    rw [notK, hg, notK_eq d s lost k (by omega), List.take_succ_eq_append_getElem hk, List.filter_append, List.map_append, ← hV]
    by_cases h1 : (fstV d s lost).getD (fstOrd s)[k] 0 < 0
    · rw [if_pos h1, filter_one, if_pos (decide_eq_true h1)]; rfl
    · rw [if_neg h1, filter_one, if_neg (by rw [decide_eq_true_iff]; exact h1)]; simp
theorem unK_eq (s : List Pc) (O : List Int) : ∀ k, unK s O k = ((List.range k).filter fun i => decide (O.getD i 0 < 0)).map fun i => (s.getD i default).key
  | 0 => rfl
  | k + 1 => by
    rw [unK, unK_eq s O k, List.range_succ, List.filter_append, List.map_append]
    by_cases h1 : O.getD k 0 < 0
    · rw [if_pos h1, filter_one, if_pos (decide_eq_true h1)]; rfl
    · rw [if_neg h1, filter_one, if_neg (by rw [decide_eq_true_iff]; exact h1)]; simp
theorem unK_rise {s : List Pc} (hr : Rise Pc.key s) (O : List Int) : Rise id (unK s O s.length) := by
  rw [unK_eq]
  unfold Rise
  rw [List.pairwise_map]
  refine (List.pairwise_lt_range.sublist List.filter_sublist).imp_of_mem fun {a b} ha hb hab => ?_
  have h1 := List.mem_range.1 (List.mem_filter.1 ha).1
  have h2 := List.mem_range.1 (List.mem_filter.1 hb).1
  have e1 : s.getD a default = s[a] := by simp [List.getD_eq_getElem?_getD, List.getElem?_eq_getElem h1]
  have e2 : s.getD b default = s[b] := by simp [List.getD_eq_getElem?_getD, List.getElem?_eq_getElem h2]
  rw [e1, e2]
  exact hr.at hab h2
theorem not_sorted {d s : List Pc} {lost : Int} (hr : Rise Pc.key s) : insSort cmpS (notK d s lost s.length) = unK s (fstV d s lost) s.length := by
  have hp : (notK d s lost s.length).Perm (unK s (fstV d s lost) s.length) := by
    rw [notK_eq d s lost s.length (Nat.le_refl _), unK_eq, List.take_of_length_le (by rw [fstOrd_len]; omega)]
    exact ((fstOrd_perm s).filter _).map _
  have hu := unK_rise hr (fstV d s lost)
  have hn : (unK s (fstV d s lost) s.length).Nodup := hu.imp (fun h => ltB_ne h)
  rw [srt_one hp]
  exact rise_ext (srt_rise hn) hu (fun x => (insSort_perm cmpS _).mem_iff)
theorem fst_set {d s : List Pc} {r : Int × Int} (ha : allErr d s r = 0) {k : Nat} (hk : k < (fstOrd s).length) : (fstK d s r.1 (k + 1)).1 = (fstK d s r.1 k).1.set (fstOrd s)[k] (fstBest d s r.1 (fstK d s r.1 k).2 (fstOrd s)[k] d.length) := by
  obtain ⟨f1, f2, f3, f4, f5, f6⟩ := allErr_ok ha
  have hks : k < s.length := by rw [← fstOrd_len s]; exact hk
  have hI := fst_inv (r := r) (pcFault_ok f1).2 (pcFault_ok f2).2 f3 k (by omega)
  have hO := fst_ok (r := r) (pcFault_ok f1).2 (pcFault_ok f2).2 f3 k (by omega)
  have hun := hI.un (fstOrd s)[k] (by rw [List.drop_eq_getElem_cons hk]; exact List.mem_cons_self ..)
  have hi : (fstOrd s)[k] < s.length := List.mem_range.1 ((fstOrd_perm s).mem_iff.1 (List.getElem_mem hk))
  rw [fstK_succ d s r.1 hk]
  unfold fstStep
  rcases fstBest_in d s r.1 (fstK d s r.1 k).2 (fstOrd s)[k] d.length with h | ⟨b, g1, g2, _⟩
  · rw [if_pos (by omega), h]
    have hil : (fstOrd s)[k] < (fstK d s r.1 k).1.length := by rw [hO.l1]; exact hi
    rw [List.getD_eq_getElem?_getD, List.getElem?_eq_getElem hil, Option.getD_some] at hun
    rw [← hun, List.set_getElem_self]
  · rw [if_neg (by omega)]
theorem fst_un {d s : List Pc} {r : Int × Int} (ha : allErr d s r = 0) {k : Nat} (hk : k < (fstOrd s).length) : (fstK d s r.1 k).1.set (fstOrd s)[k] (-1) = (fstK d s r.1 k).1 := by
  obtain ⟨f1, f2, f3, f4, f5, f6⟩ := allErr_ok ha
  have hks : k < s.length := by rw [← fstOrd_len s]; exact hk
  have hI := fst_inv (r := r) (pcFault_ok f1).2 (pcFault_ok f2).2 f3 k (by omega)
  have hO := fst_ok (r := r) (pcFault_ok f1).2 (pcFault_ok f2).2 f3 k (by omega)
  have hun := hI.un (fstOrd s)[k] (by rw [List.drop_eq_getElem_cons hk]; exact List.mem_cons_self ..)
  have hi : (fstOrd s)[k] < s.length := List.mem_range.1 ((fstOrd_perm s).mem_iff.1 (List.getElem_mem hk))
  have hil : (fstOrd s)[k] < (fstK d s r.1 k).1.length := by rw [hO.l1]; exact hi
  rw [List.getD_eq_getElem?_getD, List.getElem?_eq_getElem hil, Option.getD_some] at hun
  rw [← hun, List.set_getElem_self]
theorem fst_leftL {d s : List Pc} {r : Int × Int} (ha : allErr d s r = 0) {k : Nat} (hk : k ≤ s.length) : leftL d s r.1 (fstK d s r.1 k).1 (fstK d s r.1 k).1.length = (fstK d s r.1 k).2 := by
  obtain ⟨f1, f2, f3, f4, f5, f6⟩ := allErr_ok ha
  have hI := fst_inv (r := r) (pcFault_ok f1).2 (pcFault_ok f2).2 f3 k hk
  have hO := fst_ok (r := r) (pcFault_ok f1).2 (pcFault_ok f2).2 f3 k hk
  apply List.ext_getElem
  · rw [leftL_len, hO.l2]
  · intro i h1 h2
    rw [leftL_get, hO.l1]
    have := hI.R i (by rw [← hO.l2]; exact h2)
    rw [List.getD_eq_getElem?_getD, List.getElem?_eq_getElem h2, Option.getD_some] at this
    exact this.symm
/-! the walk -/
set_option maxRecDepth 100000 in
set_option maxHeartbeats 4000000 in
theorem firstC2_pc (s : List Pc) (x y : Fin s.length) : PCp 32 [.c (.int .i64 ((x.val : Nat) : Int)), .c (.int .i64 ((y.val : Nat) : Int)), .c (.ptr 0 0)] [.box [.lst 3 (s.map encPc)]] (.c (.int .i64 (firstC2 s x y))) [.box [.lst 3 (s.map encPc)]] := by
  have hx := x.isLt
  have hy := y.isLt
  have hsm : (s.map encPc).length = s.length := List.length_map ..
  have e : firstC2 s x y = sgn (IntKind.i64.wrap (s[y.val].long - s[x.val].long)) := rfl
  rw [e]
  generalize x.val = a at *
  generalize y.val = b at *
  refine fn_sound (mt := mts) tab_fits tab_mixed Tryz.func32 (by rfl) (by kernel_rfl) (by kernel_rfl) Tryz.results32 (Nat.le_of_ble_eq_true (by kernel_rfl)) ?_
  conv => whnf
  repeat' (first | ((first | refine Split.mk (fun h => ?_) (fun h => ?_) | refine CondG.mk (fun h => ?_) (fun h => ?_)) <;> (try simp only [decide_eq_true_eq, decide_eq_false_iff_not, Bool.not_eq_true', Bool.not_eq_false', beq_iff_eq, beq_eq_false_iff_ne, bne_iff_ne, bne_eq_false_iff_eq] at h) <;> (first | (exfalso; first | omega | exact h trivial) | (conv => whnf))) | (refine CallX.mk _ _ (by first | exact sign_pc _) ?_; conv => whnf) | (refine CallG.mk _ _ (by first | exact sign_pc _) ?_; conv => whnf) | (refine Ask.mk (by first | omega | (unfold roomOK; simp [cutRows]; done) | (unfold roomOK; simp [cutRows]; omega) | (simp [cutRows]; done) | (simp [cutRows]; omega)) ?_; conv => whnf) | (refine AppG.mk (by first | omega | (unfold roomOK; simp [cutRows]; done) | (unfold roomOK; simp [cutRows]; omega) | (simp [cutRows]; done) | (simp [cutRows]; omega)) ?_; conv => whnf) | (refine SliceG.fr ?_; conv => whnf) | (refine idx_at _ (by with_reducible rfl) (by first | assumption | omega) ?_; conv => whnf) | ((with_reducible refine row_map (by first | assumption | omega) ?_); conv => whnf) | ((with_reducible refine row_set (by first | assumption | omega | (simp only [List.length_set]; omega) | (simp; omega)) ?_); conv => whnf) | ((refine idx_map b hy rfl ?_); conv => whnf) | ((refine idx_map a hx rfl ?_); conv => whnf) | fail)
  all_goals exact .mk ⟨rfl, rfl⟩
set_option maxRecDepth 100000 in
set_option maxHeartbeats 4000000 in
theorem stFi_pc (s : List Pc) (g : Nat) (c : (Fin s.length) → (Fin s.length) → Int) (hg : ∀ x y : (Fin s.length), PCp g [.c (.int .i64 ((x.val : Nat) : Int)), .c (.int .i64 ((y.val : Nat) : Int)), .c (.ptr 0 0)] [.box [.lst 3 (s.map encPc)]] (.c (.int .i64 (c x y))) [.box [.lst 3 (s.map encPc)]]) (l : List (Fin s.length)) (hl : l.length < 20) :
    PCp 31 [.c (.row 0), .c (.fn g [.ptr 1 0])] [.row 3 1 (l.map encFin), .box [.lst 3 (s.map encPc)]] (.tup []) [.row 3 1 ((insSort c l).map encFin), .box [.lst 3 (s.map encPc)]] := by
  have hlm : (l.map encFin).length = l.length := List.length_map ..
  have hst : PCp 60 [.c (.row 0), .c (.int .i64 l.length), .c (.fn g [.ptr 1 0])] [.row 3 1 (l.map encFin), .box [.lst 3 (s.map encPc)]] (.tup []) [.row 3 1 ((insSort c l).map encFin), .box [.lst 3 (s.map encPc)]] := by
    refine fn_sound (mt := mts) tab_fits tab_mixed Tryz.func60 (by rfl) (by kernel_rfl) (by kernel_rfl) Tryz.results60 (Nat.le_of_ble_eq_true (by kernel_rfl)) ?_
    conv => whnf
    refine .un 1 ?_
    conv => whnf
    repeat' (first | ((first | refine Split.mk (fun h => ?_) (fun h => ?_) | refine CondG.mk (fun h => ?_) (fun h => ?_)) <;> (try simp only [decide_eq_true_eq, decide_eq_false_iff_not, Bool.not_eq_true', Bool.not_eq_false', beq_iff_eq, beq_eq_false_iff_ne] at h) <;> (first | (exfalso; first | omega | exact h trivial) | (conv => whnf))) | (refine Ask.mk (by first | omega | (unfold roomOK; simp [cutRows]; done) | (unfold roomOK; simp [cutRows]; omega)) ?_; conv => whnf) | (refine AppG.mk (by first | omega | (unfold roomOK; simp [cutRows]; done) | (unfold roomOK; simp [cutRows]; omega)) ?_; conv => whnf) | (refine SliceG.fr ?_; conv => whnf) | fail)
    refine .mk _ _ (insFi_pc s g c hg 0 l.length l (Nat.zero_le _) (Nat.le_refl _) (by omega)) ?_
    conv => whnf
    refine .un 1 ?_
    conv => whnf
    repeat' (first | ((first | refine Split.mk (fun h => ?_) (fun h => ?_) | refine CondG.mk (fun h => ?_) (fun h => ?_)) <;> (try simp only [decide_eq_true_eq, decide_eq_false_iff_not, Bool.not_eq_true', Bool.not_eq_false', beq_iff_eq, beq_eq_false_iff_ne] at h) <;> (first | (exfalso; first | omega | exact h trivial) | (conv => whnf))) | (refine Ask.mk (by first | omega | (unfold roomOK; simp [cutRows]; done) | (unfold roomOK; simp [cutRows]; omega)) ?_; conv => whnf) | (refine AppG.mk (by first | omega | (unfold roomOK; simp [cutRows]; done) | (unfold roomOK; simp [cutRows]; omega)) ?_; conv => whnf) | (refine SliceG.fr ?_; conv => whnf) | fail)
    exact .mk ⟨rfl, rfl⟩
  refine fn_sound (mt := mts) tab_fits tab_mixed Tryz.func31 (by rfl) (by kernel_rfl) (by kernel_rfl) Tryz.results31 (Nat.le_of_ble_eq_true (by kernel_rfl)) ?_
  conv => whnf
  rw [hlm]
  repeat' (first | ((first | refine Split.mk (fun h => ?_) (fun h => ?_) | refine CondG.mk (fun h => ?_) (fun h => ?_)) <;> (try simp only [decide_eq_true_eq, decide_eq_false_iff_not, Bool.not_eq_true', Bool.not_eq_false', beq_iff_eq, beq_eq_false_iff_ne] at h) <;> (first | (exfalso; first | omega | exact h trivial) | (conv => whnf))) | (refine CallX.mk _ _ (by first | exact hst) ?_; conv => whnf) | (refine CallG.mk _ _ (by first | exact hst) ?_; conv => whnf) | (refine Ask.mk (by first | omega | (unfold roomOK; simp [cutRows]; done) | (unfold roomOK; simp [cutRows]; omega)) ?_; conv => whnf) | (refine AppG.mk (by first | omega | (unfold roomOK; simp [cutRows]; done) | (unfold roomOK; simp [cutRows]; omega)) ?_; conv => whnf) | (refine SliceG.fr ?_; conv => whnf) | fail)
  exact .mk ⟨rfl, rfl⟩
def idxK (n k : Nat) : List Nat := List.range k ++ List.replicate (n - k) 0
theorem idxK_len {n k : Nat} (h : k ≤ n) : (idxK n k).length = n := by simp [idxK]; omega
theorem idxK_set {n k : Nat} (h : k < n) : (idxK n k).set k k = idxK n (k + 1) := by
  unfold idxK
  rw [List.set_append, if_neg (by simp), List.length_range, Nat.sub_self, show n - k = (n - (k + 1)) + 1 by omega, List.replicate_succ, List.set_cons_zero, List.range_succ, List.append_assoc]
  rfl
set_option maxRecDepth 100000 in
set_option maxHeartbeats 4000000 in
theorem rFirst_pc (d s : List Pc) (r : Int × Int) (ha : allErr d s r = 0) (h12 : s.length ≤ 12) :
    PCp 12 [.c (.lst 3 (d.map encPc)), .c (.lst 3 (s.map encPc)), .agg [.int .i64 r.1, .int .i64 r.2]] [] (.tup [.c (.row 0), .c (.row 1)]) [.row 3 1 ((fstV d s r.1).map encI), .row 9 1 ((unK s (fstV d s r.1) s.length).map encS)] := by
  obtain ⟨f1, f2, f3, f4, f5, f6⟩ := allErr_ok ha
  obtain ⟨d1, d2⟩ := pcFault_ok f1
  obtain ⟨s1, s2⟩ := pcFault_ok f2
  have hrise := (pcFault_keys f2).2
  have hdm : (d.map encPc).length = d.length := List.length_map ..
  have hsm : (s.map encPc).length = s.length := List.length_map ..
  have hz : List.replicate (((s.map encPc).length : Nat) : Int).toNat [V.int .i64 0] = (idxK s.length 0).map encN := by
    rw [hsm, Int.toNat_natCast]; simp [idxK, encN]
  have c0 := stFi_pc s 32 (firstC2 s) (firstC2_pc s) (List.finRange s.length) (by rw [List.length_finRange]; omega)
  have hord : (insSort (firstC2 s) (List.finRange s.length)).map encFin = (fstOrd s).map encN := by rw [ord_same s2 hrise]; unfold fstOrd; rw [List.map_map]; rfl
  rw [finR_map, hord] at c0
  have hol := fstOrd_len s
  have hom : ((fstOrd s).map encN).length = s.length := by rw [List.length_map, hol]
  have hV : fstV d s r.1 = (fstK d s r.1 s.length).1 := rfl
  have hok := fst_ok (r := r) d2 s2 f3
  have cR : PCp 34 [.c (.lst 1 ([(-1 : Int)].map encI)), .c (.int .i64 (((s.map encPc).length : Nat) : Int))] [] (.c (.row 0)) [.row 3 1 ((List.replicate s.length (-1 : Int)).map encI)] := by rw [hsm]; exact repeatI_pc (-1) s.length (by omega)
  have hzl : ∀ z : List V, (List.replicate (((s.map encPc).length : Nat) : Int).toNat z).length = s.length := fun z => by rw [List.length_replicate, Int.toNat_natCast, hsm]
  refine fn_sound (mt := mts) tab_fits tab_mixed Tryz.func12 (by rfl) (by kernel_rfl) (by kernel_rfl) Tryz.results12 (Nat.le_of_ble_eq_true (by kernel_rfl)) ?_
  conv => whnf
  repeat' (first | ((first | refine Split.mk (fun h => ?_) (fun h => ?_) | refine CondG.mk (fun h => ?_) (fun h => ?_)) <;> (try simp only [decide_eq_true_eq, decide_eq_false_iff_not, Bool.not_eq_true', Bool.not_eq_false', beq_iff_eq, beq_eq_false_iff_ne, bne_iff_ne, bne_eq_false_iff_eq] at h) <;> (first | (exfalso; first | omega | exact h trivial) | (conv => whnf))) | (refine Ask.mk (by first | omega | (unfold roomOK; simp [cutRows]; done) | (unfold roomOK; simp [cutRows]; omega) | (simp [cutRows]; done) | (simp [cutRows]; omega)) ?_; conv => whnf) | (refine AppG.mk (by first | omega | (unfold roomOK; simp [cutRows]; done) | (unfold roomOK; simp [cutRows]; omega) | (simp [cutRows]; done) | (simp [cutRows]; omega)) ?_; conv => whnf) | (refine SliceG.fr ?_; conv => whnf) | (refine idx_at _ (by with_reducible rfl) (by first | assumption | omega) ?_; conv => whnf) | ((with_reducible refine row_map (by first | assumption | omega) ?_); conv => whnf) | ((with_reducible refine row_set (by first | assumption | omega | (simp only [List.length_set]; omega) | (simp; omega)) ?_); conv => whnf) | fail)
  simp only [hzl]
  refine loop_for (s.length) [] [0, 4, 5, 8, 22, 23] (fun k (_ : Unit) => [(23, .c (.int .i64 (k : Int)))]) (fun k (_ : Unit) => [(2, .row 3 1 ((idxK s.length k).map encN))]) (fun k (_ : Unit) => True) (()) ?_
  conv => whnf
  refine ⟨?_, (by trivial), ?_, ?_⟩
  · simp only [← hz]; rfl
  · intro k _ hk _
    have hil : ((idxK s.length k).map encN).length = s.length := by rw [List.length_map, idxK_len (by omega)]
    have hil2 : (idxK s.length k).length = s.length := idxK_len (by omega)
    have hset := idxK_set hk
    conv => whnf
    repeat' (first | ((first | refine Split.mk (fun h => ?_) (fun h => ?_) | refine CondG.mk (fun h => ?_) (fun h => ?_)) <;> (try simp only [decide_eq_true_eq, decide_eq_false_iff_not, Bool.not_eq_true', Bool.not_eq_false', beq_iff_eq, beq_eq_false_iff_ne, bne_iff_ne, bne_eq_false_iff_eq] at h) <;> (first | (exfalso; first | omega | exact h trivial) | (conv => whnf))) | (refine Ask.mk (by first | omega | (unfold roomOK; simp [cutRows]; done) | (unfold roomOK; simp [cutRows]; omega) | (simp [cutRows]; done) | (simp [cutRows]; omega)) ?_; conv => whnf) | (refine AppG.mk (by first | omega | (unfold roomOK; simp [cutRows]; done) | (unfold roomOK; simp [cutRows]; omega) | (simp [cutRows]; done) | (simp [cutRows]; omega)) ?_; conv => whnf) | (refine SliceG.fr ?_; conv => whnf) | (refine idx_at _ (by with_reducible rfl) (by first | assumption | omega) ?_; conv => whnf) | ((with_reducible refine row_map (by first | assumption | omega) ?_); conv => whnf) | ((with_reducible refine row_set (by first | assumption | omega | (simp only [List.length_set]; omega) | (simp; omega)) ?_); conv => whnf) | fail)
    exact count_next () hk (by rw [wrap_succ hk (by omega), ← hset, List.map_set]; rfl) trivial
  · intro _ _
    have hinit : (idxK s.length s.length).map encN = (List.range s.length).map encN := by simp [idxK]
    rw [hinit]
    conv => whnf
    repeat' (first | ((first | refine Split.mk (fun h => ?_) (fun h => ?_) | refine CondG.mk (fun h => ?_) (fun h => ?_)) <;> (try simp only [decide_eq_true_eq, decide_eq_false_iff_not, Bool.not_eq_true', Bool.not_eq_false', beq_iff_eq, beq_eq_false_iff_ne, bne_iff_ne, bne_eq_false_iff_eq] at h) <;> (first | (exfalso; first | omega | exact h trivial) | (conv => whnf))) | (refine CallX.mk _ _ (by first | exact c0 | exact cR) ?_; conv => whnf) | (refine CallG.mk _ _ (by first | exact c0 | exact cR) ?_; conv => whnf) | (refine Ask.mk (by first | omega | (unfold roomOK; simp [cutRows]; done) | (unfold roomOK; simp [cutRows]; omega) | (simp [cutRows]; done) | (simp [cutRows]; omega)) ?_; conv => whnf) | (refine AppG.mk (by first | omega | (unfold roomOK; simp [cutRows]; done) | (unfold roomOK; simp [cutRows]; omega) | (simp [cutRows]; done) | (simp [cutRows]; omega)) ?_; conv => whnf) | (refine SliceG.fr ?_; conv => whnf) | (refine idx_at _ (by with_reducible rfl) (by first | assumption | omega) ?_; conv => whnf) | ((with_reducible refine row_map (by first | assumption | omega) ?_); conv => whnf) | ((with_reducible refine row_set (by first | assumption | omega | (simp only [List.length_set]; omega) | (simp; omega)) ?_); conv => whnf) | fail)
    have h0 : List.replicate s.length (-1 : Int) = (fstK d s r.1 0).1 := rfl
    rw [h0]
    refine loop_for (s.length) [.sl 11 9 1] [0, 4, 5, 10, 11, 38, 39, 40] (fun k (_ : Unit) => [(11, .c (.row 3)), (40, .c (.int .i64 (k : Int)))]) (fun k (_ : Unit) => [(2, .row 3 1 ((fstK d s r.1 k).1.map encI)), (3, .row 9 1 ((notK d s r.1 k).map encS))]) (fun k (_ : Unit) => True) (()) ?_
    conv => whnf
    refine ⟨(by first | rfl | (simp; done) | (simp; rfl)), (by trivial), ?_, ?_⟩
    · intro k _ hk _
      have hkl : k < (fstOrd s).length := by omega
      have hO := hok k (by omega)
      have hLL := fst_leftL ha (k := k) (by omega)
      have hS := fst_set ha hkl
      have hun := fst_un ha hkl
      have hi : (fstOrd s)[k] < s.length := List.mem_range.1 ((fstOrd_perm s).mem_iff.1 (List.getElem_mem hkl))
      have hN : notK d s r.1 (k + 1) = if (fstK d s r.1 (k + 1)).1.getD (fstOrd s)[k] 0 < 0 then notK d s r.1 k ++ [(s.getD (fstOrd s)[k] default).key] else notK d s r.1 k := by
        have hg : (fstOrd s).getD k 0 = (fstOrd s)[k] := by simp [List.getD_eq_getElem?_getD, List.getElem?_eq_getElem hkl]
        rw [notK, hg]
      have hnl := notK_len d s r.1 k
      have hnm : ((notK d s r.1 k).map encS).length = (notK d s r.1 k).length := List.length_map ..
      have cL := rLeftRow_pc d s r (fstK d s r.1 k).1 ha (by rw [hO.l1]; omega)
      rw [hLL] at cL
      conv => whnf
      repeat' (first | ((first | refine Split.mk (fun h => ?_) (fun h => ?_) | refine CondG.mk (fun h => ?_) (fun h => ?_)) <;> (try simp only [decide_eq_true_eq, decide_eq_false_iff_not, Bool.not_eq_true', Bool.not_eq_false', beq_iff_eq, beq_eq_false_iff_ne, bne_iff_ne, bne_eq_false_iff_eq] at h) <;> (first | (exfalso; first | omega | exact h trivial) | (conv => whnf))) | (refine CallX.mk _ _ (by first | exact cL) ?_; conv => whnf) | (refine CallG.mk _ _ (by first | exact cL) ?_; conv => whnf) | (refine Ask.mk (by first | omega | (unfold roomOK; simp [cutRows]; done) | (unfold roomOK; simp [cutRows]; omega) | (simp [cutRows]; done) | (simp [cutRows]; omega)) ?_; conv => whnf) | (refine AppG.mk (by first | omega | (unfold roomOK; simp [cutRows]; done) | (unfold roomOK; simp [cutRows]; omega) | (simp [cutRows]; done) | (simp [cutRows]; omega)) ?_; conv => whnf) | (refine SliceG.fr ?_; conv => whnf) | (refine idx_at _ (by with_reducible rfl) (by first | assumption | omega) ?_; conv => whnf) | ((with_reducible refine row_map (by first | assumption | omega) ?_); conv => whnf) | ((with_reducible refine row_set (by first | assumption | omega | (simp only [List.length_set]; omega) | (simp; omega)) ?_); conv => whnf) | fail)
      simp only [Int.toNat_natCast]
      generalize (fstOrd s)[k] = i at *
      obtain ⟨hO1, hO2, hO3⟩ := hO
      generalize hOk : (fstK d s r.1 k).1 = O at *
      generalize (fstK d s r.1 k).2 = R at *
      have hOm : (O.map encI).length = s.length := by rw [List.length_map, hO1]
      have hRm : (R.map encI).length = d.length := by rw [List.length_map, hO2]
      have hsi := s2 _ (List.getElem_mem hi)
      have hsg : s.getD i default = s[i] := by simp [List.getD_eq_getElem?_getD, List.getElem?_eq_getElem hi]
      refine loop_for (d.length) [] [0, 4, 5, 10, 11, 13, 14, 38, 39, 40, 50, 51] (fun q (_ : Unit) => [(51, .c (.int .i64 (q : Int)))]) (fun q (_ : Unit) => [(2, .row 3 1 ((O.set i (fstBest d s r.1 R i q)).map encI))]) (fun q (_ : Unit) => True) (()) ?_
      conv => whnf
      refine ⟨?_, (by trivial), ?_, ?_⟩
      · simp only [fstBest, hun]; rfl
      · intro q _ hq _
        have hB : fstBest d s r.1 R i (q + 1) = if (d.getD q default).kind = (s.getD i default).kind ∧ (s.getD i default).long + r.1 ≤ R.getD q 0 ∧ (fstBest d s r.1 R i q < 0 ∨ R.getD q 0 < R.getD (fstBest d s r.1 R i q).toNat 0) then (q : Int) else fstBest d s r.1 R i q := rfl
        have hdg : d.getD q default = d[q] := by simp [List.getD_eq_getElem?_getD, List.getElem?_eq_getElem hq]
        have hqR : q < R.length := by omega
        have hRq := hO3 _ (List.getElem_mem hqR)
        have hRg : R.getD q 0 = R[q] := by simp [List.getD_eq_getElem?_getD, List.getElem?_eq_getElem hqR]
        rw [hdg, hsg, hRg] at hB
        have hin := fstBest_in d s r.1 R i q
        have hw5 : IntKind.i64.wrap (R[q] - s[i].long) = R[q] - s[i].long := wrap_in (by omega) (by omega)
        have hw6 : IntKind.i64.wrap (R[q] - s[i].long - r.1) = R[q] - s[i].long - r.1 := wrap_in (by omega) (by omega)
        generalize fstBest d s r.1 R i q = bb at *
        have hsl : ((O.set i bb).map encI).length = s.length := by rw [List.length_map, List.length_set, hO1]
        have hsl2 : (O.set i bb).length = s.length := by rw [List.length_set, hO1]
        have hge : ∀ hh, (O.set i bb)[i]'hh = bb := fun hh => List.getElem_set_self ..
        have hss : ((O.set i bb).map encI).set i [V.int .i64 ((q : Nat) : Int)] = (O.set i ((q : Nat) : Int)).map encI := by rw [List.map_set, List.set_set, List.map_set]; rfl
        conv => whnf
        repeat' (first | ((first | refine Split.mk (fun h => ?_) (fun h => ?_) | refine CondG.mk (fun h => ?_) (fun h => ?_)) <;> (try simp only [decide_eq_true_eq, decide_eq_false_iff_not, Bool.not_eq_true', Bool.not_eq_false', beq_iff_eq, beq_eq_false_iff_ne, bne_iff_ne, bne_eq_false_iff_eq] at h) <;> (first | (exfalso; first | omega | exact h trivial) | (conv => whnf))) | (refine Ask.mk (by first | omega | (unfold roomOK; simp [cutRows]; done) | (unfold roomOK; simp [cutRows]; omega) | (simp [cutRows]; done) | (simp [cutRows]; omega)) ?_; conv => whnf) | (refine AppG.mk (by first | omega | (unfold roomOK; simp [cutRows]; done) | (unfold roomOK; simp [cutRows]; omega) | (simp [cutRows]; done) | (simp [cutRows]; omega)) ?_; conv => whnf) | (refine SliceG.fr ?_; conv => whnf) | (refine idx_at _ (by with_reducible rfl) (by first | assumption | omega) ?_; conv => whnf) | ((with_reducible refine row_map (by first | assumption | omega) ?_); conv => whnf) | ((with_reducible refine row_set (by first | assumption | omega | (simp only [List.length_set]; omega) | (simp; omega)) ?_); conv => whnf) | ((refine idx_map i hi rfl ?_); conv => whnf) | fail)
        all_goals simp only [Int.toNat_natCast] at *
        · have hn1 : d[q].kind.toList ≠ s[i].kind.toList := by assumption
          rw [if_neg (fun e => hn1 (by rw [e.1]))] at hB
          exact count_next () hq (by rw [wrap_succ hq (by omega), hB]; rfl) trivial
        · have hn1 : IntKind.i64.wrap (IntKind.i64.wrap (R[q] - s[i].long) - r.1) < 0 := by assumption
          rw [hw5, hw6] at hn1
          rw [if_neg (fun e => by have := e.2.1; omega)] at hB
          exact count_next () hq (by rw [wrap_succ hq (by omega), hB]; rfl) trivial
        · have hn0 : ¬ IntKind.i64.wrap (IntKind.i64.wrap (R[q] - s[i].long) - r.1) < 0 := by assumption
          rw [hw5, hw6] at hn0
          have hn1 : bb < 0 := by rw [← hge (by omega)]; assumption
          rw [if_pos ⟨toList_inj (by assumption), by omega, .inl hn1⟩] at hB
          exact count_next () hq (by rw [wrap_succ hq (by omega), hB, ← hss]; rfl) trivial
        · have hn0 : ¬ IntKind.i64.wrap (IntKind.i64.wrap (R[q] - s[i].long) - r.1) < 0 := by assumption
          have hn1 : ¬ bb < 0 := by rw [← hge (by omega)]; assumption
          rcases hin with g | ⟨b, g1, g2, g3, g4⟩
          · exact absurd g (by omega)
          subst g2
          have hbR : b < R.length := by omega
          have hRb := hO3 _ (List.getElem_mem hbR)
          have hbg : R.getD b 0 = R[b] := by simp [List.getD_eq_getElem?_getD, List.getElem?_eq_getElem hbR]
          have hw7 : IntKind.i64.wrap (R[b] - s[i].long) = R[b] - s[i].long := wrap_in (by omega) (by omega)
          have hw8 : IntKind.i64.wrap (R[b] - s[i].long - r.1) = R[b] - s[i].long - r.1 := wrap_in (by omega) (by omega)
          rw [Int.toNat_natCast, hbg] at hB
          simp only [hge]
          rw [hw5, hw6] at hn0
          repeat' (first | ((first | refine Split.mk (fun h => ?_) (fun h => ?_) | refine CondG.mk (fun h => ?_) (fun h => ?_)) <;> (try simp only [decide_eq_true_eq, decide_eq_false_iff_not, Bool.not_eq_true', Bool.not_eq_false', beq_iff_eq, beq_eq_false_iff_ne, bne_iff_ne, bne_eq_false_iff_eq] at h) <;> (first | (exfalso; first | omega | exact h trivial) | (conv => whnf))) | (refine Ask.mk (by first | omega | (unfold roomOK; simp [cutRows]; done) | (unfold roomOK; simp [cutRows]; omega) | (simp [cutRows]; done) | (simp [cutRows]; omega)) ?_; conv => whnf) | (refine AppG.mk (by first | omega | (unfold roomOK; simp [cutRows]; done) | (unfold roomOK; simp [cutRows]; omega) | (simp [cutRows]; done) | (simp [cutRows]; omega)) ?_; conv => whnf) | (refine SliceG.fr ?_; conv => whnf) | (refine idx_at _ (by with_reducible rfl) (by first | assumption | omega) ?_; conv => whnf) | ((with_reducible refine row_map (by first | assumption | omega) ?_); conv => whnf) | ((with_reducible refine row_set (by first | assumption | omega | (simp only [List.length_set]; omega) | (simp; omega)) ?_); conv => whnf) | ((refine idx_map i hi rfl ?_); conv => whnf) | fail)
          all_goals simp only [Int.toNat_natCast] at *
          · have h9 : IntKind.i64.wrap (IntKind.i64.wrap (R[q] - s[i].long) - r.1) < IntKind.i64.wrap (IntKind.i64.wrap (R[b] - s[i].long) - r.1) := by assumption
            rw [hw5, hw6, hw7, hw8] at h9
            rw [if_pos ⟨toList_inj (by assumption), by omega, .inr (by omega)⟩] at hB
            exact count_next () hq (by rw [wrap_succ hq (by omega), hB, ← hss]; rfl) trivial
          · have h9 : ¬ IntKind.i64.wrap (IntKind.i64.wrap (R[q] - s[i].long) - r.1) < IntKind.i64.wrap (IntKind.i64.wrap (R[b] - s[i].long) - r.1) := by assumption
            rw [hw5, hw6, hw7, hw8] at h9
            rw [if_neg (fun e => e.2.2.elim hn1 (fun e2 => by omega))] at hB
            exact count_next () hq (by rw [wrap_succ hq (by omega), hB]; rfl) trivial
      · intro _ _
        have hin := fstBest_in d s r.1 R i d.length
        generalize fstBest d s r.1 R i d.length = bb at *
        have hsl : ((O.set i bb).map encI).length = s.length := by rw [List.length_map, List.length_set, hO1]
        have hsl2 : (O.set i bb).length = s.length := by rw [List.length_set, hO1]
        have hge : ∀ hh, (O.set i bb)[i]'hh = bb := fun hh => List.getElem_set_self ..
        have hgd : (O.set i bb).getD i 0 = bb := by rw [List.getD_eq_getElem?_getD, List.getElem?_eq_getElem (by omega), Option.getD_some, hge]
        rw [hS, hgd, hsg] at hN
        conv => whnf
        repeat' (first | ((first | refine Split.mk (fun h => ?_) (fun h => ?_) | refine CondG.mk (fun h => ?_) (fun h => ?_)) <;> (try simp only [decide_eq_true_eq, decide_eq_false_iff_not, Bool.not_eq_true', Bool.not_eq_false', beq_iff_eq, beq_eq_false_iff_ne, bne_iff_ne, bne_eq_false_iff_eq] at h) <;> (first | (exfalso; first | omega | exact h trivial) | (conv => whnf))) | (refine Ask.mk (by first | omega | (unfold roomOK; simp [cutRows]; done) | (unfold roomOK; simp [cutRows]; omega) | (simp [cutRows]; done) | (simp [cutRows]; omega)) ?_; conv => whnf) | (refine AppG.mk (by first | omega | (unfold roomOK; simp [cutRows]; done) | (unfold roomOK; simp [cutRows]; omega) | (simp [cutRows]; done) | (simp [cutRows]; omega)) ?_; conv => whnf) | (refine SliceG.fr ?_; conv => whnf) | (refine idx_at _ (by with_reducible rfl) (by first | assumption | omega) ?_; conv => whnf) | ((with_reducible refine row_map (by first | assumption | omega) ?_); conv => whnf) | ((with_reducible refine row_set (by first | assumption | omega | (simp only [List.length_set]; omega) | (simp; omega)) ?_); conv => whnf) | ((refine idx_map i hi rfl ?_); conv => whnf) | fail)
        all_goals simp only [Int.toNat_natCast] at *
        · have h9 : bb < 0 := by rw [← hge (by omega)]; assumption
          rw [if_pos h9] at hN
          exact count_next () hk (by rw [wrap_succ hk (by omega), hS, hN, List.map_append]; rfl) trivial
        · have h9 : ¬ bb < 0 := by rw [← hge (by omega)]; assumption
          rw [if_neg h9] at hN
          exact count_next () hk (by rw [wrap_succ hk (by omega), hS, hN]; rfl) trivial
    · intro _ _
      rw [← hV]
      have hnl := notK_len d s r.1 s.length
      have hns := not_sorted (d := d) (lost := r.1) hrise
      have cS := sortS_pc (notK d s r.1 s.length) (by omega)
      rw [hns] at cS
      conv => whnf
      repeat' (first | ((first | refine Split.mk (fun h => ?_) (fun h => ?_) | refine CondG.mk (fun h => ?_) (fun h => ?_)) <;> (try simp only [decide_eq_true_eq, decide_eq_false_iff_not, Bool.not_eq_true', Bool.not_eq_false', beq_iff_eq, beq_eq_false_iff_ne, bne_iff_ne, bne_eq_false_iff_eq] at h) <;> (first | (exfalso; first | omega | exact h trivial) | (conv => whnf))) | (refine CallX.mk _ _ (by first | exact cS) ?_; conv => whnf) | (refine CallG.mk _ _ (by first | exact cS) ?_; conv => whnf) | (refine Ask.mk (by first | omega | (unfold roomOK; simp [cutRows]; done) | (unfold roomOK; simp [cutRows]; omega) | (simp [cutRows]; done) | (simp [cutRows]; omega)) ?_; conv => whnf) | (refine AppG.mk (by first | omega | (unfold roomOK; simp [cutRows]; done) | (unfold roomOK; simp [cutRows]; omega) | (simp [cutRows]; done) | (simp [cutRows]; omega)) ?_; conv => whnf) | (refine SliceG.fr ?_; conv => whnf) | (refine idx_at _ (by with_reducible rfl) (by first | assumption | omega) ?_; conv => whnf) | ((with_reducible refine row_map (by first | assumption | omega) ?_); conv => whnf) | ((with_reducible refine row_set (by first | assumption | omega | (simp only [List.length_set]; omega) | (simp; omega)) ?_); conv => whnf) | fail)
      exact .mk ⟨rfl, rfl⟩
end Go.Proofs.YtobcplhaabaemaaGreatDoor

/- Comparisons, one behind another; sorting by insertion keeps the order of equal ones. -/
namespace Go.Proofs.YtobcplhaabaemaaGreatDoor
set_option linter.unusedVariables false
set_option linter.unusedSimpArgs false
open Abs

/-- a comparison -/
structure Cmp {α : Type} (c : α → α → Int) : Prop where
  anti : ∀ a b, c b a = - c a b
  trans : ∀ a b d, c a b ≤ 0 → c b d ≤ 0 → c a d ≤ 0
theorem Cmp.lt {α : Type} {c : α → α → Int} (h : Cmp c) {a b d : α} (h1 : c a b ≤ 0) (h2 : c b d ≤ 0) (h3 : c a b < 0 ∨ c b d < 0) : c a d < 0 := by
  have h4 := h.trans a b d h1 h2
  rcases Int.lt_or_le (c a d) 0 with h5 | h5
  · exact h5
  · have a1 := h.anti a d
    have a2 := h.anti a b
    have a3 := h.anti b d
    rcases h3 with h3 | h3
    · have := h.trans b d a h2 (by omega); omega
    · have := h.trans d a b (by omega) h1; omega
theorem Cmp.swo {α : Type} {c : α → α → Int} (h : Cmp c) : SWOc c where
  irrefl x := by have := h.anti x x; omega
  trans x y z h1 h2 := h.lt (by omega) (by omega) (.inl h1)
  ntrans x y z h1 h2 := by
    have a1 := h.anti x y
    have a2 := h.anti y z
    have a3 := h.anti x z
    have := h.trans z y x (by omega) (by omega)
    omega
theorem cmp_int {α : Type} (f : α → Int) : Cmp fun a b => cmpI (f a) (f b) where
  anti a b := by simp only [cmpI]; (repeat' split) <;> omega
  trans a b d := by simp only [cmpI]; (repeat' split) <;> omega
end Go.Proofs.YtobcplhaabaemaaGreatDoor

/- From how many drums a plan cuts, by the document. -/
namespace Go.Proofs.YtobcplhaabaemaaGreatDoor
set_option linter.unusedVariables false
set_option linter.unusedSimpArgs false
open Abs

theorem cmpI_lt {a b : Int} : cmpI a b < 0 ↔ a < b := by
  unfold cmpI
  split
  · simp; assumption
  · split
    · rename_i h1 h2; constructor
      · intro h; exact absurd h (by decide)
      · intro h; omega
    · rename_i h1 h2; constructor
      · intro h; exact absurd h (by decide)
      · intro h; exact absurd h h1
set_option maxRecDepth 100000 in
set_option maxHeartbeats 4000000 in
theorem isNaNOI_pc (s : Int) : PCp 75 [.c (.int .i64 s)] [] (.c (.bool false)) [] := by
  refine fn_sound (mt := mts) tab_fits tab_mixed Tryz.func75 (by rfl) (by kernel_rfl) (by kernel_rfl) Tryz.results75 (Nat.le_of_ble_eq_true (by kernel_rfl)) ?_
  conv => whnf
  exact finb (by simp)
set_option maxRecDepth 100000 in
set_option maxHeartbeats 4000000 in
theorem lessI_pc (a b : Int) : PCp 134 [.c (.int .i64 a), .c (.int .i64 b)] [] (.c (.bool (decide (a < b)))) [] := by
  refine fn_sound (mt := mts) tab_fits tab_mixed Tryz.func134 (by rfl) (by kernel_rfl) (by kernel_rfl) Tryz.results134 (Nat.le_of_ble_eq_true (by kernel_rfl)) ?_
  conv => whnf
  repeat' (first | ((first | refine Split.mk (fun h => ?_) (fun h => ?_) | refine CondG.mk (fun h => ?_) (fun h => ?_)) <;> (try simp only [decide_eq_true_eq, decide_eq_false_iff_not, Bool.not_eq_true', Bool.not_eq_false', beq_iff_eq, beq_eq_false_iff_ne, bne_iff_ne, bne_eq_false_iff_eq] at h) <;> (first | (exfalso; first | omega | exact h trivial) | (conv => whnf))) | (refine CallX.mk _ _ (by first | exact isNaNOI_pc _) ?_; conv => whnf) | (refine CallG.mk _ _ (by first | exact isNaNOI_pc _) ?_; conv => whnf) | (refine Ask.mk (by first | omega | (unfold roomOK; simp [cutRows]; done) | (unfold roomOK; simp [cutRows]; omega) | (simp [cutRows]; done) | (simp [cutRows]; omega)) ?_; conv => whnf) | (refine AppG.mk (by first | omega | (unfold roomOK; simp [cutRows]; done) | (unfold roomOK; simp [cutRows]; omega) | (simp [cutRows]; done) | (simp [cutRows]; omega)) ?_; conv => whnf) | (refine SliceG.fr ?_; conv => whnf) | (refine idx_at _ (by with_reducible rfl) (by first | assumption | omega) ?_; conv => whnf) | ((with_reducible refine row_map (by first | assumption | omega) ?_); conv => whnf) | ((with_reducible refine row_set (by first | assumption | omega | (simp only [List.length_set]; omega) | (simp; omega)) ?_); conv => whnf) | fail)
  all_goals first | exact finb rfl | exact finb (by simp_all) | trace_state
set_option maxRecDepth 100000 in
set_option maxHeartbeats 4000000 in
theorem insIo_pc (a b : Nat) (l : List Int) (ha : a ≤ l.length) (hb : b ≤ l.length) (hl : l.length ≤ 1000000000) :
    PCp 128 [.c (.row 0), .c (.int .i64 a), .c (.int .i64 b)] [.row 3 1 (l.map encI)] (.tup []) [.row 3 1 ((insTo cmpI a (b - (a + 1)) l).map encI)] := by
  have hw : IntKind.i64.wrap ((a : Int) + 1) = ((a + 1 : Nat) : Int) := by rw [wrap_in (by omega) (by omega)]; rfl
  refine fn_sound (mt := mts) tab_fits tab_mixed Tryz.func128 (by rfl) (by kernel_rfl) (by kernel_rfl) Tryz.results128 (Nat.le_of_ble_eq_true (by kernel_rfl)) ?_
  conv => whnf
  rw [hw]
  refine loop_count (b - (a + 1)) [] [0, 1, 2, 6] (fun k (_ : Unit) => ⟨[(0, .c (.row 0)), (1, .c (.int .i64 a)), (2, .c (.int .i64 b)), (6, .c (.int .i64 ((a + 1 + k : Nat) : Int)))], [(0, .row 3 1 ((insTo cmpI a k l).map encI))], 1⟩) (fun k (_ : Unit) => True) (()) ?_ ?_ ?_
  · conv => whnf
    exact ⟨rfl, trivial⟩
  · intro k _ hk _
    have hlen := insTo_len cmpI a k l
    conv => whnf
    refine .mk (fun h => ?_) (fun h => ?_)
    rotate_left
    · simp at h; omega
    conv => whnf
    refine loop_meas2 (fun (j : Nat) (q : List Int) => j) [] [0, 1, 2, 6, 7] (fun (j : Nat) (q : List Int) => ⟨[(0, .c (.row 0)), (1, .c (.int .i64 a)), (2, .c (.int .i64 b)), (6, .c (.int .i64 ((a + 1 + k : Nat) : Int))), (7, .c (.int .i64 ((j : Nat) : Int)))], [(0, .row 3 1 (q.map encI))], 1⟩) (fun (j : Nat) (q : List Int) => insDown cmpI a j q = insTo cmpI a (k + 1) l ∧ j < l.length ∧ q.length = l.length) (a + 1 + k) (insTo cmpI a k l) ?_ ?_
    · conv => whnf
      exact ⟨rfl, rfl, by omega, by omega⟩
    · intro j q ⟨h1, h2, h3⟩
      conv => whnf
      repeat' (first | ((first | refine Split.mk (fun h => ?_) (fun h => ?_) | refine CondG.mk (fun h => ?_) (fun h => ?_)) <;> (try simp only [decide_eq_true_eq, decide_eq_false_iff_not, Bool.not_eq_true', Bool.not_eq_false', beq_iff_eq, beq_eq_false_iff_ne] at h) <;> (first | (exfalso; first | omega | exact h trivial) | (conv => whnf))) | (refine Ask.mk (by first | omega | (unfold roomOK; simp [cutRows]; done) | (unfold roomOK; simp [cutRows]; omega)) ?_; conv => whnf) | (refine AppG.mk (by first | omega | (unfold roomOK; simp [cutRows]; done) | (unfold roomOK; simp [cutRows]; omega)) ?_; conv => whnf) | (refine SliceG.fr ?_; conv => whnf) | fail)
      · -- one more to the left?
        obtain ⟨i, rfl⟩ : ∃ i, j = i + 1 := ⟨j - 1, by omega⟩
        have hw2 : IntKind.i64.wrap (((i + 1 : Nat) : Int) - 1) = ((i : Nat) : Int) := by rw [wrap_in (by omega) (by omega)]; omega
        refine .mk (by rw [List.length_map]; omega) ?_
        conv => whnf
        refine row_at (i + 1) toN (by omega) ?_
        conv => whnf
        rw [hw2]
        refine .mk (by rw [List.length_map]; omega) ?_
        conv => whnf
        refine row_at i toN (by omega) ?_
        conv => whnf
        repeat' (first | ((first | refine Split.mk (fun h => ?_) (fun h => ?_) | refine CondG.mk (fun h => ?_) (fun h => ?_)) <;> (try simp only [decide_eq_true_eq, decide_eq_false_iff_not, Bool.not_eq_true', Bool.not_eq_false', beq_iff_eq, beq_eq_false_iff_ne, bne_iff_ne, bne_eq_false_iff_eq] at h) <;> (first | (exfalso; first | omega | exact h trivial) | (conv => whnf))) | (refine CallX.mk _ _ (by first | exact lessI_pc _ _) ?_; conv => whnf) | (refine CallG.mk _ _ (by first | exact lessI_pc _ _) ?_; conv => whnf) | (refine Ask.mk (by first | omega | (unfold roomOK; simp [cutRows]; done) | (unfold roomOK; simp [cutRows]; omega) | (simp [cutRows]; done) | (simp [cutRows]; omega)) ?_; conv => whnf) | (refine AppG.mk (by first | omega | (unfold roomOK; simp [cutRows]; done) | (unfold roomOK; simp [cutRows]; omega) | (simp [cutRows]; done) | (simp [cutRows]; omega)) ?_; conv => whnf) | (refine SliceG.fr ?_; conv => whnf) | (refine idx_at _ (by with_reducible rfl) (by first | assumption | omega) ?_; conv => whnf) | ((with_reducible refine row_map (by first | assumption | omega) ?_); conv => whnf) | ((with_reducible refine row_set (by first | assumption | omega | (simp only [List.length_set]; omega) | (simp; omega)) ?_); conv => whnf) | fail)
        · rw [insDown_step (by omega) (by omega) (cmpI_lt.2 h)] at h1
          repeat' (first | ((first | refine Split.mk (fun h => ?_) (fun h => ?_) | refine CondG.mk (fun h => ?_) (fun h => ?_)) <;> (try simp only [decide_eq_true_eq, decide_eq_false_iff_not, Bool.not_eq_true', Bool.not_eq_false', beq_iff_eq, beq_eq_false_iff_ne] at h) <;> (first | (exfalso; first | omega | exact h trivial) | (conv => whnf))) | (refine Ask.mk (by first | omega | (unfold roomOK; simp [cutRows]; done) | (unfold roomOK; simp [cutRows]; omega)) ?_; conv => whnf) | (refine AppG.mk (by first | omega | (unfold roomOK; simp [cutRows]; done) | (unfold roomOK; simp [cutRows]; omega)) ?_; conv => whnf) | (refine SliceG.fr ?_; conv => whnf) | fail)
          rw [hw2]
          refine .mk (by rw [List.length_map]; omega) ?_
          conv => whnf
          refine row_at i toN (by omega) ?_
          conv => whnf
          refine .mk (by rw [List.length_map]; omega) ?_
          conv => whnf
          refine row_at (i + 1) toN (by omega) ?_
          conv => whnf
          refine .mk (by rw [List.length_map]; omega) ?_
          conv => whnf
          refine row_at (i + 1) toN (by omega) ?_
          conv => whnf
          refine .mk (by rw [List.length_set, List.length_map]; omega) ?_
          conv => whnf
          refine .mk (encI (q[i]'(by omega))) (by rw [toN, toN, List.getElem?_set_ne (by omega)]; simp [show i < q.length by omega]) ?_
          conv => whnf
          refine meas_next (i, (q.set (i + 1) (q[i]'(by omega))).set i (q[i + 1]'(by omega))) (by simp only; omega) (by rw [toN, toN, hw2]; simp only [List.map_set]; rfl) ⟨h1, by simp only; omega, by simp [h3]⟩
        · rw [insDown_stop (by omega) (fun e => h (cmpI_lt.1 e))] at h1
          conv => whnf
          refine count_next () hk (by rw [h1, show IntKind.i64.wrap (((a + 1 + k : Nat) : Int) + 1) = ((a + 1 + (k + 1) : Nat) : Int) by rw [wrap_in (by omega) (by omega)]; omega]; rfl) trivial
      · rw [insDown_low (by omega)] at h1
        refine count_next () hk (by rw [h1, show IntKind.i64.wrap (((a + 1 + k : Nat) : Int) + 1) = ((a + 1 + (k + 1) : Nat) : Int) by rw [wrap_in (by omega) (by omega)]; omega]; rfl) trivial
  · intro _ _
    have hlen := insTo_len cmpI a (b - (a + 1)) l
    conv => whnf
    repeat' (first | ((first | refine Split.mk (fun h => ?_) (fun h => ?_) | refine CondG.mk (fun h => ?_) (fun h => ?_)) <;> (try simp only [decide_eq_true_eq, decide_eq_false_iff_not, Bool.not_eq_true', Bool.not_eq_false', beq_iff_eq, beq_eq_false_iff_ne] at h) <;> (first | (exfalso; first | omega | exact h trivial) | (conv => whnf))) | (refine Ask.mk (by first | omega | (unfold roomOK; simp [cutRows]; done) | (unfold roomOK; simp [cutRows]; omega)) ?_; conv => whnf) | (refine AppG.mk (by first | omega | (unfold roomOK; simp [cutRows]; done) | (unfold roomOK; simp [cutRows]; omega)) ?_; conv => whnf) | (refine SliceG.fr ?_; conv => whnf) | fail)
    exact .mk ⟨rfl, rfl⟩

set_option maxRecDepth 100000 in
set_option maxHeartbeats 4000000 in
theorem sortI_pc (l : List Int) (hl : l.length ≤ 12) : PCp 67 [.c (.row 0)] [.row 3 1 (l.map encI)] (.tup []) [.row 3 1 ((insSort cmpI l).map encI)] := by
  have hlm : (l.map encI).length = l.length := List.length_map ..
  have hst : ∀ lim : Int, PCp 96 [.c (.row 0), .c (.int .i64 0), .c (.int .i64 l.length), .c (.int .i64 lim)] [.row 3 1 (l.map encI)] (.tup []) [.row 3 1 ((insSort cmpI l).map encI)] := by
    intro lim
    have hw : IntKind.i64.wrap ((l.length : Int) - 0) = l.length := by rw [wrap_in (by omega) (by omega)]; omega
    refine fn_sound (mt := mts) tab_fits tab_mixed Tryz.func96 (by rfl) (by kernel_rfl) (by kernel_rfl) Tryz.results96 (Nat.le_of_ble_eq_true (by kernel_rfl)) ?_
    conv => whnf
    refine .un 1 ?_
    conv => whnf
    rw [hw]
    repeat' (first | ((first | refine Split.mk (fun h => ?_) (fun h => ?_) | refine CondG.mk (fun h => ?_) (fun h => ?_)) <;> (try simp only [decide_eq_true_eq, decide_eq_false_iff_not, Bool.not_eq_true', Bool.not_eq_false', beq_iff_eq, beq_eq_false_iff_ne] at h) <;> (first | (exfalso; first | omega | exact h trivial) | (conv => whnf))) | (refine Ask.mk (by first | omega | (unfold roomOK; simp [cutRows]; done) | (unfold roomOK; simp [cutRows]; omega)) ?_; conv => whnf) | (refine AppG.mk (by first | omega | (unfold roomOK; simp [cutRows]; done) | (unfold roomOK; simp [cutRows]; omega)) ?_; conv => whnf) | (refine SliceG.fr ?_; conv => whnf) | fail)
    refine .mk _ _ (insIo_pc 0 l.length l (Nat.zero_le _) (Nat.le_refl _) (by omega)) ?_
    conv => whnf
    exact .mk ⟨rfl, rfl⟩
  refine fn_sound (mt := mts) tab_fits tab_mixed Tryz.func67 (by rfl) (by kernel_rfl) (by kernel_rfl) Tryz.results67 (Nat.le_of_ble_eq_true (by kernel_rfl)) ?_
  conv => whnf
  rw [hlm, wrapU64 l.length (by omega)]
  obtain ⟨lim, hlim⟩ := bLen_ex l.length (by omega)
  repeat' (first | ((first | refine Split.mk (fun h => ?_) (fun h => ?_) | refine CondG.mk (fun h => ?_) (fun h => ?_)) <;> (try simp only [decide_eq_true_eq, decide_eq_false_iff_not, Bool.not_eq_true', Bool.not_eq_false', beq_iff_eq, beq_eq_false_iff_ne] at h) <;> (first | (exfalso; first | omega | exact h trivial) | (conv => whnf))) | (refine CallX.mk _ _ (by first | exact hlim | exact hst _) ?_; conv => whnf) | (refine CallG.mk _ _ (by first | exact hlim | exact hst _) ?_; conv => whnf) | (refine Ask.mk (by first | omega | (unfold roomOK; simp [cutRows]; done) | (unfold roomOK; simp [cutRows]; omega)) ?_; conv => whnf) | (refine AppG.mk (by first | omega | (unfold roomOK; simp [cutRows]; done) | (unfold roomOK; simp [cutRows]; omega)) ?_; conv => whnf) | (refine SliceG.fr ?_; conv => whnf) | fail)
  exact .mk ⟨rfl, rfl⟩
set_option maxRecDepth 100000 in
set_option maxHeartbeats 4000000 in
theorem cptI_pc (l : List Int) (hl : l.length ≤ 1000000000) :
    PCp 68 [.c (.row 0)] [.row 3 1 (l.map encI)] (.c (.row 1)) [.dead, .row 3 1 ((cpt l).map encI)] := by
  have hlm : (l.map encI).length = l.length := List.length_map ..
  by_cases hid : cpt l = l
  · rw [hid]
    rw [cpt_id] at hid
    have hfr : FinR 1 (.c (.row 1)) [.dead, .row 3 1 (l.map encI)] (.c (.row 0)) [.row 3 1 (l.map encI)] := by
      refine .cutv 0 _ _ l.length _ (.inr ⟨rfl, hlm.symm⟩) rfl (by omega) (.mk ⟨rfl, ?_⟩)
      rw [show List.take l.length (l.map encI) = l.map encI from List.take_of_length_le (by omega)]; rfl
    refine fn_sound (mt := mts) tab_fits tab_mixed Tryz.func68 (by rfl) (by kernel_rfl) (by kernel_rfl) Tryz.results68 (Nat.le_of_ble_eq_true (by kernel_rfl)) ?_
    conv => whnf
    repeat' (first | ((first | refine Split.mk (fun h => ?_) (fun h => ?_) | refine CondG.mk (fun h => ?_) (fun h => ?_)) <;> (try simp only [decide_eq_true_eq, decide_eq_false_iff_not, Bool.not_eq_true', Bool.not_eq_false', beq_iff_eq, beq_eq_false_iff_ne] at h) <;> (first | (exfalso; first | omega | exact h trivial) | (conv => whnf))) | (refine Ask.mk (by first | omega | (unfold roomOK; simp [cutRows]; done) | (unfold roomOK; simp [cutRows]; omega)) ?_; conv => whnf) | (refine AppG.mk (by first | omega | (unfold roomOK; simp [cutRows]; done) | (unfold roomOK; simp [cutRows]; omega)) ?_; conv => whnf) | (refine SliceG.fr ?_; conv => whnf) | fail)
    · exact hfr
    refine loop_count (l.length - 1) [] [0, 3] (fun k (_ : Unit) => ⟨[(0, .c (.row 0)), (3, .c (.int .i64 ((k + 1 : Nat) : Int)))], [(0, .row 3 1 (l.map encI))], 1⟩) (fun k (_ : Unit) => True) (()) ?_ ?_ ?_
    · conv => whnf
      exact ⟨rfl, trivial⟩
    · intro k _ hk _
      conv => whnf
      repeat' (first | ((first | refine Split.mk (fun h => ?_) (fun h => ?_) | refine CondG.mk (fun h => ?_) (fun h => ?_)) <;> (try simp only [decide_eq_true_eq, decide_eq_false_iff_not, Bool.not_eq_true', Bool.not_eq_false', beq_iff_eq, beq_eq_false_iff_ne] at h) <;> (first | (exfalso; first | omega | exact h trivial) | (conv => whnf))) | (refine Ask.mk (by first | omega | (unfold roomOK; simp [cutRows]; done) | (unfold roomOK; simp [cutRows]; omega)) ?_; conv => whnf) | (refine AppG.mk (by first | omega | (unfold roomOK; simp [cutRows]; done) | (unfold roomOK; simp [cutRows]; omega)) ?_; conv => whnf) | (refine SliceG.fr ?_; conv => whnf) | fail)
      have hw : IntKind.i64.wrap (((k + 1 : Nat) : Int) - 1) = ((k : Nat) : Int) := by rw [wrap_in (by omega) (by omega)]; omega
      refine row_at (k + 1) toN (by omega) ?_
      conv => whnf
      rw [hw]
      refine .mk (by rw [hlm]; omega) ?_
      conv => whnf
      refine row_at k toN (by omega) ?_
      conv => whnf
      refine .mk (fun h => ?_) (fun h => ?_)
      · exact absurd ((beq_iff_eq (α := Int)).1 h) (hid k (by omega))
      · conv => whnf
        refine count_next () hk (by rw [wrap_succ (n := l.length) (by omega) (by omega)]; rfl) trivial
    · intro _ _
      conv => whnf
      repeat' (first | ((first | refine Split.mk (fun h => ?_) (fun h => ?_) | refine CondG.mk (fun h => ?_) (fun h => ?_)) <;> (try simp only [decide_eq_true_eq, decide_eq_false_iff_not, Bool.not_eq_true', Bool.not_eq_false', beq_iff_eq, beq_eq_false_iff_ne] at h) <;> (first | (exfalso; first | omega | exact h trivial) | (conv => whnf))) | (refine Ask.mk (by first | omega | (unfold roomOK; simp [cutRows]; done) | (unfold roomOK; simp [cutRows]; omega)) ?_; conv => whnf) | (refine AppG.mk (by first | omega | (unfold roomOK; simp [cutRows]; done) | (unfold roomOK; simp [cutRows]; omega)) ?_; conv => whnf) | (refine SliceG.fr ?_; conv => whnf) | fail)
      exact hfr
  · have hid2 := mt (cpt_id l).2 hid
    refine fn_sound (mt := mts) tab_fits tab_mixed Tryz.func68 (by rfl) (by kernel_rfl) (by kernel_rfl) Tryz.results68 (Nat.le_of_ble_eq_true (by kernel_rfl)) ?_
    conv => whnf
    repeat' (first | ((first | refine Split.mk (fun h => ?_) (fun h => ?_) | refine CondG.mk (fun h => ?_) (fun h => ?_)) <;> (try simp only [decide_eq_true_eq, decide_eq_false_iff_not, Bool.not_eq_true', Bool.not_eq_false', beq_iff_eq, beq_eq_false_iff_ne] at h) <;> (first | (exfalso; first | omega | exact h trivial) | (conv => whnf))) | (refine Ask.mk (by first | omega | (unfold roomOK; simp [cutRows]; done) | (unfold roomOK; simp [cutRows]; omega)) ?_; conv => whnf) | (refine AppG.mk (by first | omega | (unfold roomOK; simp [cutRows]; done) | (unfold roomOK; simp [cutRows]; omega)) ?_; conv => whnf) | (refine SliceG.fr ?_; conv => whnf) | fail)
    · exfalso; exact hid2 (by intro i hi; omega)
    refine loop_count (l.length - 1) [] [0, 3] (fun k (_ : Unit) => ⟨[(0, .c (.row 0)), (3, .c (.int .i64 ((k + 1 : Nat) : Int)))], [(0, .row 3 1 (l.map encI))], 1⟩) (fun k (_ : Unit) => ∀ i (h : i + 1 < l.length), i + 1 ≤ k → l[i + 1] ≠ l[i]) (()) ?_ ?_ ?_
    · conv => whnf
      exact ⟨rfl, by intro i hi h; omega⟩
    · intro k _ hk hi
      conv => whnf
      repeat' (first | ((first | refine Split.mk (fun h => ?_) (fun h => ?_) | refine CondG.mk (fun h => ?_) (fun h => ?_)) <;> (try simp only [decide_eq_true_eq, decide_eq_false_iff_not, Bool.not_eq_true', Bool.not_eq_false', beq_iff_eq, beq_eq_false_iff_ne] at h) <;> (first | (exfalso; first | omega | exact h trivial) | (conv => whnf))) | (refine Ask.mk (by first | omega | (unfold roomOK; simp [cutRows]; done) | (unfold roomOK; simp [cutRows]; omega)) ?_; conv => whnf) | (refine AppG.mk (by first | omega | (unfold roomOK; simp [cutRows]; done) | (unfold roomOK; simp [cutRows]; omega)) ?_; conv => whnf) | (refine SliceG.fr ?_; conv => whnf) | fail)
      have hw : IntKind.i64.wrap (((k + 1 : Nat) : Int) - 1) = ((k : Nat) : Int) := by rw [wrap_in (by omega) (by omega)]; omega
      refine row_at (k + 1) toN (by omega) ?_
      conv => whnf
      rw [hw]
      refine .mk (by rw [hlm]; omega) ?_
      conv => whnf
      refine row_at k toN (by omega) ?_
      conv => whnf
      refine .mk (fun h => ?_) (fun h => ?_)
      · have he : l[k + 1] = l[k] := (beq_iff_eq (α := Int)).1 h
        have hfrom := cpt_from l k (by omega) hi
        clear h
        conv => whnf
        refine .mk (by rw [hlm]; omega) ?_
        conv => whnf
        refine .vw ?_
        conv => whnf
        have hn : l.length - (k + 1) - 1 + 1 + (k + 1) = l.length := by omega
        refine loop_count2 (l.length - (k + 1) - 1) [] [0, 3, 4, 5] (fun m (j : Nat) (q : List Int) => ⟨[(0, .c (.row 0)), (3, .c (.int .i64 ((j : Nat) : Int))), (4, .c (.vw 0 1 (k + 1) (l.length - (k + 1)))), (5, .c (.int .i64 ((m + 1 : Nat) : Int)))], [(0, .row 3 1 (q.map encI))], 1⟩) (fun m (j : Nat) (q : List Int) => q.length = l.length ∧ j ≤ k + 1 + m ∧ q.drop (k + 1 + m) = l.drop (k + 1 + m) ∧ q.take j ++ cptA (l.getD (k + 1 + m) l[k]) (l.drop (k + 1 + m + 1)) = cpt l) (k + 1) (l) ?_ ?_ ?_
        · conv => whnf
          refine ⟨by rw [hlm]; rfl, rfl, Nat.le_refl _, rfl, ?_⟩
          rw [hfrom, getDD (show k + 1 + 0 < l.length by omega), List.drop_eq_getElem_cons (show k + 1 < l.length by omega), cptA, if_pos he, he]
        · intro m j q hm ⟨g1, g2, g3, g4⟩
          have hqm : (q.map encI).length = q.length := List.length_map ..
          have hwm : IntKind.i64.wrap (((m + 1 : Nat) : Int) - 1) = ((m : Nat) : Int) := by rw [wrap_in (by omega) (by omega)]; omega
          have q1 : q[k + 1 + m]'(by omega) = l[k + 1 + m]'(by omega) := getElem_of_drop g3 (by omega) (by omega) (by omega)
          have q2 : q[k + 1 + m + 1]'(by omega) = l[k + 1 + m + 1]'(by omega) := getElem_of_drop g3 (by omega) (by omega) (by omega)
          conv => whnf
          repeat' (first | ((first | refine Split.mk (fun h => ?_) (fun h => ?_) | refine CondG.mk (fun h => ?_) (fun h => ?_)) <;> (try simp only [decide_eq_true_eq, decide_eq_false_iff_not, Bool.not_eq_true', Bool.not_eq_false', beq_iff_eq, beq_eq_false_iff_ne] at h) <;> (first | (exfalso; first | omega | exact h trivial) | (conv => whnf))) | (refine Ask.mk (by first | omega | (unfold roomOK; simp [cutRows]; done) | (unfold roomOK; simp [cutRows]; omega)) ?_; conv => whnf) | (refine AppG.mk (by first | omega | (unfold roomOK; simp [cutRows]; done) | (unfold roomOK; simp [cutRows]; omega)) ?_; conv => whnf) | (refine SliceG.fr ?_; conv => whnf) | fail)
          refine row_at (k + 1 + m + 1) (by rw [toN]; omega) (by omega) ?_
          conv => whnf
          rw [hwm]
          refine .mk (by omega) ?_
          conv => whnf
          refine row_at (k + 1 + m) (by rw [toN]) (by omega) ?_
          conv => whnf
          refine .mk (fun h => ?_) (fun h => ?_)
          · have he2 : ¬ l[k + 1 + m + 1]'(by omega) = l[k + 1 + m]'(by omega) := fun e => by
              rw [← q1, ← q2] at e
              exact absurd (((beq_iff_eq (α := Int)).2 e).symm.trans (notT h)) (by decide)
            obtain ⟨n1, n2⟩ := cpt_new g1 (by omega) g2 g3 g4 he2
            clear h
            conv => whnf
            refine .mk (by omega) ?_
            conv => whnf
            refine row_at (k + 1 + m + 1) (by rw [toN]; omega) (by omega) ?_
            conv => whnf
            refine .mk (by omega) ?_
            conv => whnf
            refine row_at j toN (by omega) ?_
            conv => whnf
            refine count_next (j + 1, q.set j (l[k + 1 + m + 1]'(by omega))) hm (by
              rw [wrap_succ (n := l.length) (by omega) (by omega), wrap_succ (n := l.length) (by omega) (by omega), toN, List.map_set, ← q2]; rfl) ⟨by simp [g1], by simp only; omega, n1, n2⟩
          · have he2 : l[k + 1 + m + 1]'(by omega) = l[k + 1 + m]'(by omega) := by
              rw [← q1, ← q2]
              exact (beq_iff_eq (α := Int)).1 (notF h)
            obtain ⟨n1, n2⟩ := cpt_same (by omega) g3 g4 he2
            clear h
            conv => whnf
            refine count_next (j, q) hm (by rw [wrap_succ (n := l.length) (by omega) (by omega)]; rfl) ⟨g1, by simp only; omega, n1, n2⟩
        · intro j q ⟨g1, g2, g3, g4⟩
          have hqm : (q.map encI).length = q.length := List.length_map ..
          rw [List.drop_of_length_le (by omega), cptA, List.append_nil] at g4
          conv => whnf
          refine .mk (fun h => ?_) (fun h => ?_)
          · simp at h; omega
          conv => whnf
          refine .mk (by omega) ?_
          conv => whnf
          refine .vw ?_
          conv => whnf
          refine .mk (by rw [overR]; simp; omega) ?_
          conv => whnf
          refine .cut ⟨rfl, ?_⟩
          conv => whnf
          rw [toN]
          have hrow : ∀ z : List V, (overR (q.map encI) (List.replicate ((q.map encI).length - j) z) j).take j = (cpt l).map encI := by
            intro z
            rw [← g4, List.map_take]; unfold overR
            rw [List.append_assoc, List.take_append_of_le_length (by simp; omega), List.take_take, Nat.min_self]
          rw [hrow]
          exact .mk ⟨rfl, rfl⟩
      · have he : ¬ l[k + 1] = l[k] := fun e => absurd (((beq_iff_eq (α := Int)).2 e).symm.trans h) (by decide)
        conv => whnf
        refine count_next () hk (by rw [wrap_succ (n := l.length) (by omega) (by omega)]; rfl) ?_
        intro i hi1 hi2
        rcases Nat.lt_or_ge i k with h3 | h3
        · exact hi i hi1 h3
        · have : i = k := by omega
          subst this; exact he
    · intro _ hi
      exact absurd (fun i h => hi i h (by omega)) hid2
set_option maxRecDepth 100000 in
set_option maxHeartbeats 4000000 in
theorem cloneIr_pc (l : List Int) (hl : l.length ≤ 1000000) : PCp 41 [.c (.row 0)] [.row 3 1 (l.map encI)] (.c (.row 1)) [.row 3 1 (l.map encI), .row 3 1 (l.map encI)] := by
  have hlm : (l.map encI).length = l.length := List.length_map ..
  refine fn_sound (mt := mts) tab_fits tab_mixed Tryz.func41 (by rfl) (by kernel_rfl) (by kernel_rfl) Tryz.results41 (Nat.le_of_ble_eq_true (by kernel_rfl)) ?_
  conv => whnf
  refine .mk (fun h => ?_) ?_
  · conv => whnf
    exact .own 3 1 rfl rfl (by rw [h]; rfl)
  · conv => whnf
    repeat' (first | ((first | refine Split.mk (fun h => ?_) (fun h => ?_) | refine CondG.mk (fun h => ?_) (fun h => ?_)) <;> (try simp only [decide_eq_true_eq, decide_eq_false_iff_not, Bool.not_eq_true', Bool.not_eq_false', beq_iff_eq, beq_eq_false_iff_ne] at h) <;> (first | (exfalso; first | omega | exact h trivial) | (conv => whnf))) | (refine Ask.mk (by first | omega | (unfold roomOK; simp [cutRows]; done) | (unfold roomOK; simp [cutRows]; omega)) ?_; conv => whnf) | (refine AppG.mk (by first | omega | (unfold roomOK; simp [cutRows]; done) | (unfold roomOK; simp [cutRows]; omega)) ?_; conv => whnf) | (refine SliceG.fr ?_; conv => whnf) | fail)
    exact .mk ⟨rfl, rfl⟩
/-! plain: how many there are -/
theorem cptA_srt : ∀ (l : List Int) (d : Int), (d :: l).Pairwise (fun x y => ¬ y < x) → (d :: cptA d l).Pairwise (· < ·) ∧ ∀ x, x ∈ d :: cptA d l ↔ x ∈ d :: l
  | [], d, _ => by simp [cptA]
  | a :: r, d, h => by
    obtain ⟨h1, h2⟩ := List.pairwise_cons.1 h
    obtain ⟨h3, h4⟩ := List.pairwise_cons.1 h2
    have ih := cptA_srt r a h2
    by_cases e : a = d
    · subst e
      rw [cptA, if_pos rfl]
      refine ⟨ih.1, fun x => ?_⟩
      rw [ih.2 x]; simp
    · rw [cptA, if_neg e]
      have hlt : d < a := by have := h1 a (by simp); omega
      refine ⟨List.pairwise_cons.2 ⟨fun y hy => ?_, ih.1⟩, fun x => ?_⟩
      · rcases List.mem_cons.1 hy with rfl | hy
        · exact hlt
        · exact Int.lt_trans hlt ((List.pairwise_cons.1 ih.1).1 y hy)
      · have := ih.2 x
        rw [List.mem_cons, this]; simp
theorem cpt_srt {l : List Int} (h : l.Pairwise fun x y => ¬ y < x) : (cpt l).Pairwise (· < ·) ∧ ∀ x, x ∈ cpt l ↔ x ∈ l := by
  cases l with
  | nil => simp [cpt]
  | cons a r => exact cptA_srt r a h
theorem used_filter (p : List Nat) : ∀ n, usedDr p n = (((List.range n).filter fun k => decide (k ∈ p)).length : Int)
  | 0 => rfl
  | n + 1 => by
    rw [usedDr, used_filter p n, List.range_succ, List.filter_append, filter_one, List.length_append]
    by_cases h : n ∈ p
    · rw [if_pos h, if_pos (decide_eq_true h)]; simp
    · rw [if_neg h, if_neg (by rw [decide_eq_true_iff]; exact h)]; simp
theorem swoI : SWOc cmpI := (cmp_int id).swo
theorem cut_many {p : List Nat} {n : Nat} (hp : ∀ x ∈ p, x < n) : ((cpt (insSort cmpI (toI p))).length : Int) = usedDr p n := by
  rw [used_filter]
  have hs : (insSort cmpI (toI p)).Pairwise fun x y => ¬ y < x := (insSort_srt swoI (toI p)).imp (fun h q => h (cmpI_lt.2 q))
  obtain ⟨h1, h2⟩ := cpt_srt hs
  have hperm : (cpt (insSort cmpI (toI p))).Perm (((List.range n).filter fun k => decide (k ∈ p)).map fun (k : Nat) => (k : Int)) := by
    refine perm_of_nodup (h1.imp (fun h => Int.ne_of_lt h)) ?_ fun x => ?_
    · refine (List.pairwise_map.2 ((List.nodup_range.sublist List.filter_sublist).imp fun h e => h ?_))
      omega
    · rw [h2, (insSort_perm cmpI (toI p)).mem_iff]
      constructor
      · intro h
        obtain ⟨k, hk, rfl⟩ := List.mem_map.1 h
        exact List.mem_map.2 ⟨k, List.mem_filter.2 ⟨List.mem_range.2 (hp k hk), decide_eq_true hk⟩, rfl⟩
      · intro h
        obtain ⟨k, hk, rfl⟩ := List.mem_map.1 h
        exact List.mem_map.2 ⟨k, of_decide_eq_true (List.mem_filter.1 hk).2, rfl⟩
  rw [hperm.length_eq, List.length_map]
set_option maxRecDepth 100000 in
set_option maxHeartbeats 4000000 in
theorem rCutFrom_pc (p : List Nat) (n : Nat) (hp : ∀ x ∈ p, x < n) (h12 : p.length ≤ 12) : PCp 40 [.c (.row 0)] [.row 3 1 ((toI p).map encI)] (.c (.int .i64 (usedDr p n))) [.row 3 1 ((toI p).map encI)] := by
  have hl : (toI p).length ≤ 12 := by rw [toI_len]; exact h12
  have hm := cut_many hp
  have hil : (insSort cmpI (toI p)).length = (toI p).length := insSort_len ..
  have hcl := cpt_len (insSort cmpI (toI p))
  have hcm : ((cpt (insSort cmpI (toI p))).map encI).length = (cpt (insSort cmpI (toI p))).length := List.length_map ..
  refine fn_sound (mt := mts) tab_fits tab_mixed Tryz.func40 (by rfl) (by kernel_rfl) (by kernel_rfl) Tryz.results40 (Nat.le_of_ble_eq_true (by kernel_rfl)) ?_
  conv => whnf
  repeat' (first | ((first | refine Split.mk (fun h => ?_) (fun h => ?_) | refine CondG.mk (fun h => ?_) (fun h => ?_)) <;> (try simp only [decide_eq_true_eq, decide_eq_false_iff_not, Bool.not_eq_true', Bool.not_eq_false', beq_iff_eq, beq_eq_false_iff_ne, bne_iff_ne, bne_eq_false_iff_eq] at h) <;> (first | (exfalso; first | omega | exact h trivial) | (conv => whnf))) | (refine CallX.mk _ _ (by first | exact cloneIr_pc (toI p) (by omega) | exact sortI_pc (toI p) hl | exact cptI_pc (insSort cmpI (toI p)) (by omega)) ?_; conv => whnf) | (refine CallG.mk _ _ (by first | exact cloneIr_pc (toI p) (by omega) | exact sortI_pc (toI p) hl | exact cptI_pc (insSort cmpI (toI p)) (by omega)) ?_; conv => whnf) | (refine Ask.mk (by first | omega | (unfold roomOK; simp [cutRows]; done) | (unfold roomOK; simp [cutRows]; omega) | (simp [cutRows]; done) | (simp [cutRows]; omega)) ?_; conv => whnf) | (refine AppG.mk (by first | omega | (unfold roomOK; simp [cutRows]; done) | (unfold roomOK; simp [cutRows]; omega) | (simp [cutRows]; done) | (simp [cutRows]; omega)) ?_; conv => whnf) | (refine SliceG.fr ?_; conv => whnf) | (refine idx_at _ (by with_reducible rfl) (by first | assumption | omega) ?_; conv => whnf) | ((with_reducible refine row_map (by first | assumption | omega) ?_); conv => whnf) | ((with_reducible refine row_set (by first | assumption | omega | (simp only [List.length_set]; omega) | (simp; omega)) ?_); conv => whnf) | fail)
  rw [hcm, hm]
  exact .mk ⟨rfl, rfl⟩
end Go.Proofs.YtobcplhaabaemaaGreatDoor

/- All plans, tried section by section (plain). -/
namespace Go.Proofs.YtobcplhaabaemaaGreatDoor
set_option linter.unusedVariables false
set_option linter.unusedSimpArgs false
open Abs

def feas (d s : List Pc) (lost : Int) (pre : List Nat) (k : Nat) : Bool :=
  decide ((d.getD k default).kind = (s.getD pre.length default).kind ∧ (s.getD pre.length default).long + lost ≤ (d.getD k default).long - needV s lost (toI pre) k pre.length)
def enumP (d s : List Pc) (lost : Int) : Nat → List Nat → List (List Nat)
  | 0, pre => [pre]
  | m + 1, pre => (List.range d.length).flatMap fun k => if feas d s lost pre k = true then enumP d s lost m (pre ++ [k]) else []
def enumK (d s : List Pc) (lost : Int) (m : Nat) (pre : List Nat) (k : Nat) : List (List Nat) := (List.range k).flatMap fun k => if feas d s lost pre k = true then enumP d s lost m (pre ++ [k]) else []
theorem enumK_succ (d s : List Pc) (lost : Int) (m : Nat) (pre : List Nat) (k : Nat) : enumK d s lost m pre (k + 1) = enumK d s lost m pre k ++ (if feas d s lost pre k = true then enumP d s lost m (pre ++ [k]) else []) := by
  unfold enumK
  rw [List.range_succ, List.flatMap_append]
  simp
theorem enumP_mem (d s : List Pc) (lost : Int) : ∀ (m : Nat) (pre p : List Nat), p ∈ enumP d s lost m pre ↔ (pre <+: p ∧ p.length = pre.length + m ∧ ∀ i (hi : i < p.length), pre.length ≤ i → p[i] < d.length ∧ feas d s lost (p.take i) p[i] = true)
  | 0, pre, p => by
    rw [enumP, List.mem_singleton]
    constructor
    · rintro rfl; exact ⟨List.prefix_refl _, rfl, fun i hi h => by omega⟩
    · rintro ⟨h1, h2, _⟩; exact (h1.eq_of_length (by omega)).symm
  | m + 1, pre, p => by
    rw [enumP, List.mem_flatMap]
    constructor
    · rintro ⟨k, hk, hp⟩
      split at hp
      · rename_i hf
        obtain ⟨h1, h2, h3⟩ := (enumP_mem d s lost m (pre ++ [k]) p).1 hp
        simp only [List.length_append, List.length_cons, List.length_nil] at h2 h3
        have h4 : pre <+: p := List.IsPrefix.trans (List.prefix_append _ _) h1
        refine ⟨h4, by omega, fun i hi h => ?_⟩
        by_cases e : i = pre.length
        · subst e
          have e2 : p[pre.length] = k := by
            obtain ⟨t, rfl⟩ := h1
            simp
          have e3 : p.take pre.length = pre := (List.prefix_iff_eq_take.1 h4).symm
          rw [e2, e3]
          exact ⟨List.mem_range.1 hk, hf⟩
        · exact h3 i hi (by omega)
      · cases hp
    · rintro ⟨h1, h2, h3⟩
      have hpl : pre.length < p.length := by omega
      obtain ⟨g1, g2⟩ := h3 pre.length hpl (Nat.le_refl _)
      have e3 : p.take pre.length = pre := (List.prefix_iff_eq_take.1 h1).symm
      rw [e3] at g2
      refine ⟨p[pre.length], List.mem_range.2 g1, ?_⟩
      rw [if_pos g2, enumP_mem d s lost m]
      refine ⟨?_, by simp only [List.length_append, List.length_cons, List.length_nil]; omega, fun i hi h => h3 i hi (by simp only [List.length_append] at h; omega)⟩
      obtain ⟨t, ht⟩ := h1
      cases t with
      | nil => rw [List.append_nil] at ht; rw [ht] at hpl; omega
      | cons x t =>
        have : p[pre.length] = x := by
          have h5 : p[pre.length]? = some x := by rw [← ht]; simp
          rw [List.getElem?_eq_getElem hpl] at h5; exact Option.some.inj h5
        rw [this]
        exact ⟨t, by rw [← ht]; simp⟩
theorem needV_take (s : List Pc) (lost : Int) (p : List Nat) (k i : Nat) : ∀ m, m ≤ i → i ≤ p.length → needV s lost (toI (p.take i)) k m = needV s lost (toI p) k m
  | 0, _, _ => rfl
  | m + 1, h1, h2 => by
    have e1 : (toI (p.take i)).getD m (-1) = (toI p).getD m (-1) := by
      rw [toI_at p (by omega), toI_at (p.take i) (by rw [List.length_take]; omega), List.getElem_take]
    rw [needV, needV, needV_take s lost p k i m (by omega) h2, e1]
theorem enum_left {d s : List Pc} {r : Int × Int} (ha : allErr d s r = 0) (p : List Nat) : p ∈ enumP d s r.1 s.length [] ↔ Ext d.length s.length [] p ∧ leftE d s r (toI p) = 0 := by
  obtain ⟨f1, f2, f3, f4, f5, f6⟩ := allErr_ok ha
  have hs := (pcFault_ok f2).2
  have hd := (pcFault_ok f1).2
  rw [enumP_mem]
  simp only [List.length_nil, Nat.zero_add, Nat.zero_le, true_implies]
  constructor
  · rintro ⟨_, h2, h3⟩
    have hlt : ∀ x ∈ p, x < d.length := fun x hx => by
      obtain ⟨i, hi, rfl⟩ := List.mem_iff_getElem.1 hx
      exact (h3 i hi).1
    refine ⟨⟨List.nil_prefix, h2, hlt⟩, ?_⟩
    have hf : ∀ i (hi : i < p.length), (d.getD p[i] default).kind = (s.getD i default).kind ∧ (s.getD i default).long + r.1 ≤ (d.getD p[i] default).long - needV s r.1 (toI p) p[i] i := fun i hi => by
      have := (h3 i hi).2
      unfold feas at this
      have hl : (p.take i).length = i := by rw [List.length_take]; omega
      rw [decide_eq_true_iff, hl, needV_take s r.1 p p[i] i i (Nat.le_refl _) (by omega)] at this
      exact this
    have hK : kindOk d s p := fun i hi => by
      have e : p.getD i 0 = p[i] := by simp [List.getD_eq_getElem?_getD, List.getElem?_eq_getElem hi]
      rw [e]; exact (hf i hi).1
    have hN : ∀ k, k < d.length → ∀ i, i ≤ p.length → needV s r.1 (toI p) k i ≤ (d.getD k default).long := by
      intro k hk i
      induction i with
      | zero =>
        intro _
        have := hd _ (List.getElem_mem hk)
        have e : d.getD k default = d[k] := by simp [List.getD_eq_getElem?_getD, List.getElem?_eq_getElem hk]
        rw [needV, e]; omega
      | succ i ih =>
        intro hi
        have ih := ih (by omega)
        have h5 := (hf i (by omega)).2
        rw [needV, toI_at p (by omega)]
        by_cases e : p[i] = k
        · rw [e] at h5; rw [if_pos (by omega)]; omega
        · rw [if_neg (by omega)]; omega
    unfold leftE
    rw [if_neg (by omega), if_neg (by rw [toI_len]; exact fun h => h h2), if_neg (by have := (planErrs_full (s := s) hlt).2 hK; omega), if_neg]
    rw [toI_len, Bool.not_eq_true, any_neg, leftL_len]
    intro k hk
    have h1 : k < (leftL d s r.1 (toI p) p.length).length := by rw [leftL_len]; exact hk
    rw [List.getD_eq_getElem?_getD, List.getElem?_eq_getElem h1, Option.getD_some, leftL_get h1]
    have := hN k hk p.length (Nat.le_refl _)
    omega
  · rintro ⟨he, hl⟩
    obtain ⟨g1, g2, g3, g4⟩ := leftE_ok hl
    rw [any_neg, leftL_len, toI_len] at g4
    refine ⟨List.nil_prefix, he.len, fun i hi => ?_⟩
    have hpi := he.lt _ (List.getElem_mem hi)
    refine ⟨hpi, ?_⟩
    have hlen : (p.take i).length = i := by rw [List.length_take]; omega
    unfold feas
    rw [decide_eq_true_iff, hlen, needV_take s r.1 p p[i] i i (Nat.le_refl _) (by omega)]
    have hK := (planErrs_full (s := s) he.lt).1 g3 i hi
    have e : p.getD i 0 = p[i] := by simp [List.getD_eq_getElem?_getD, List.getElem?_eq_getElem hi]
    rw [e] at hK
    refine ⟨hK, ?_⟩
    have h5 := g4 p[i] hpi
    have h1 : p[i] < (leftL d s r.1 (toI p) p.length).length := by rw [leftL_len]; exact hpi
    rw [List.getD_eq_getElem?_getD, List.getElem?_eq_getElem h1, Option.getD_some, leftL_get h1] at h5
    have h6 := needV_mono hs f3 (toI p) p[i] (a := i + 1) (b := p.length) (by omega) (by have := he.len; omega)
    rw [needV, toI_at p hi, if_pos rfl] at h6
    omega
/-! in order -/
def LexL (a b : List Nat) : Prop := ∃ i, ∃ (ha : i < a.length) (hb : i < b.length), a.take i = b.take i ∧ a[i] < b[i]
theorem LexL.irr {a : List Nat} (h : LexL a a) : False := by obtain ⟨i, h1, h2, _, h3⟩ := h; exact Nat.lt_irrefl _ h3
theorem take_at {a b : List Nat} {i j : Nat} (h : a.take i = b.take i) (hj : j < i) (ha : j < a.length) (hb : j < b.length) : a[j] = b[j] := by
  have h1 : (a.take i)[j]? = (b.take i)[j]? := by rw [h]
  rw [List.getElem?_take_of_lt hj, List.getElem?_take_of_lt hj, List.getElem?_eq_getElem ha, List.getElem?_eq_getElem hb] at h1
  exact Option.some.inj h1
theorem LexL.asym {a b : List Nat} (h1 : LexL a b) (h2 : LexL b a) : False := by
  obtain ⟨i, a1, b1, t1, l1⟩ := h1
  obtain ⟨j, b2, a2, t2, l2⟩ := h2
  rcases Nat.lt_trichotomy i j with h | h | h
  · have := take_at t2 h b1 a1; omega
  · subst h; omega
  · have := take_at t1 h a2 b2; omega
theorem lex_total : ∀ {a b : List Nat}, a.length = b.length → a = b ∨ LexL a b ∨ LexL b a
  | [], [], _ => .inl rfl
  | x :: a, y :: b, h => by
    simp only [List.length_cons, Nat.add_right_cancel_iff] at h
    rcases Nat.lt_trichotomy x y with h1 | h1 | h1
    · exact .inr (.inl ⟨0, by simp, by simp, rfl, h1⟩)
    · subst h1
      rcases lex_total h with rfl | ⟨i, h2, h3, h4, h5⟩ | ⟨i, h2, h3, h4, h5⟩
      · exact .inl rfl
      · exact .inr (.inl ⟨i + 1, by simp; omega, by simp; omega, by simp [h4], by simpa using h5⟩)
      · exact .inr (.inr ⟨i + 1, by simp; omega, by simp; omega, by simp [h4], by simpa using h5⟩)
    · exact .inr (.inr ⟨0, by simp, by simp, rfl, h1⟩)
theorem enum_lex (d s : List Pc) (lost : Int) : ∀ (m : Nat) (pre : List Nat), (enumP d s lost m pre).Pairwise LexL
  | 0, pre => List.pairwise_singleton _ _
  | m + 1, pre => by
    rw [enumP, List.pairwise_flatMap]
    refine ⟨fun k _ => ?_, List.pairwise_lt_range.imp fun {a b} hab x hx y hy => ?_⟩
    · split
      · exact enum_lex d s lost m _
      · exact List.Pairwise.nil
    · split at hx
      · split at hy
        · obtain ⟨x1, x2, _⟩ := (enumP_mem d s lost m _ x).1 hx
          obtain ⟨y1, y2, _⟩ := (enumP_mem d s lost m _ y).1 hy
          obtain ⟨t, rfl⟩ := x1
          obtain ⟨u, rfl⟩ := y1
          refine ⟨pre.length, by simp, by simp, by simp, ?_⟩
          simpa using hab
        · cases hy
      · cases hx
/-! the first of the least -/
def updV (W : List Nat → Sc) (st : Option (List Nat)) (p : List Nat) : Option (List Nat) := match st with
  | none => some p
  | some b => if scLt (W p) (W b) then some p else some b
structure FirstMin (W : List Nat → Sc) (L : List (List Nat)) (p : List Nat) : Prop where
  mem : p ∈ L
  le : ∀ q ∈ L, ¬ scLt (W q) (W p)
  bef : ∀ i (hi : i < L.length), L[i] = p ∨ (∃ j, ∃ (hj : j < L.length), j < i ∧ L[j] = p) ∨ scLt (W p) (W L[i])
theorem scLt_trans {a b c : Sc} (h1 : scLt a b) (h2 : ¬ scLt c b) : scLt a c := by unfold scLt at *; omega
theorem min_snoc (W : List Nat → Sc) (L : List (List Nat)) (x : List Nat) (ih : (L = [] ∧ L.foldl (updV W) none = none) ∨ ∃ p, L.foldl (updV W) none = some p ∧ FirstMin W L p) : ∃ p, (L ++ [x]).foldl (updV W) none = some p ∧ FirstMin W (L ++ [x]) p := by
  rw [List.foldl_append]
  rcases ih with ⟨rfl, h⟩ | ⟨p, h, hm⟩
  · exact ⟨x, rfl, by simp, fun q hq => (by have h9 : q = x := (by simpa using hq); rw [h9]; unfold scLt; omega), fun i hi => by
      have : i = 0 := by simpa using hi
      subst this; exact .inl rfl⟩
  · rw [h]
    show ∃ p', (if scLt (W x) (W p) then some x else some p) = some p' ∧ _
    by_cases hx : scLt (W x) (W p)
    · refine ⟨x, by rw [if_pos hx], by simp, fun q hq => ?_, fun i hi => ?_⟩
      · rcases List.mem_append.1 hq with hq | hq
        · have := hm.le q hq
          unfold scLt at *; omega
        · rw [List.mem_singleton.1 hq]; unfold scLt; omega
      · by_cases e : i < L.length
        · right; right
          rw [List.getElem_append_left e]
          exact scLt_trans hx (hm.le _ (List.getElem_mem e))
        · left
          have : i = L.length := by simp only [List.length_append, List.length_cons, List.length_nil] at hi; omega
          subst this; simp
    · refine ⟨p, by rw [if_neg hx], by simp [hm.mem], fun q hq => ?_, fun i hi => ?_⟩
      · rcases List.mem_append.1 hq with hq | hq
        · exact hm.le q hq
        · rw [List.mem_singleton.1 hq]; exact hx
      · by_cases e : i < L.length
        · rw [List.getElem_append_left e]
          rcases hm.bef i e with h1 | ⟨j, hj, h1, h2⟩ | h1
          · exact .inl h1
          · exact .inr (.inl ⟨j, by simp; omega, h1, by rw [List.getElem_append_left hj]; exact h2⟩)
          · exact .inr (.inr h1)
        · obtain ⟨j, hj, h2⟩ := List.mem_iff_getElem.1 hm.mem
          exact .inr (.inl ⟨j, by simp; omega, by omega, by rw [List.getElem_append_left hj]; exact h2⟩)
theorem fold_min (W : List Nat → Sc) (L : List (List Nat)) : (L = [] ∧ L.foldl (updV W) none = none) ∨ ∃ p, L.foldl (updV W) none = some p ∧ FirstMin W L p := by
  have key : ∀ n, n ≤ L.length → (L.take n = [] ∧ (L.take n).foldl (updV W) none = none) ∨ ∃ p, (L.take n).foldl (updV W) none = some p ∧ FirstMin W (L.take n) p := by
    intro n
    induction n with
    | zero => intro _; exact .inl ⟨rfl, rfl⟩
    | succ n ih =>
      intro h
      right
      rw [List.take_succ_eq_append_getElem (by omega)]
      exact min_snoc W _ _ (ih (by omega))
  have := key L.length (Nat.le_refl _)
  rw [List.take_length] at this
  exact this
def wV (d s : List Pc) (r : Int × Int) (p : List Nat) : Sc := (wasteV d s r (toI p), usedDr p d.length)
def planD (d s : List Pc) (r : Int × Int) : Option (List Nat) := (enumP d s r.1 s.length []).foldl (updV (wV d s r)) none
/-- the document's plan is the program's -/
theorem plan_same {d s : List Pc} {r : Int × Int} (ha : allErr d s r = 0) (h1 : d.length ≤ 6) (h2 : s.length ≤ 10) {p : List Nat} {sc : Sc} (hP : PlanP (cstF d s r) d.length s.length sc p) : planD d s r = some p := by
  have hpl := (plan_left ha h1 h2 hP.ext).2 ⟨sc, hP.sum⟩
  have hpm : p ∈ enumP d s r.1 s.length [] := (enum_left ha p).2 ⟨hP.ext, hpl⟩
  unfold planD
  rcases fold_min (wV d s r) (enumP d s r.1 s.length []) with ⟨h, _⟩ | ⟨q, hq, hm⟩
  · rw [h] at hpm; cases hpm
  rw [hq]
  obtain ⟨hqe, hql⟩ := (enum_left ha q).1 hm.mem
  obtain ⟨a, hsa⟩ := (plan_left ha h1 h2 hqe).1 hql
  obtain ⟨_, w1, u1⟩ := plan_waste ha h1 h2 hP.ext hP.sum
  obtain ⟨_, w2, u2⟩ := plan_waste ha h1 h2 hqe hsa
  have hle := hP.least q a hqe hsa
  have hnl := hm.le p hpm
  have hW : ∀ x : List Nat, wV d s r x = (wasteV d s r (toI x), usedDr x d.length) := fun _ => rfl
  rw [hW, hW, w1, w2, ← u1, ← u2] at hnl
  have hEq : a = sc := by
    refine scLe_antisymm ?_ hle
    unfold scLt at hnl; unfold scLe at hle ⊢
    simp only at hnl; omega
  rcases lex_total (hqe.len.trans hP.ext.len.symm) with rfl | hlx | hlx
  · rfl
  · exfalso
    obtain ⟨i, g1, g2, g3, g4⟩ := hlx
    have hpi : p.getD i 0 = p[i] := by simp [List.getD_eq_getElem?_getD, List.getElem?_eq_getElem g2]
    refine hP.first i (by rw [← hP.ext.len]; exact g2) q[i] (by rw [hpi]; exact g4) q ⟨?_, hqe.len, hqe.lt⟩ (by rw [hsa, hEq])
    rw [← g3, List.take_append_getElem]
    exact List.take_prefix _ _
  · exfalso
    obtain ⟨ip, hip, ep⟩ := List.mem_iff_getElem.1 hpm
    have hlex := List.pairwise_iff_getElem.1 (enum_lex d s r.1 s.length [])
    rcases hm.bef ip hip with h | ⟨j, hj, h3, h4⟩ | h
    · rw [ep] at h; rw [h] at hlx; exact hlx.irr
    · have := hlex j ip hj hip h3
      rw [h4, ep] at this
      exact this.asym hlx
    · rw [ep, hW, hW, w1, w2, ← u1, ← u2, hEq] at h
      unfold scLt at h; simp only at h; omega
theorem plan_not {d s : List Pc} {r : Int × Int} (ha : allErr d s r = 0) (h1 : d.length ≤ 6) (h2 : s.length ≤ 10) (hno : ∀ p' a, Ext d.length s.length [] p' → sumV (cstF d s r) (mask p') d.length ≠ some a) : planD d s r = none := by
  unfold planD
  rcases fold_min (wV d s r) (enumP d s r.1 s.length []) with ⟨_, h⟩ | ⟨q, hq, hm⟩
  · exact h
  · obtain ⟨hqe, hql⟩ := (enum_left ha q).1 hm.mem
    obtain ⟨a, hsa⟩ := (plan_left ha h1 h2 hqe).1 hql
    exact (hno q a hqe hsa).elim
end Go.Proofs.YtobcplhaabaemaaGreatDoor
