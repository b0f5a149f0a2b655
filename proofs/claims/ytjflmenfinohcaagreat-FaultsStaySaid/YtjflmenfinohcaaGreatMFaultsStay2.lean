/- Parts of the proof, in order. -/
import Derived.Test.YtjflmenfinohcaaGreatMFaultsStay1

/- Acts in a store, by the abstract walk. -/
namespace Go.Proofs.YtjflmenfinohcaaGreat
set_option linter.unusedVariables false
set_option linter.unusedSimpArgs false
open Abs

structure Ac where
  mo : Int
  kd : Int
  drum : ByteArray
  ty : ByteArray
  of : ByteArray
  long : Int
def encAc (x : Ac) : List V := [.int .i64 x.mo, .int .i64 x.kd, .str x.drum, .str x.ty, .str x.of, .int .i64 x.long]
def momB (n : Int) : Bool := decide (0 ≤ n ∧ n ≤ 345686399999)
set_option maxRecDepth 100000 in
set_option maxHeartbeats 4000000 in
theorem bMoment_pc (n : Int) : PCp 108 [.c (.int .i64 n)] [] (.c (.bool (momB n))) [] := by
  refine fn_sound (mt := mts) tab_fits tab_mixed Tryz.func108 (by rfl) (by kernel_rfl) (by kernel_rfl) Tryz.results108 (Nat.le_of_ble_eq_true (by kernel_rfl)) ?_
  conv => whnf
  repeat' (first | ((first | refine Split.mk (fun h => ?_) (fun h => ?_) | refine CondG.mk (fun h => ?_) (fun h => ?_)) <;> (try simp only [decide_eq_true_eq, decide_eq_false_iff_not, Bool.not_eq_true', Bool.not_eq_false', beq_iff_eq, beq_eq_false_iff_ne] at h) <;> (first | (exfalso; first | omega | exact h trivial) | (conv => whnf))) | (refine CallX.mk _ _ (by first | exact bOut_pc _ _ _) ?_; conv => whnf) | (refine CallG.mk _ _ (by first | exact bOut_pc _ _ _) ?_; conv => whnf) | (refine Ask.mk (by first | omega | (unfold roomOK; simp [cutRows]; done) | (unfold roomOK; simp [cutRows]; omega)) ?_; conv => whnf) | (refine AppG.mk (by first | omega | (unfold roomOK; simp [cutRows]; done) | (unfold roomOK; simp [cutRows]; omega)) ?_; conv => whnf) | (refine SliceG.fr ?_; conv => whnf) | (refine BuildG.fr ?_; conv => whnf) | fail)
  exact finb (by unfold momB; rw [Bool.eq_iff_iff]; simp; try omega)
def actErr (x : Ac) : Int :=
  if !momB x.mo then 1 else if x.kd < 1 ∨ 4 < x.kd then 4
  else if !keyB x.drum || (x.kd == 1 && !keyB x.ty) || (x.kd == 3 && !keyB x.of) then 5
  else if x.kd ≠ 4 ∧ (x.long < 1 ∨ 200000 < x.long) then 1
  else if (x.kd ≠ 1 ∧ x.ty.toList ≠ (⟨#[]⟩ : ByteArray).toList) ∨ (x.kd ≠ 3 ∧ x.of.toList ≠ (⟨#[]⟩ : ByteArray).toList) ∨ (x.kd = 4 ∧ x.long ≠ 0) then 3 else 0
set_option maxRecDepth 100000 in
set_option maxHeartbeats 4000000 in
theorem dActFault_pc (x : Ac) : PCp 144 [.agg (encAc x)] [] (.c (.int .i64 (actErr x))) [] := by
  refine fn_sound (mt := mts) tab_fits tab_mixed Tryz.func144 (by rfl) (by kernel_rfl) (by kernel_rfl) Tryz.results144 (Nat.le_of_ble_eq_true (by kernel_rfl)) ?_
  conv => whnf
  repeat' (first | ((first | refine Split.mk (fun h => ?_) (fun h => ?_) | refine CondG.mk (fun h => ?_) (fun h => ?_)) <;> (try simp only [decide_eq_true_eq, decide_eq_false_iff_not, Bool.not_eq_true', Bool.not_eq_false', beq_iff_eq, beq_eq_false_iff_ne] at h) <;> (first | (exfalso; first | omega | exact h trivial) | (conv => whnf))) | (refine CallX.mk _ _ (by first | exact bMoment_pc _ | exact bOut_pc _ _ _ | exact bKey_pc _) ?_; conv => whnf) | (refine CallG.mk _ _ (by first | exact bMoment_pc _ | exact bOut_pc _ _ _ | exact bKey_pc _) ?_; conv => whnf) | (refine Ask.mk (by first | omega | (unfold roomOK; simp [cutRows]; done) | (unfold roomOK; simp [cutRows]; omega)) ?_; conv => whnf) | (refine AppG.mk (by first | omega | (unfold roomOK; simp [cutRows]; done) | (unfold roomOK; simp [cutRows]; omega)) ?_; conv => whnf) | (refine SliceG.fr ?_; conv => whnf) | (refine BuildG.fr ?_; conv => whnf) | fail)
  all_goals refine fini ?_
  all_goals unfold actErr
  all_goals generalize (⟨#[]⟩ : ByteArray).toList = nl at *
  all_goals simp_all
  all_goals omega
def cmpI (a b : Int) : Int := if a < b then -1 else if b < a then 1 else 0
set_option maxRecDepth 100000 in
set_option maxHeartbeats 4000000 in
theorem isNaNI_pc (a : Int) : PCp 134 [.c (.int .i64 a)] [] (.c (.bool false)) [] := by
  refine fn_sound (mt := mts) tab_fits tab_mixed Tryz.func134 (by rfl) (by kernel_rfl) (by kernel_rfl) Tryz.results134 (Nat.le_of_ble_eq_true (by kernel_rfl)) ?_
  conv => whnf
  exact finb (by simp)
set_option maxRecDepth 100000 in
set_option maxHeartbeats 4000000 in
theorem cmpI_pc (a b : Int) : PCp 100 [.c (.int .i64 a), .c (.int .i64 b)] [] (.c (.int .i64 (cmpI a b))) [] := by
  refine fn_sound (mt := mts) tab_fits tab_mixed Tryz.func100 (by rfl) (by kernel_rfl) (by kernel_rfl) Tryz.results100 (Nat.le_of_ble_eq_true (by kernel_rfl)) ?_
  conv => whnf
  repeat' (first | ((first | refine Split.mk (fun h => ?_) (fun h => ?_) | refine CondG.mk (fun h => ?_) (fun h => ?_)) <;> (try simp only [decide_eq_true_eq, decide_eq_false_iff_not, Bool.not_eq_true', Bool.not_eq_false', beq_iff_eq, beq_eq_false_iff_ne] at h) <;> (first | (exfalso; first | omega | exact h trivial) | (conv => whnf))) | (refine CallX.mk _ _ (by first | exact isNaNI_pc _) ?_; conv => whnf) | (refine CallG.mk _ _ (by first | exact isNaNI_pc _) ?_; conv => whnf) | (refine Ask.mk (by first | omega | (unfold roomOK; simp [cutRows]; done) | (unfold roomOK; simp [cutRows]; omega)) ?_; conv => whnf) | (refine AppG.mk (by first | omega | (unfold roomOK; simp [cutRows]; done) | (unfold roomOK; simp [cutRows]; omega)) ?_; conv => whnf) | (refine SliceG.fr ?_; conv => whnf) | (refine BuildG.fr ?_; conv => whnf) | fail)
  all_goals exact fini (by simp_all [cmpI] <;> omega)
set_option maxRecDepth 100000 in
set_option maxHeartbeats 4000000 in
theorem orI_pc (l : List Int) (hl : l.length ≤ 1000000) : PCp 174 [.c (.lst 1 (l.map encI))] [] (.c (.int .i64 (firstErr l))) [] := by
  have hlm : (l.map encI).length = l.length := List.length_map ..
  refine fn_sound (mt := mts) tab_fits tab_mixed Tryz.func174 (by rfl) (by kernel_rfl) (by kernel_rfl) Tryz.results174 (Nat.le_of_ble_eq_true (by kernel_rfl)) ?_
  conv => whnf
  refine loop_count (l.length) [] [3, 6, 7, 8] (fun k (_ : Unit) => ⟨[(3, .c (.int .i64 0)), (6, .c (.lst 1 (l.map encI))), (7, .c (.int .i64 (l.map encI).length)), (8, .c (.int .i64 k))], [], 0⟩) (fun k (_ : Unit) => firstErr (l.drop k) = firstErr l) (()) ?_ ?_ ?_
  · conv => whnf
    exact ⟨rfl, rfl⟩
  · intro k _ hk hi
    rw [drop_cons hk, firstErr] at hi
    conv => whnf
    repeat' (first | ((first | refine Split.mk (fun h => ?_) (fun h => ?_) | refine CondG.mk (fun h => ?_) (fun h => ?_)) <;> (try simp only [decide_eq_true_eq, decide_eq_false_iff_not, Bool.not_eq_true', Bool.not_eq_false', beq_iff_eq, beq_eq_false_iff_ne] at h) <;> (first | (exfalso; first | omega | exact h trivial) | (conv => whnf))) | (refine Ask.mk (by first | omega | (unfold roomOK; simp [cutRows]; done) | (unfold roomOK; simp [cutRows]; omega)) ?_; conv => whnf) | (refine AppG.mk (by first | omega | (unfold roomOK; simp [cutRows]; done) | (unfold roomOK; simp [cutRows]; omega)) ?_; conv => whnf) | (refine SliceG.fr ?_; conv => whnf) | (refine BuildG.fr ?_; conv => whnf) | fail)
    refine idx_map k hk rfl ?_
    conv => whnf
    repeat' (first | ((first | refine Split.mk (fun h => ?_) (fun h => ?_) | refine CondG.mk (fun h => ?_) (fun h => ?_)) <;> (try simp only [decide_eq_true_eq, decide_eq_false_iff_not, Bool.not_eq_true', Bool.not_eq_false', beq_iff_eq, beq_eq_false_iff_ne] at h) <;> (first | (exfalso; first | omega | exact h trivial) | (conv => whnf))) | (refine Ask.mk (by first | omega | (unfold roomOK; simp [cutRows]; done) | (unfold roomOK; simp [cutRows]; omega)) ?_; conv => whnf) | (refine AppG.mk (by first | omega | (unfold roomOK; simp [cutRows]; done) | (unfold roomOK; simp [cutRows]; omega)) ?_; conv => whnf) | (refine SliceG.fr ?_; conv => whnf) | (refine BuildG.fr ?_; conv => whnf) | fail)
    · exact fini (by rw [← hi, if_neg (by simpa using h)])
    · refine count_next () hk (by rw [wrap_succ hk (by omega)]; rfl) ?_
      rw [← hi, if_pos (by simpa using h)]
  · intro _ hi
    rw [List.drop_of_length_le (Nat.le_refl _)] at hi
    conv => whnf
    repeat' (first | ((first | refine Split.mk (fun h => ?_) (fun h => ?_) | refine CondG.mk (fun h => ?_) (fun h => ?_)) <;> (try simp only [decide_eq_true_eq, decide_eq_false_iff_not, Bool.not_eq_true', Bool.not_eq_false', beq_iff_eq, beq_eq_false_iff_ne] at h) <;> (first | (exfalso; first | omega | exact h trivial) | (conv => whnf))) | (refine Ask.mk (by first | omega | (unfold roomOK; simp [cutRows]; done) | (unfold roomOK; simp [cutRows]; omega)) ?_; conv => whnf) | (refine AppG.mk (by first | omega | (unfold roomOK; simp [cutRows]; done) | (unfold roomOK; simp [cutRows]; omega)) ?_; conv => whnf) | (refine SliceG.fr ?_; conv => whnf) | (refine BuildG.fr ?_; conv => whnf) | fail)
    exact fini (by rw [← hi]; rfl)
def timeC (a b : Ac) : Int := firstErr [cmpI a.mo b.mo, cmpS a.drum b.drum, cmpI a.kd b.kd, cmpS a.ty b.ty, cmpS a.of b.of, cmpI a.long b.long]
set_option maxRecDepth 100000 in
set_option maxHeartbeats 4000000 in
theorem byTime_pc (a b : Ac) : PCp 145 [.agg (encAc a), .agg (encAc b)] [] (.c (.int .i64 (timeC a b))) [] := by
  refine fn_sound (mt := mts) tab_fits tab_mixed Tryz.func145 (by rfl) (by kernel_rfl) (by kernel_rfl) Tryz.results145 (Nat.le_of_ble_eq_true (by kernel_rfl)) ?_
  conv => whnf
  repeat' (first | ((first | refine Split.mk (fun h => ?_) (fun h => ?_) | refine CondG.mk (fun h => ?_) (fun h => ?_)) <;> (try simp only [decide_eq_true_eq, decide_eq_false_iff_not, Bool.not_eq_true', Bool.not_eq_false', beq_iff_eq, beq_eq_false_iff_ne] at h) <;> (first | (exfalso; first | omega | exact h trivial) | (conv => whnf))) | (refine CallX.mk _ _ (by first | exact cmpI_pc _ _ | exact sCompare_pc _ _ | exact orI_pc [cmpI a.mo b.mo, cmpS a.drum b.drum, cmpI a.kd b.kd, cmpS a.ty b.ty, cmpS a.of b.of, cmpI a.long b.long] (by simp)) ?_; conv => whnf) | (refine CallG.mk _ _ (by first | exact cmpI_pc _ _ | exact sCompare_pc _ _ | exact orI_pc [cmpI a.mo b.mo, cmpS a.drum b.drum, cmpI a.kd b.kd, cmpS a.ty b.ty, cmpS a.of b.of, cmpI a.long b.long] (by simp)) ?_; conv => whnf) | (refine Ask.mk (by first | omega | (unfold roomOK; simp [cutRows]; done) | (unfold roomOK; simp [cutRows]; omega)) ?_; conv => whnf) | (refine AppG.mk (by first | omega | (unfold roomOK; simp [cutRows]; done) | (unfold roomOK; simp [cutRows]; omega)) ?_; conv => whnf) | (refine SliceG.fr ?_; conv => whnf) | (refine BuildG.fr ?_; conv => whnf) | fail)
  exact fini rfl
def badPrev (p : Option Ac) (x : Ac) : Bool := match p with | none => false | some y => decide (timeC x y ≤ 0)
def actsErr : Option Ac → List Ac → Int
  | _, [] => 0
  | p, x :: r => if actErr x ≠ 0 then actErr x else if badPrev p x = true then 7 else actsErr (some x) r
def prevAt (l : List Ac) (k : Nat) : Option Ac := if k = 0 then none else l[k - 1]?
def actsFault (l : List Ac) : Int := if 2000 < l.length then 2 else actsErr none l
set_option maxRecDepth 100000 in
set_option maxHeartbeats 4000000 in
theorem checkActs_pc (l : List Ac) : PCp 107 [.c (.lst 6 (l.map encAc))] [] (.c (.int .i64 (actsFault l))) [] := by
  have hlm : (l.map encAc).length = l.length := List.length_map ..
  refine fn_sound (mt := mts) tab_fits tab_mixed Tryz.func107 (by rfl) (by kernel_rfl) (by kernel_rfl) Tryz.results107 (Nat.le_of_ble_eq_true (by kernel_rfl)) ?_
  conv => whnf
  repeat' (first | ((first | refine Split.mk (fun h => ?_) (fun h => ?_) | refine CondG.mk (fun h => ?_) (fun h => ?_)) <;> (try simp only [decide_eq_true_eq, decide_eq_false_iff_not, Bool.not_eq_true', Bool.not_eq_false', beq_iff_eq, beq_eq_false_iff_ne] at h) <;> (first | (exfalso; first | omega | exact h trivial) | (conv => whnf))) | (refine Ask.mk (by first | omega | (unfold roomOK; simp [cutRows]; done) | (unfold roomOK; simp [cutRows]; omega)) ?_; conv => whnf) | (refine AppG.mk (by first | omega | (unfold roomOK; simp [cutRows]; done) | (unfold roomOK; simp [cutRows]; omega)) ?_; conv => whnf) | (refine SliceG.fr ?_; conv => whnf) | (refine BuildG.fr ?_; conv => whnf) | fail)
  · exact fini (by rw [actsFault, if_pos (by omega)])
  have hF : actsFault l = actsErr none l := by rw [actsFault, if_neg (by omega)]
  refine loop_count (l.length) [] [0, 9, 10, 11] (fun k (_ : Unit) => ⟨[(0, .c (.lst 6 (l.map encAc))), (9, .c (.lst 6 (l.map encAc))), (10, .c (.int .i64 (l.map encAc).length)), (11, .c (.int .i64 k))], [], 0⟩) (fun k (_ : Unit) => actsErr (prevAt l k) (l.drop k) = actsErr none l) (()) ?_ ?_ ?_
  · conv => whnf
    exact ⟨rfl, rfl⟩
  · intro k _ hk hi
    rw [drop_cons hk, actsErr] at hi
    have hp1 : prevAt l (k + 1) = some l[k] := by simp [prevAt, hk]
    conv => whnf
    repeat' (first | ((first | refine Split.mk (fun h => ?_) (fun h => ?_) | refine CondG.mk (fun h => ?_) (fun h => ?_)) <;> (try simp only [decide_eq_true_eq, decide_eq_false_iff_not, Bool.not_eq_true', Bool.not_eq_false', beq_iff_eq, beq_eq_false_iff_ne] at h) <;> (first | (exfalso; first | omega | exact h trivial) | (conv => whnf))) | (refine Ask.mk (by first | omega | (unfold roomOK; simp [cutRows]; done) | (unfold roomOK; simp [cutRows]; omega)) ?_; conv => whnf) | (refine AppG.mk (by first | omega | (unfold roomOK; simp [cutRows]; done) | (unfold roomOK; simp [cutRows]; omega)) ?_; conv => whnf) | (refine SliceG.fr ?_; conv => whnf) | (refine BuildG.fr ?_; conv => whnf) | fail)
    refine idx_map k hk rfl ?_
    conv => whnf
    repeat' (first | ((first | refine Split.mk (fun h => ?_) (fun h => ?_) | refine CondG.mk (fun h => ?_) (fun h => ?_)) <;> (try simp only [decide_eq_true_eq, decide_eq_false_iff_not, Bool.not_eq_true', Bool.not_eq_false', beq_iff_eq, beq_eq_false_iff_ne] at h) <;> (first | (exfalso; first | omega | exact h trivial) | (conv => whnf))) | (refine CallX.mk _ _ (by first | exact dActFault_pc _) ?_; conv => whnf) | (refine CallG.mk _ _ (by first | exact dActFault_pc _) ?_; conv => whnf) | (refine Ask.mk (by first | omega | (unfold roomOK; simp [cutRows]; done) | (unfold roomOK; simp [cutRows]; omega)) ?_; conv => whnf) | (refine AppG.mk (by first | omega | (unfold roomOK; simp [cutRows]; done) | (unfold roomOK; simp [cutRows]; omega)) ?_; conv => whnf) | (refine SliceG.fr ?_; conv => whnf) | (refine BuildG.fr ?_; conv => whnf) | fail)
    · have h' : actErr l[k] ≠ 0 := by simpa using h
      rw [if_pos h'] at hi
      exact fini (by rw [hF, ← hi])
    · rename_i h0
      have h' : ¬ actErr l[k] ≠ 0 := by simpa using h0
      rw [if_neg h'] at hi
      have hk1 : IntKind.i64.wrap ((k : Int) - 1) = ((k - 1 : Nat) : Int) := by rw [wrap_in (by omega) (by omega)]; omega
      have hp : prevAt l k = some (l[k - 1]'(by omega)) := by rw [prevAt, if_neg (by omega)]; exact List.getElem?_eq_getElem (by omega)
      rw [hp] at hi
      refine idx_map (k - 1) (by omega) hk1 ?_
      conv => whnf
      repeat' (first | ((first | refine Split.mk (fun h => ?_) (fun h => ?_) | refine CondG.mk (fun h => ?_) (fun h => ?_)) <;> (try simp only [decide_eq_true_eq, decide_eq_false_iff_not, Bool.not_eq_true', Bool.not_eq_false', beq_iff_eq, beq_eq_false_iff_ne] at h) <;> (first | (exfalso; first | omega | exact h trivial) | (conv => whnf))) | (refine CallX.mk _ _ (by first | exact byTime_pc _ _) ?_; conv => whnf) | (refine CallG.mk _ _ (by first | exact byTime_pc _ _) ?_; conv => whnf) | (refine Ask.mk (by first | omega | (unfold roomOK; simp [cutRows]; done) | (unfold roomOK; simp [cutRows]; omega)) ?_; conv => whnf) | (refine AppG.mk (by first | omega | (unfold roomOK; simp [cutRows]; done) | (unfold roomOK; simp [cutRows]; omega)) ?_; conv => whnf) | (refine SliceG.fr ?_; conv => whnf) | (refine BuildG.fr ?_; conv => whnf) | fail)
      · skip
        rw [if_pos (by simpa [badPrev] using h)] at hi
        exact fini (by rw [hF, ← hi])
      · skip
        rw [if_neg (by simpa [badPrev] using h)] at hi
        refine count_next () hk (by rw [wrap_succ hk (by omega)]; rfl) ?_
        rw [hp1]; exact hi
    · have h' : ¬ actErr l[k] ≠ 0 := by simp_all
      have h0 : k = 0 := by omega
      subst h0
      rw [if_neg h', if_neg (by simp [badPrev, prevAt])] at hi
      refine count_next () hk (by rw [wrap_succ hk (by omega)]; rfl) ?_
      rw [hp1]; exact hi
  · intro _ hi
    rw [List.drop_of_length_le (Nat.le_refl _)] at hi
    conv => whnf
    repeat' (first | ((first | refine Split.mk (fun h => ?_) (fun h => ?_) | refine CondG.mk (fun h => ?_) (fun h => ?_)) <;> (try simp only [decide_eq_true_eq, decide_eq_false_iff_not, Bool.not_eq_true', Bool.not_eq_false', beq_iff_eq, beq_eq_false_iff_ne] at h) <;> (first | (exfalso; first | omega | exact h trivial) | (conv => whnf))) | (refine Ask.mk (by first | omega | (unfold roomOK; simp [cutRows]; done) | (unfold roomOK; simp [cutRows]; omega)) ?_; conv => whnf) | (refine AppG.mk (by first | omega | (unfold roomOK; simp [cutRows]; done) | (unfold roomOK; simp [cutRows]; omega)) ?_; conv => whnf) | (refine SliceG.fr ?_; conv => whnf) | (refine BuildG.fr ?_; conv => whnf) | fail)
    exact fini (by rw [hF, ← hi]; rfl)

end Go.Proofs.YtjflmenfinohcaaGreat

/- A store with one drum, by the abstract walk. -/
namespace Go.Proofs.YtjflmenfinohcaaGreat
set_option linter.unusedVariables false
set_option linter.unusedSimpArgs false
open Abs

/-- a first drum comes -/
abbrev stBox : Ob := .box [.mp 1, .mp 2]
set_option maxRecDepth 100000 in
set_option maxHeartbeats 4000000 in
theorem take1_pc (x : Ac) (hk : x.kd = 1) : PCp 146 [.c (.ptr 0 0), .agg (encAc x)] [stBox, .map 0 [], .map 0 []] (.tup [.c (.str x.ty), .c (.int .i64 0)]) [stBox, .map 1 [(0, .c (.str x.drum), .agg [.str x.ty, .int .i64 x.long])], .map 1 [(0, .c (.str x.drum), .c (.str x.ty))]] := by
  refine fn_sound (mt := mts) tab_fits tab_mixed Tryz.func146 (by rfl) (by kernel_rfl) (by kernel_rfl) Tryz.results146 (Nat.le_of_ble_eq_true (by kernel_rfl)) ?_
  conv => whnf
  repeat (refine .mk _ _ (.inr ⟨rfl, rfl, rfl⟩) ?_; conv => whnf)
  repeat' (first | ((first | refine Split.mk (fun h => ?_) (fun h => ?_) | refine CondG.mk (fun h => ?_) (fun h => ?_)) <;> (try simp only [decide_eq_true_eq, decide_eq_false_iff_not, Bool.not_eq_true', Bool.not_eq_false', beq_iff_eq, beq_eq_false_iff_ne] at h) <;> (first | (exfalso; first | omega | exact h trivial) | (conv => whnf))) | (refine Ask.mk (by first | omega | (unfold roomOK; simp [cutRows]; done) | (unfold roomOK; simp [cutRows]; omega)) ?_; conv => whnf) | (refine AppG.mk (by first | omega | (unfold roomOK; simp [cutRows]; done) | (unfold roomOK; simp [cutRows]; omega)) ?_; conv => whnf) | (refine SliceG.fr ?_; conv => whnf) | (refine BuildG.fr ?_; conv => whnf) | fail)
  · cases h
  refine .mk _ _ _ _ (.inr ⟨rfl, rfl, rfl, rfl, rfl⟩) ?_
  conv => whnf
  refine .mk 0 0 _ _ ⟨rfl, rfl, by intro i hi; omega⟩ ?_
  conv => whnf
  refine .mk _ _ _ _ (.inr ⟨rfl, rfl, rfl, rfl, rfl⟩) ?_
  conv => whnf
  refine .mk 0 0 _ _ ⟨rfl, rfl, by intro i hi; omega⟩ ?_
  conv => whnf
  exact .mk ⟨rfl, rfl⟩
/-- a store with one drum -/
abbrev stOne (x : Ac) : List Ob := [stBox, .map 1 [(0, .c (.str x.drum), .agg [.str x.ty, .int .i64 x.long])], .map 1 [(0, .c (.str x.drum), .c (.str x.ty))]]
set_option maxRecDepth 100000 in
set_option maxHeartbeats 4000000 in
theorem at1_pc (x : Ac) (a b : Int) (s : ByteArray) : PCp 110 [.c (.ptr 0 0), .c (.int .i64 a), .c (.str s), .c (.int .i64 b)] (stOne x) (.tup []) (stOne x) := by
  refine fn_sound (mt := mts) tab_fits tab_mixed Tryz.func110 (by rfl) (by kernel_rfl) (by kernel_rfl) Tryz.results110 (Nat.le_of_ble_eq_true (by kernel_rfl)) ?_
  conv => whnf
  exact .mk ⟨rfl, rfl⟩
set_option maxRecDepth 100000 in
set_option maxHeartbeats 4000000 in
theorem follow1_pc (x : Ac) (hk : x.kd = 1) : PCp 109 [.c (.lst 6 [encAc x]), .c (.fn 110 [])] [] (.c (.ptr 0 0)) (stOne x) := by
  refine fn_sound (mt := mts) tab_fits tab_mixed Tryz.func109 (by rfl) (by kernel_rfl) (by kernel_rfl) Tryz.results109 (Nat.le_of_ble_eq_true (by kernel_rfl)) ?_
  conv => whnf
  refine .un 2 ?_
  conv => whnf
  repeat' (first | ((first | refine Split.mk (fun h => ?_) (fun h => ?_) | refine CondG.mk (fun h => ?_) (fun h => ?_)) <;> (try simp only [decide_eq_true_eq, decide_eq_false_iff_not, Bool.not_eq_true', Bool.not_eq_false', beq_iff_eq, beq_eq_false_iff_ne] at h) <;> (first | (exfalso; first | omega | exact h trivial) | (conv => whnf))) | (refine Ask.mk (by first | omega | (unfold roomOK; simp [cutRows]; done) | (unfold roomOK; simp [cutRows]; omega)) ?_; conv => whnf) | (refine AppG.mk (by first | omega | (unfold roomOK; simp [cutRows]; done) | (unfold roomOK; simp [cutRows]; omega)) ?_; conv => whnf) | (refine SliceG.fr ?_; conv => whnf) | (refine BuildG.fr ?_; conv => whnf) | fail)
  rotate_left
  · exact absurd h (by simp)
  refine .mk (encAc x) ⟨by simp, rfl⟩ ?_
  conv => whnf
  repeat' (first | ((first | refine Split.mk (fun h => ?_) (fun h => ?_) | refine CondG.mk (fun h => ?_) (fun h => ?_)) <;> (try simp only [decide_eq_true_eq, decide_eq_false_iff_not, Bool.not_eq_true', Bool.not_eq_false', beq_iff_eq, beq_eq_false_iff_ne] at h) <;> (first | (exfalso; first | omega | exact h trivial) | (conv => whnf))) | (refine CallX.mk _ _ (by first | exact take1_pc x hk | exact at1_pc x _ _ _) ?_; conv => whnf) | (refine CallG.mk _ _ (by first | exact take1_pc x hk | exact at1_pc x _ _ _) ?_; conv => whnf) | (refine Ask.mk (by first | omega | (unfold roomOK; simp [cutRows]; done) | (unfold roomOK; simp [cutRows]; omega)) ?_; conv => whnf) | (refine AppG.mk (by first | omega | (unfold roomOK; simp [cutRows]; done) | (unfold roomOK; simp [cutRows]; omega)) ?_; conv => whnf) | (refine SliceG.fr ?_; conv => whnf) | (refine BuildG.fr ?_; conv => whnf) | fail)
  · exact absurd h (by show ¬ ((1 : Int) < 1); decide)
  · exact .mk ⟨rfl, rfl⟩
set_option maxRecDepth 100000 in
set_option maxHeartbeats 4000000 in
theorem at_pc (x : Ac) (hk : x.kd = 1) (hx : actErr x = 0) (m : Int) (hm : x.mo ≤ m) (hmm : momB m = true) : PCp 75 [.c (.lst 6 [encAc x]), .c (.int .i64 m)] [] (.tup [.c (.ptr 0 0), .c (.int .i64 0)]) (stOne x) := by
  have hc : actsFault [x] = 0 := by simp [actsFault, actsErr, hx, badPrev]
  refine fn_sound (mt := mts) tab_fits tab_mixed Tryz.func75 (by rfl) (by kernel_rfl) (by kernel_rfl) Tryz.results75 (Nat.le_of_ble_eq_true (by kernel_rfl)) ?_
  conv => whnf
  repeat' (first | ((first | refine Split.mk (fun h => ?_) (fun h => ?_) | refine CondG.mk (fun h => ?_) (fun h => ?_)) <;> (try simp only [decide_eq_true_eq, decide_eq_false_iff_not, Bool.not_eq_true', Bool.not_eq_false', beq_iff_eq, beq_eq_false_iff_ne] at h) <;> (first | (exfalso; first | omega | exact h trivial) | (conv => whnf))) | (refine CallX.mk _ _ (by first | exact checkActs_pc [x] | exact bMoment_pc _) ?_; conv => whnf) | (refine CallG.mk _ _ (by first | exact checkActs_pc [x] | exact bMoment_pc _) ?_; conv => whnf) | (refine Ask.mk (by first | omega | (unfold roomOK; simp [cutRows]; done) | (unfold roomOK; simp [cutRows]; omega)) ?_; conv => whnf) | (refine AppG.mk (by first | omega | (unfold roomOK; simp [cutRows]; done) | (unfold roomOK; simp [cutRows]; omega)) ?_; conv => whnf) | (refine SliceG.fr ?_; conv => whnf) | (refine BuildG.fr ?_; conv => whnf) | fail)
  · rw [hc] at h; cases h
  · rw [hmm] at h; cases h
  refine .un 1 ?_
  conv => whnf
  repeat' (first | ((first | refine Split.mk (fun h => ?_) (fun h => ?_) | refine CondG.mk (fun h => ?_) (fun h => ?_)) <;> (try simp only [decide_eq_true_eq, decide_eq_false_iff_not, Bool.not_eq_true', Bool.not_eq_false', beq_iff_eq, beq_eq_false_iff_ne] at h) <;> (first | (exfalso; first | omega | exact h trivial) | (conv => whnf))) | (refine Ask.mk (by first | omega | (unfold roomOK; simp [cutRows]; done) | (unfold roomOK; simp [cutRows]; omega)) ?_; conv => whnf) | (refine AppG.mk (by first | omega | (unfold roomOK; simp [cutRows]; done) | (unfold roomOK; simp [cutRows]; omega)) ?_; conv => whnf) | (refine SliceG.fr ?_; conv => whnf) | (refine BuildG.fr ?_; conv => whnf) | fail)
  · refine .mk (encAc x) ⟨by show (0 : Int) ≤ 0; decide, rfl⟩ ?_
    conv => whnf
    repeat' (first | ((first | refine Split.mk (fun h => ?_) (fun h => ?_) | refine CondG.mk (fun h => ?_) (fun h => ?_)) <;> (try simp only [decide_eq_true_eq, decide_eq_false_iff_not, Bool.not_eq_true', Bool.not_eq_false', beq_iff_eq, beq_eq_false_iff_ne] at h) <;> (first | (exfalso; first | omega | exact h trivial) | (conv => whnf))) | (refine CallX.mk _ _ (by first | exact follow1_pc x hk) ?_; conv => whnf) | (refine CallG.mk _ _ (by first | exact follow1_pc x hk) ?_; conv => whnf) | (refine Ask.mk (by first | omega | (unfold roomOK; simp [cutRows]; done) | (unfold roomOK; simp [cutRows]; omega)) ?_; conv => whnf) | (refine AppG.mk (by first | omega | (unfold roomOK; simp [cutRows]; done) | (unfold roomOK; simp [cutRows]; omega)) ?_; conv => whnf) | (refine SliceG.fr ?_; conv => whnf) | (refine BuildG.fr ?_; conv => whnf) | fail)
    exact .mk ⟨rfl, rfl⟩
  · exact absurd (by simp) h

end Go.Proofs.YtjflmenfinohcaaGreat

/- A list of one drum is sorted. -/
namespace Go.Proofs.YtjflmenfinohcaaGreat
set_option linter.unusedVariables false
set_option linter.unusedSimpArgs false
open Abs

set_option maxRecDepth 100000 in
set_option maxHeartbeats 4000000 in
theorem len64_pc : PCp 123 [.c (.int .u64 1)] [] (.c (.int .i64 1)) [] := by
  refine fn_sound (mt := mts) tab_fits tab_mixed Tryz.func123 (by rfl) (by kernel_rfl) (by kernel_rfl) Tryz.results123 (Nat.le_of_ble_eq_true (by kernel_rfl)) ?_
  conv => whnf
  repeat' (first | ((first | refine Split.mk (fun h => ?_) (fun h => ?_) | refine CondG.mk (fun h => ?_) (fun h => ?_)) <;> (try simp only [decide_eq_true_eq, decide_eq_false_iff_not, Bool.not_eq_true', Bool.not_eq_false', beq_iff_eq, beq_eq_false_iff_ne] at h) <;> (first | (exfalso; first | omega | exact h trivial) | (conv => whnf))) | (refine Ask.mk (by first | omega | (unfold roomOK; simp [cutRows]; done) | (unfold roomOK; simp [cutRows]; omega)) ?_; conv => whnf) | (refine AppG.mk (by first | omega | (unfold roomOK; simp [cutRows]; done) | (unfold roomOK; simp [cutRows]; omega)) ?_; conv => whnf) | (refine SliceG.fr ?_; conv => whnf) | (refine BuildG.fr ?_; conv => whnf) | fail)
  all_goals first | (exfalso; revert h; decide) | skip
  refine .mk (by decide +kernel) ?_
  conv => whnf
  exact fini (by decide +kernel)
set_option maxRecDepth 100000 in
set_option maxHeartbeats 4000000 in
theorem len_pc : PCp 86 [.c (.int .u64 1)] [] (.c (.int .i64 1)) [] := by
  refine fn_sound (mt := mts) tab_fits tab_mixed Tryz.func86 (by rfl) (by kernel_rfl) (by kernel_rfl) Tryz.results86 (Nat.le_of_ble_eq_true (by kernel_rfl)) ?_
  conv => whnf
  repeat' (first | ((first | refine Split.mk (fun h => ?_) (fun h => ?_) | refine CondG.mk (fun h => ?_) (fun h => ?_)) <;> (try simp only [decide_eq_true_eq, decide_eq_false_iff_not, Bool.not_eq_true', Bool.not_eq_false', beq_iff_eq, beq_eq_false_iff_ne] at h) <;> (first | (exfalso; first | omega | exact h trivial) | (conv => whnf))) | (refine CallX.mk _ _ (by first | exact len64_pc) ?_; conv => whnf) | (refine CallG.mk _ _ (by first | exact len64_pc) ?_; conv => whnf) | (refine Ask.mk (by first | omega | (unfold roomOK; simp [cutRows]; done) | (unfold roomOK; simp [cutRows]; omega)) ?_; conv => whnf) | (refine AppG.mk (by first | omega | (unfold roomOK; simp [cutRows]; done) | (unfold roomOK; simp [cutRows]; omega)) ?_; conv => whnf) | (refine SliceG.fr ?_; conv => whnf) | (refine BuildG.fr ?_; conv => whnf) | fail)
  exact fini rfl
set_option maxRecDepth 100000 in
set_option maxHeartbeats 4000000 in
theorem ins1_pc (r : List V) (g : Nat) : PCp 147 [.c (.row 0), .c (.int .i64 0), .c (.int .i64 1), .c (.fn g [])] [.row 150 3 [r]] (.tup []) [.row 150 3 [r]] := by
  refine fn_sound (mt := mts) tab_fits tab_mixed Tryz.func147 (by rfl) (by kernel_rfl) (by kernel_rfl) Tryz.results147 (Nat.le_of_ble_eq_true (by kernel_rfl)) ?_
  conv => whnf
  refine .un 1 ?_
  conv => whnf
  repeat' (first | ((first | refine Split.mk (fun h => ?_) (fun h => ?_) | refine CondG.mk (fun h => ?_) (fun h => ?_)) <;> (try simp only [decide_eq_true_eq, decide_eq_false_iff_not, Bool.not_eq_true', Bool.not_eq_false', beq_iff_eq, beq_eq_false_iff_ne] at h) <;> (first | (exfalso; first | omega | exact h trivial) | (conv => whnf))) | (refine Ask.mk (by first | omega | (unfold roomOK; simp [cutRows]; done) | (unfold roomOK; simp [cutRows]; omega)) ?_; conv => whnf) | (refine AppG.mk (by first | omega | (unfold roomOK; simp [cutRows]; done) | (unfold roomOK; simp [cutRows]; omega)) ?_; conv => whnf) | (refine SliceG.fr ?_; conv => whnf) | (refine BuildG.fr ?_; conv => whnf) | fail)
  all_goals first | exact .mk ⟨rfl, rfl⟩ | (exfalso; revert h; decide)
set_option maxRecDepth 100000 in
set_option maxHeartbeats 4000000 in
theorem pdq1_pc (r : List V) (g : Nat) : PCp 111 [.c (.row 0), .c (.int .i64 0), .c (.int .i64 1), .c (.int .i64 1), .c (.fn g [])] [.row 150 3 [r]] (.tup []) [.row 150 3 [r]] := by
  refine fn_sound (mt := mts) tab_fits tab_mixed Tryz.func111 (by rfl) (by kernel_rfl) (by kernel_rfl) Tryz.results111 (Nat.le_of_ble_eq_true (by kernel_rfl)) ?_
  conv => whnf
  refine .un 1 ?_
  conv => whnf
  repeat' (first | ((first | refine Split.mk (fun h => ?_) (fun h => ?_) | refine CondG.mk (fun h => ?_) (fun h => ?_)) <;> (try simp only [decide_eq_true_eq, decide_eq_false_iff_not, Bool.not_eq_true', Bool.not_eq_false', beq_iff_eq, beq_eq_false_iff_ne] at h) <;> (first | (exfalso; first | omega | exact h trivial) | (conv => whnf))) | (refine CallX.mk _ _ (by first | exact ins1_pc _ _) ?_; conv => whnf) | (refine CallG.mk _ _ (by first | exact ins1_pc _ _) ?_; conv => whnf) | (refine Ask.mk (by first | omega | (unfold roomOK; simp [cutRows]; done) | (unfold roomOK; simp [cutRows]; omega)) ?_; conv => whnf) | (refine AppG.mk (by first | omega | (unfold roomOK; simp [cutRows]; done) | (unfold roomOK; simp [cutRows]; omega)) ?_; conv => whnf) | (refine SliceG.fr ?_; conv => whnf) | (refine BuildG.fr ?_; conv => whnf) | fail)
  all_goals first | exact .mk ⟨rfl, rfl⟩ | (exfalso; revert h; decide) | (exfalso; rename_i h2; revert h2; decide)
set_option maxRecDepth 100000 in
set_option maxHeartbeats 4000000 in
theorem sort1_pc (r : List V) (g : Nat) : PCp 76 [.c (.row 0), .c (.fn g [])] [.row 150 3 [r]] (.tup []) [.row 150 3 [r]] := by
  refine fn_sound (mt := mts) tab_fits tab_mixed Tryz.func76 (by rfl) (by kernel_rfl) (by kernel_rfl) Tryz.results76 (Nat.le_of_ble_eq_true (by kernel_rfl)) ?_
  conv => whnf
  repeat' (first | ((first | refine Split.mk (fun h => ?_) (fun h => ?_) | refine CondG.mk (fun h => ?_) (fun h => ?_)) <;> (try simp only [decide_eq_true_eq, decide_eq_false_iff_not, Bool.not_eq_true', Bool.not_eq_false', beq_iff_eq, beq_eq_false_iff_ne] at h) <;> (first | (exfalso; first | omega | exact h trivial) | (conv => whnf))) | (refine CallX.mk _ _ (by first | exact len_pc | exact pdq1_pc _ _) ?_; conv => whnf) | (refine CallG.mk _ _ (by first | exact len_pc | exact pdq1_pc _ _) ?_; conv => whnf) | (refine Ask.mk (by first | omega | (unfold roomOK; simp [cutRows]; done) | (unfold roomOK; simp [cutRows]; omega)) ?_; conv => whnf) | (refine AppG.mk (by first | omega | (unfold roomOK; simp [cutRows]; done) | (unfold roomOK; simp [cutRows]; omega)) ?_; conv => whnf) | (refine SliceG.fr ?_; conv => whnf) | (refine BuildG.fr ?_; conv => whnf) | fail)
  exact .mk ⟨rfl, rfl⟩
set_option maxRecDepth 100000 in
set_option maxHeartbeats 4000000 in
theorem stock_pc (x : Ac) (hk : x.kd = 1) (hx : actErr x = 0) (m : Int) (hm : x.mo ≤ m) (hmm : momB m = true) : PCp 37 [.c (.lst 6 [encAc x]), .c (.int .i64 m)] [] (.tup [.c (.row 0), .c (.int .i64 0)]) [.row 150 3 [[.str x.drum, .str x.ty, .int .i64 x.long]]] := by
  refine fn_sound (mt := mts) tab_fits tab_mixed Tryz.func37 (by rfl) (by kernel_rfl) (by kernel_rfl) Tryz.results37 (Nat.le_of_ble_eq_true (by kernel_rfl)) ?_
  conv => whnf
  repeat' (first | ((first | refine Split.mk (fun h => ?_) (fun h => ?_) | refine CondG.mk (fun h => ?_) (fun h => ?_)) <;> (try simp only [decide_eq_true_eq, decide_eq_false_iff_not, Bool.not_eq_true', Bool.not_eq_false', beq_iff_eq, beq_eq_false_iff_ne] at h) <;> (first | (exfalso; first | omega | exact h trivial) | (conv => whnf))) | (refine CallX.mk _ _ (by first | exact at_pc x hk hx m hm hmm) ?_; conv => whnf) | (refine CallG.mk _ _ (by first | exact at_pc x hk hx m hm hmm) ?_; conv => whnf) | (refine Ask.mk (by first | omega | (unfold roomOK; simp [cutRows]; done) | (unfold roomOK; simp [cutRows]; omega)) ?_; conv => whnf) | (refine AppG.mk (by first | omega | (unfold roomOK; simp [cutRows]; done) | (unfold roomOK; simp [cutRows]; omega)) ?_; conv => whnf) | (refine SliceG.fr ?_; conv => whnf) | (refine BuildG.fr ?_; conv => whnf) | fail)
  · cases h
  refine .un 2 ?_
  conv => whnf
  refine .mk rfl ?_
  conv => whnf
  refine .mk (α := Nat × S × S) (fun e => e) [(0, .c (.str x.drum), .agg [.str x.ty, .int .i64 x.long])] rfl (by intro h; cases h) ?_
  intro e he
  simp only [List.mem_singleton] at he
  subst he
  conv => whnf
  repeat' (first | ((first | refine Split.mk (fun h => ?_) (fun h => ?_) | refine CondG.mk (fun h => ?_) (fun h => ?_)) <;> (try simp only [decide_eq_true_eq, decide_eq_false_iff_not, Bool.not_eq_true', Bool.not_eq_false', beq_iff_eq, beq_eq_false_iff_ne] at h) <;> (first | (exfalso; first | omega | exact h trivial) | (conv => whnf))) | (refine Ask.mk (by first | omega | (unfold roomOK; simp [cutRows]; done) | (unfold roomOK; simp [cutRows]; omega)) ?_; conv => whnf) | (refine AppG.mk (by first | omega | (unfold roomOK; simp [cutRows]; done) | (unfold roomOK; simp [cutRows]; omega)) ?_; conv => whnf) | (refine SliceG.fr ?_; conv => whnf) | (refine BuildG.fr ?_; conv => whnf) | fail)
  refine .mk _ _ rfl ?_
  conv => whnf
  repeat' (first | ((first | refine Split.mk (fun h => ?_) (fun h => ?_) | refine CondG.mk (fun h => ?_) (fun h => ?_)) <;> (try simp only [decide_eq_true_eq, decide_eq_false_iff_not, Bool.not_eq_true', Bool.not_eq_false', beq_iff_eq, beq_eq_false_iff_ne] at h) <;> (first | (exfalso; first | omega | exact h trivial) | (conv => whnf))) | (refine Ask.mk (by first | omega | (unfold roomOK; simp [cutRows]; done) | (unfold roomOK; simp [cutRows]; omega)) ?_; conv => whnf) | (refine AppG.mk (by first | omega | (unfold roomOK; simp [cutRows]; done) | (unfold roomOK; simp [cutRows]; omega)) ?_; conv => whnf) | (refine SliceG.fr ?_; conv => whnf) | (refine BuildG.fr ?_; conv => whnf) | fail)
  refine .mk (α := Nat × S × S) (fun e => e) [] rfl (fun _ => ?_) (by intro e he; cases he)
  conv => whnf
  repeat' (first | ((first | refine Split.mk (fun h => ?_) (fun h => ?_) | refine CondG.mk (fun h => ?_) (fun h => ?_)) <;> (try simp only [decide_eq_true_eq, decide_eq_false_iff_not, Bool.not_eq_true', Bool.not_eq_false', beq_iff_eq, beq_eq_false_iff_ne] at h) <;> (first | (exfalso; first | omega | exact h trivial) | (conv => whnf))) | (refine CallX.mk _ _ (by first | exact sort1_pc _ _) ?_; conv => whnf) | (refine CallG.mk _ _ (by first | exact sort1_pc _ _) ?_; conv => whnf) | (refine Ask.mk (by first | omega | (unfold roomOK; simp [cutRows]; done) | (unfold roomOK; simp [cutRows]; omega)) ?_; conv => whnf) | (refine AppG.mk (by first | omega | (unfold roomOK; simp [cutRows]; done) | (unfold roomOK; simp [cutRows]; omega)) ?_; conv => whnf) | (refine SliceG.fr ?_; conv => whnf) | (refine BuildG.fr ?_; conv => whnf) | fail)
  exact .mk ⟨rfl, rfl⟩
end Go.Proofs.YtjflmenfinohcaaGreat

/- The law PlansWeighed, by the abstract walk. -/
namespace Go.Proofs.YtjflmenfinohcaaGreat
set_option linter.unusedVariables false
set_option linter.unusedSimpArgs false
open Abs

end Go.Proofs.YtjflmenfinohcaaGreat

/- Lists of acts are sorted. -/
namespace Go.Proofs.YtjflmenfinohcaaGreat
set_option linter.unusedVariables false
set_option linter.unusedSimpArgs false
open Abs

/-! the length of a small number -/
deriving instance DecidableEq for Ac
end Go.Proofs.YtjflmenfinohcaaGreat

/- Acts are made. -/
namespace Go.Proofs.YtjflmenfinohcaaGreat
set_option linter.unusedVariables false
set_option linter.unusedSimpArgs false
open Abs

end Go.Proofs.YtjflmenfinohcaaGreat

/- A store, as the program follows it. -/
namespace Go.Proofs.YtjflmenfinohcaaGreat
set_option linter.unusedVariables false
set_option linter.unusedSimpArgs false
open Abs

structure Sto where
  d : SM ByteArray (ByteArray × Int)
  k : SM ByteArray ByteArray
structure Sto.ok (s : Sto) : Prop where
  d : s.d.ok
  k : s.k.ok
end Go.Proofs.YtjflmenfinohcaaGreat

/- What was used, as the program counts it. -/
namespace Go.Proofs.YtjflmenfinohcaaGreat
set_option linter.unusedVariables false
set_option linter.unusedSimpArgs false
open Abs

end Go.Proofs.YtjflmenfinohcaaGreat

/- The least stock, as the program finds it. -/
namespace Go.Proofs.YtjflmenfinohcaaGreat
set_option linter.unusedVariables false
set_option linter.unusedSimpArgs false
open Abs

end Go.Proofs.YtjflmenfinohcaaGreat

/- The least stock, as the program finds it: all acts. -/
namespace Go.Proofs.YtjflmenfinohcaaGreat
set_option linter.unusedVariables false
set_option linter.unusedSimpArgs false
open Abs

end Go.Proofs.YtjflmenfinohcaaGreat

/- The document's store. -/
namespace Go.Proofs.YtjflmenfinohcaaGreat
set_option linter.unusedVariables false
set_option linter.unusedSimpArgs false
open Abs

structure Rto where
  l : SM ByteArray Int
  k : SM ByteArray ByteArray
structure Rto.ok (s : Rto) : Prop where
  l : s.l.ok
  k : s.k.ok
end Go.Proofs.YtjflmenfinohcaaGreat

/- What was used, by the document. -/
namespace Go.Proofs.YtjflmenfinohcaaGreat
set_option linter.unusedVariables false
set_option linter.unusedSimpArgs false
open Abs

end Go.Proofs.YtjflmenfinohcaaGreat

/- Stock at a moment, by the document. -/
namespace Go.Proofs.YtjflmenfinohcaaGreat
set_option linter.unusedVariables false
set_option linter.unusedSimpArgs false
open Abs

end Go.Proofs.YtjflmenfinohcaaGreat

/- Stock at a moment, by the document: the list. -/
namespace Go.Proofs.YtjflmenfinohcaaGreat
set_option linter.unusedVariables false
set_option linter.unusedSimpArgs false
open Abs

end Go.Proofs.YtjflmenfinohcaaGreat

/- Errors of acts and windows, by the document. -/
namespace Go.Proofs.YtjflmenfinohcaaGreat
set_option linter.unusedVariables false
set_option linter.unusedSimpArgs false
open Abs
end Go.Proofs.YtjflmenfinohcaaGreat

/- Comparisons, one behind another; sorting by insertion keeps the order of equal ones. -/
namespace Go.Proofs.YtjflmenfinohcaaGreat
set_option linter.unusedVariables false
set_option linter.unusedSimpArgs false
open Abs

/-- a comparison -/
structure Cmp {α : Type} (c : α → α → Int) : Prop where
  anti : ∀ a b, c b a = - c a b
  trans : ∀ a b d, c a b ≤ 0 → c b d ≤ 0 → c a d ≤ 0
theorem Cmp.lt {α : Type} {c : α → α → Int} (h : Cmp c) {a b d : α} (h1 : c a b ≤ 0) (h2 : c b d ≤ 0) (h3 : c a b < 0 ∨ c b d < 0) : c a d < 0 := by
  have h4 := h.trans a b d h1 h2
  rcases Int.lt_or_le (c a d) 0 with h5 | h5
  · exact h5
  · have a1 := h.anti a d
    have a2 := h.anti a b
    have a3 := h.anti b d
    rcases h3 with h3 | h3
    · have := h.trans b d a h2 (by omega); omega
    · have := h.trans d a b (by omega) h1; omega
theorem Cmp.swo {α : Type} {c : α → α → Int} (h : Cmp c) : SWOc c where
  irrefl x := by have := h.anti x x; omega
  trans x y z h1 h2 := h.lt (by omega) (by omega) (.inl h1)
  ntrans x y z h1 h2 := by
    have a1 := h.anti x y
    have a2 := h.anti y z
    have a3 := h.anti x z
    have := h.trans z y x (by omega) (by omega)
    omega
end Go.Proofs.YtjflmenfinohcaaGreat

/- Strings sorted (a few), and what numbers look like: Itoa by the kit's contract. -/
namespace Go.Proofs.YtjflmenfinohcaaGreat
set_option linter.unusedVariables false
set_option linter.unusedSimpArgs false
open Abs

/-! what a function of the library gives that makes new memory of its own -/
theorem Nx.grown {F : Nat → Prop} {φ : Nat → Option Value} {w : World} {N : Nat → Prop} {h : Nat → Option Ob} (k : Nat) (os : Array Obj) : Nx F φ w h N [] F φ (Sort.grow (w.drewN k) os) where
  hF _ h := h
  hφ _ _ h := h
  nφ _ _ h := .inl h
  os := rfl
  tape := rfl
  output := rfl
  drawn _ := Nat.le_add_right _ _
  size := by simp [Sort.grow, World.drewN]
  keep b hb hne := (hne (by simp only [Sort.grow, World.drewN]; rw [Array.getElem?_append_left hb])).elim
  nF b h := .inl h
  objs l o h := by simp [chGet] at h
  own l o b h := by simp [chGet] at h
  inj l l' o o' b h := by simp [chGet] at h
end Go.Proofs.YtjflmenfinohcaaGreat

/- What each element affects by itself: the plain part, and sorts. -/
namespace Go.Proofs.YtjflmenfinohcaaGreat
set_option linter.unusedVariables false
set_option linter.unusedSimpArgs false
open Abs

/-! elements and customers, one behind another -/
/-! how they are ordered -/
end Go.Proofs.YtjflmenfinohcaaGreat

/- What each element affects by itself: walked. -/
namespace Go.Proofs.YtjflmenfinohcaaGreat
set_option linter.unusedVariables false
set_option linter.unusedSimpArgs false
open Abs

/-! the program's -/
end Go.Proofs.YtjflmenfinohcaaGreat

/- What each element affects by itself, by the document; the law. -/
namespace Go.Proofs.YtjflmenfinohcaaGreat
set_option linter.unusedVariables false
set_option linter.unusedSimpArgs false
open Abs

end Go.Proofs.YtjflmenfinohcaaGreat

/- Bits of numbers, as the walk gives them. -/
namespace Go.Proofs.YtjflmenfinohcaaGreat
set_option linter.unusedVariables false
set_option linter.unusedSimpArgs false
open Abs

abbrev encU (n : Nat) : List V := [.int .u64 (n : Int)]
theorem u64N {n : Nat} (h : n < 18446744073709551616) : IntKind.u64.wrap (n : Int) = (n : Int) := IntWalk.u64_in _ ⟨by omega, by omega⟩
theorem ofInt_nat (n : Nat) : BitVec.ofInt 64 (n : Int) = BitVec.ofNat 64 n := by
  apply BitVec.eq_of_toNat_eq
  rw [BitVec.toNat_ofInt, BitVec.toNat_ofNat]
  omega
theorem bits_and {a b : Nat} (ha : a < 18446744073709551616) (hb : b < 18446744073709551616) : bitsV .and .u64 (a : Int) (b : Int) = ((a &&& b : Nat) : Int) := by
  have h1 : (BitVec.ofInt 64 (a : Int) &&& BitVec.ofInt 64 (b : Int)).toNat = a &&& b := by
    rw [ofInt_nat, ofInt_nat, BitVec.toNat_and, BitVec.toNat_ofNat, BitVec.toNat_ofNat, Nat.mod_eq_of_lt (by simpa using ha), Nat.mod_eq_of_lt (by simpa using hb)]
  have h2 : a &&& b ≤ a := Nat.and_le_left
  show IntKind.u64.wrap (((BitVec.ofInt 64 (a : Int) &&& BitVec.ofInt 64 (b : Int)).toNat : Nat) : Int) = _
  rw [h1, u64N (by omega)]
theorem bits_or {a b : Nat} (ha : a < 18446744073709551616) (hb : b < 18446744073709551616) : bitsV .or .u64 (a : Int) (b : Int) = ((a ||| b : Nat) : Int) := by
  have h1 : (BitVec.ofInt 64 (a : Int) ||| BitVec.ofInt 64 (b : Int)).toNat = a ||| b := by
    rw [ofInt_nat, ofInt_nat, BitVec.toNat_or, BitVec.toNat_ofNat, BitVec.toNat_ofNat, Nat.mod_eq_of_lt (by simpa using ha), Nat.mod_eq_of_lt (by simpa using hb)]
  have h2 : a ||| b < 18446744073709551616 := by
    have := Nat.or_lt_two_pow (n := 64) (x := a) (y := b) (by simpa using ha) (by simpa using hb)
    simpa using this
  show IntKind.u64.wrap (((BitVec.ofInt 64 (a : Int) ||| BitVec.ofInt 64 (b : Int)).toNat : Nat) : Int) = _
  rw [h1, u64N h2]
theorem bits_xor {a b : Nat} (ha : a < 18446744073709551616) (hb : b < 18446744073709551616) : bitsV .xor .u64 (a : Int) (b : Int) = ((a ^^^ b : Nat) : Int) := by
  have h1 : (BitVec.ofInt 64 (a : Int) ^^^ BitVec.ofInt 64 (b : Int)).toNat = a ^^^ b := by
    rw [ofInt_nat, ofInt_nat, BitVec.toNat_xor, BitVec.toNat_ofNat, BitVec.toNat_ofNat, Nat.mod_eq_of_lt (by simpa using ha), Nat.mod_eq_of_lt (by simpa using hb)]
  have h2 : a ^^^ b < 18446744073709551616 := by
    have := Nat.xor_lt_two_pow (n := 64) (x := a) (y := b) (by simpa using ha) (by simpa using hb)
    simpa using this
  show IntKind.u64.wrap (((BitVec.ofInt 64 (a : Int) ^^^ BitVec.ofInt 64 (b : Int)).toNat : Nat) : Int) = _
  rw [h1, u64N h2]
theorem shN (x d : Nat) (si : Int) (h : (2 : Int) ^ (min si.toNat IntKind.u64.bits) = (d : Int)) : shV .shr .u64 (x : Int) si = ((x / d : Nat) : Int) := by
  show (x : Int).fdiv _ = _
  rw [h, Int.ofNat_fdiv]
theorem pow14 {k : Nat} (h : k ≤ 14) : 2 ^ k ≤ 16384 := Nat.pow_le_pow_right (n := 2) (by decide) h
theorem shl1 {k : Nat} (h : k ≤ 14) : shV .shl .u64 1 (k : Int) = ((2 ^ k : Nat) : Int) := by
  have := pow14 h
  show IntKind.u64.wrap (1 * 2 ^ (min (k : Int).toNat IntKind.u64.bits)) = _
  rw [Int.one_mul, Int.toNat_natCast, Nat.min_eq_left (by show k ≤ 64; omega)]
  have h2 : ((2 : Int) ^ k) = ((2 ^ k : Nat) : Int) := by simp
  rw [h2, u64N (by omega)]
theorem shbit {m j : Nat} (hm : m < 16384) (hj : j ≤ 14) : (bitsV .and .u64 (shV .shr .u64 (m : Int) (j : Int)) 1 = 1) ↔ m.testBit j = true := by
  have h1 : m / 2 ^ j ≤ m := Nat.div_le_self ..
  have h2 := bits_and (a := m / 2 ^ j) (b := 1) (by omega) (by decide)
  rw [shN m (2 ^ j) j (by rw [Int.toNat_natCast, Nat.min_eq_left (by show j ≤ 64; omega)]; simp)]
  refine ((by rw [← h2]; rfl : (bitsV .and .u64 ((m / 2 ^ j : Nat) : Int) 1 = 1) ↔ ((((m / 2 ^ j) &&& 1 : Nat) : Int) = 1))).trans ?_
  rw [Nat.and_one_is_mod, Nat.testBit_eq_decide_div_mod_eq, decide_eq_true_eq]
  omega
end Go.Proofs.YtjflmenfinohcaaGreat

/- Sets as bits: sizes, orders, lists. -/
namespace Go.Proofs.YtjflmenfinohcaaGreat
set_option linter.unusedVariables false
set_option linter.unusedSimpArgs false
open Abs

/-! how many -/
def popF : Nat → Nat → Nat
  | 0, _ => 0
  | n + 1, m => m % 2 + popF n (m / 2)
def popc (m : Nat) : Nat := popF 14 m
/-- for all small numbers, by trying -/
def allB (p : Nat → Bool) : Bool := (List.range 128).all fun a => (List.range 128).all fun b => p (a * 128 + b)
theorem allB_at {p : Nat → Bool} (h : allB p = true) {m : Nat} (hm : m < 16384) : p m = true := by
  have h1 := List.all_eq_true.1 h (m / 128) (by rw [List.mem_range]; omega)
  have h2 := List.all_eq_true.1 h1 (m % 128) (by rw [List.mem_range]; omega)
  have : m / 128 * 128 + m % 128 = m := by omega
  rwa [this] at h2
theorem pop_less {m : Nat} (h : m < 16384) (h0 : m ≠ 0) : popc (m &&& (m - 1)) + 1 = popc m := by
  have := allB_at (p := fun m => decide (m = 0) || decide (popc (m &&& (m - 1)) + 1 = popc m)) (by decide +kernel) h
  simpa [h0] using this
/-- the lowest bit -/
def lowF : Nat → Nat → Nat
  | 0, _ => 0
  | n + 1, m => if m % 2 = 1 then 0 else lowF n (m / 2) + 1
def low (m : Nat) : Nat := lowF 14 m
theorem low_bit {d : Nat} (h : d < 16384) (h0 : d ≠ 0) : d &&& (18446744073709551616 - d) = 2 ^ low d := by
  have := allB_at (p := fun d => decide (d = 0) || decide (d &&& (18446744073709551616 - d) = 2 ^ low d)) (by decide +kernel) h
  simpa [h0] using this
theorem lowF_spec : ∀ (n m : Nat), m < 2 ^ n → m ≠ 0 → m.testBit (lowF n m) = true ∧ ∀ j, j < lowF n m → m.testBit j = false
  | 0, m, h, h0 => by simp at h; omega
  | n + 1, m, h, h0 => by
    rw [lowF]
    by_cases q : m % 2 = 1
    · rw [if_pos q]
      refine ⟨by rw [Nat.testBit_zero]; simpa using q, fun j hj => by omega⟩
    · rw [if_neg q]
      obtain ⟨h1, h2⟩ := lowF_spec n (m / 2) (by rw [Nat.pow_succ] at h; omega) (by omega)
      refine ⟨by rw [Nat.testBit_succ]; exact h1, fun j hj => ?_⟩
      cases j with
      | zero => rw [Nat.testBit_zero]; simpa using q
      | succ j => rw [Nat.testBit_succ]; exact h2 j (by omega)
theorem low_spec {m : Nat} (h : m < 16384) (h0 : m ≠ 0) : m.testBit (low m) = true ∧ ∀ j, j < low m → m.testBit j = false := lowF_spec 14 m (by simpa using h) h0
/-- which of two sets has the first index that is not in both -/
def befB (a b : Nat) : Bool := a.testBit (low (a ^^^ b))
def LowLt (a b : Nat) : Prop := ∃ i, a.testBit i = true ∧ b.testBit i = false ∧ ∀ j, j < i → a.testBit j = b.testBit j
theorem LowLt.trans {a b c : Nat} (h1 : LowLt a b) (h2 : LowLt b c) : LowLt a c := by
  obtain ⟨i, a1, a2, a3⟩ := h1
  obtain ⟨k, b1, b2, b3⟩ := h2
  rcases Nat.lt_trichotomy i k with h | h | h
  · exact ⟨i, a1, by rw [← b3 i h]; exact a2, fun j hj => by rw [a3 j hj, b3 j (by omega)]⟩
  · subst h; rw [a2] at b1; cases b1
  · exact ⟨k, by rw [a3 k h]; exact b1, b2, fun j hj => by rw [a3 j (by omega), b3 j hj]⟩
theorem LowLt.asym {a b : Nat} (h1 : LowLt a b) (h2 : LowLt b a) : False := by
  obtain ⟨i, a1, a2, a3⟩ := h1
  obtain ⟨k, b1, b2, b3⟩ := h2
  rcases Nat.lt_trichotomy i k with h | h | h
  · rw [b3 i h, a1] at a2; cases a2
  · subst h; rw [a1] at b2; cases b2
  · rw [a3 k h, b1] at b2; cases b2
theorem befB_iff {a b : Nat} (ha : a < 16384) (hb : b < 16384) (hne : a ≠ b) : (befB a b = true ↔ LowLt a b) ∧ (befB a b = false ↔ LowLt b a) := by
  have hx : a ^^^ b < 16384 := by
    have := Nat.xor_lt_two_pow (n := 14) (x := a) (y := b) (by simpa using ha) (by simpa using hb)
    simpa using this
  have h0 : a ^^^ b ≠ 0 := fun e => hne (by
    apply Nat.eq_of_testBit_eq
    intro j
    have h := congrArg (fun m : Nat => m.testBit j) e
    simp only [Nat.testBit_xor, Nat.zero_testBit] at h
    cases ha : a.testBit j <;> cases hb : b.testBit j <;> simp_all)
  obtain ⟨h1, h2⟩ := low_spec hx h0
  unfold befB
  generalize low (a ^^^ b) = i at *
  rw [Nat.testBit_xor] at h1
  have h3 : ∀ j, j < i → a.testBit j = b.testBit j := by
    intro j hj
    have := h2 j hj
    rw [Nat.testBit_xor] at this
    simpa using this
  cases hA : a.testBit i with
  | true =>
    have hB : b.testBit i = false := by rw [hA] at h1; simpa using h1
    have hl : LowLt a b := ⟨i, hA, hB, h3⟩
    exact ⟨⟨fun _ => hl, fun _ => rfl⟩, ⟨fun h => (by cases h), fun h => (hl.asym h).elim⟩⟩
  | false =>
    have hB : b.testBit i = true := by rw [hA] at h1; simpa using h1
    have hl : LowLt b a := ⟨i, hB, hA, fun j hj => (h3 j hj).symm⟩
    exact ⟨⟨fun h => (by cases h), fun h => (hl.asym h).elim⟩, ⟨fun _ => hl, fun _ => rfl⟩⟩
end Go.Proofs.YtjflmenfinohcaaGreat

/- Sets as bits: what the program counts and compares. -/
namespace Go.Proofs.YtjflmenfinohcaaGreat
set_option linter.unusedVariables false
set_option linter.unusedSimpArgs false
open Abs

def o1 (x : Nat) : Nat := (x / 2 &&& 6148914691236517205) + (x &&& 6148914691236517205)
def o2 (x : Nat) : Nat := (x / 4 &&& 3689348814741910323) + (x &&& 3689348814741910323)
def o3 (x : Nat) : Nat := (x / 16 + x) &&& 1085102592571150095
def o4 (x : Nat) : Nat := x + x / 256
def o5 (x : Nat) : Nat := x + x / 65536
def o6 (x : Nat) : Nat := x + x / 4294967296
theorem o1_lt (x : Nat) : o1 x ≤ 2 * x := by
  have h1 : x / 2 &&& 6148914691236517205 ≤ x / 2 := Nat.and_le_left
  have h2 : x &&& 6148914691236517205 ≤ x := Nat.and_le_left
  unfold o1; omega
theorem o2_lt (x : Nat) : o2 x ≤ 2 * x := by
  have h1 : x / 4 &&& 3689348814741910323 ≤ x / 4 := Nat.and_le_left
  have h2 : x &&& 3689348814741910323 ≤ x := Nat.and_le_left
  unfold o2; omega
theorem o3_lt (x : Nat) : o3 x ≤ 2 * x := by
  have h1 : (x / 16 + x) &&& 1085102592571150095 ≤ x / 16 + x := Nat.and_le_left
  unfold o3; omega
theorem i1 (x : Nat) (h : x < 1099511627776) : IntKind.u64.wrap (bitsV .and .u64 (shV .shr .u64 (x : Int) 1) 6148914691236517205 + bitsV .and .u64 (x : Int) 6148914691236517205) = ((o1 x : Nat) : Int) := by
  have h1 := bits_and (a := x / 2) (b := 6148914691236517205) (by omega) (by decide)
  have h2 := bits_and (a := x) (b := 6148914691236517205) (by omega) (by decide)
  have h3 := o1_lt x
  rw [shN x 2 1 (by decide)]
  exact (congr (congrArg (fun a b : Int => IntKind.u64.wrap (a + b)) h1) h2).trans (u64N (n := o1 x) (by omega))
theorem i2 (x : Nat) (h : x < 1099511627776) : IntKind.u64.wrap (bitsV .and .u64 (shV .shr .u64 (x : Int) 2) 3689348814741910323 + bitsV .and .u64 (x : Int) 3689348814741910323) = ((o2 x : Nat) : Int) := by
  have h1 := bits_and (a := x / 4) (b := 3689348814741910323) (by omega) (by decide)
  have h2 := bits_and (a := x) (b := 3689348814741910323) (by omega) (by decide)
  have h3 := o2_lt x
  rw [shN x 4 2 (by decide)]
  exact (congr (congrArg (fun a b : Int => IntKind.u64.wrap (a + b)) h1) h2).trans (u64N (n := o2 x) (by omega))
theorem i3 (x : Nat) (h : x < 1099511627776) : bitsV .and .u64 (IntKind.u64.wrap (shV .shr .u64 (x : Int) 4 + (x : Int))) 1085102592571150095 = ((o3 x : Nat) : Int) := by
  have h1 := bits_and (a := x / 16 + x) (b := 1085102592571150095) (by omega) (by decide)
  rw [shN x 16 4 (by decide), show IntKind.u64.wrap (((x / 16 : Nat) : Int) + (x : Int)) = ((x / 16 + x : Nat) : Int) from u64N (by omega)]
  exact h1
theorem i4 (x : Nat) (h : x < 1099511627776) : IntKind.u64.wrap ((x : Int) + shV .shr .u64 (x : Int) 8) = ((o4 x : Nat) : Int) := by
  rw [shN x 256 8 (by decide)]
  exact u64N (n := o4 x) (by unfold o4; omega)
theorem i5 (x : Nat) (h : x < 1099511627776) : IntKind.u64.wrap ((x : Int) + shV .shr .u64 (x : Int) 16) = ((o5 x : Nat) : Int) := by
  rw [shN x 65536 16 (by decide)]
  exact u64N (n := o5 x) (by unfold o5; omega)
theorem i6 (x : Nat) (h : x < 1099511627776) : IntKind.u64.wrap ((x : Int) + shV .shr .u64 (x : Int) 32) = ((o6 x : Nat) : Int) := by
  rw [shN x 4294967296 32 (by decide)]
  exact u64N (n := o6 x) (by unfold o6; omega)
theorem i7 (x : Nat) (h : x < 1099511627776) : bitsV .and .i64 (IntKind.i64.wrap (x : Int)) 127 = ((x &&& 127 : Nat) : Int) := by
  have h0 : x &&& 127 ≤ x := Nat.and_le_left
  rw [wrap_in (by omega) (by omega)]
  have h1 : (BitVec.ofInt 64 (x : Int) &&& BitVec.ofInt 64 ((127 : Nat) : Int)).toNat = x &&& 127 := by
    rw [ofInt_nat, ofInt_nat, BitVec.toNat_and, BitVec.toNat_ofNat, BitVec.toNat_ofNat, Nat.mod_eq_of_lt (by omega)]
  show IntKind.i64.wrap (((BitVec.ofInt 64 (x : Int) &&& BitVec.ofInt 64 ((127 : Nat) : Int)).toNat : Nat) : Int) = _
  rw [h1, wrap_in (by omega) (by omega)]
theorem ones_all {m : Nat} (h : m < 16384) : o6 (o5 (o4 (o3 (o2 (o1 m))))) &&& 127 = popc m := by
  have := allB_at (p := fun m => decide (o6 (o5 (o4 (o3 (o2 (o1 m))))) &&& 127 = popc m)) (by decide +kernel) h
  simpa using this
theorem popF_le : ∀ (n m : Nat), popF n m ≤ n
  | 0, _ => Nat.le_refl _
  | n + 1, m => by have := popF_le n (m / 2); rw [popF]; omega
theorem popc_le (m : Nat) : popc m ≤ 14 := popF_le 14 m
theorem low_test {a b : Nat} (ha : a < 16384) (hb : b < 16384) (hne : a ≠ b) :
    (bitsV .and .u64 (a : Int) (bitsV .and .u64 (bitsV .xor .u64 (a : Int) (b : Int)) (IntKind.u64.wrap (0 - (bitsV .xor .u64 (a : Int) (b : Int))))) != 0) = befB a b := by
  have hx : a ^^^ b < 16384 := by
    have := Nat.xor_lt_two_pow (n := 14) (x := a) (y := b) (by simpa using ha) (by simpa using hb)
    simpa using this
  have h0 : a ^^^ b ≠ 0 := fun e => hne (by
    apply Nat.eq_of_testBit_eq
    intro j
    have h := congrArg (fun m : Nat => m.testBit j) e
    simp only [Nat.testBit_xor, Nat.zero_testBit] at h
    cases ha : a.testBit j <;> cases hb : b.testBit j <;> simp_all)
  have hlow := low_bit hx h0
  rw [bits_xor (by omega) (by omega)]
  unfold befB
  generalize a ^^^ b = d at *
  have hn : IntKind.u64.wrap (0 - (d : Int)) = ((18446744073709551616 - d : Nat) : Int) := by
    show (0 - (d : Int)) % 18446744073709551616 = _
    omega
  have hp : 2 ^ low d < 18446744073709551616 := by rw [← hlow]; exact Nat.lt_of_le_of_lt Nat.and_le_left (by omega)
  rw [hn, bits_and (by omega) (by omega), hlow, bits_and (by omega) hp]
  cases hT : a.testBit (low d) with
  | true =>
    have : a &&& 2 ^ low d ≠ 0 := fun e => by
      have h := congrArg (fun m : Nat => m.testBit (low d)) e
      simp [Nat.testBit_and, hT, Nat.testBit_two_pow] at h
    simp; omega
  | false =>
    have : a &&& 2 ^ low d = 0 := by
      apply Nat.eq_of_testBit_eq
      intro j
      rw [Nat.testBit_and, Nat.testBit_two_pow, Nat.zero_testBit]
      by_cases q : low d = j
      · subst q; rw [hT]; rfl
      · simp [q]
    rw [this]; rfl
set_option maxRecDepth 100000 in
set_option maxHeartbeats 4000000 in
theorem ones64_pc (n : Nat) (hn : n < 16384) : PCp 125 [.c (.int .u64 n)] [] (.c (.int .i64 (popc n))) [] := by
  refine fn_sound (mt := mts) tab_fits tab_mixed Tryz.func125 (by rfl) (by kernel_rfl) (by kernel_rfl) Tryz.results125 (Nat.le_of_ble_eq_true (by kernel_rfl)) ?_
  conv => whnf
  repeat' (first | ((first | refine Split.mk (fun h => ?_) (fun h => ?_) | refine CondG.mk (fun h => ?_) (fun h => ?_)) <;> (try simp only [decide_eq_true_eq, decide_eq_false_iff_not, Bool.not_eq_true', Bool.not_eq_false', beq_iff_eq, beq_eq_false_iff_ne, bne_iff_ne, bne_eq_false_iff_eq] at h) <;> (first | (exfalso; first | omega | exact h trivial) | (conv => whnf))) | (refine Ask.mk (by first | omega | (unfold roomOK; simp [cutRows]; done) | (unfold roomOK; simp [cutRows]; omega) | (simp [cutRows]; done) | (simp [cutRows]; omega)) ?_; conv => whnf) | (refine AppG.mk (by first | omega | (unfold roomOK; simp [cutRows]; done) | (unfold roomOK; simp [cutRows]; omega) | (simp [cutRows]; done) | (simp [cutRows]; omega)) ?_; conv => whnf) | (refine SliceG.fr ?_; conv => whnf) | (refine BuildG.fr ?_; conv => whnf) | (refine idx_at _ (by with_reducible rfl) (by first | assumption | omega) ?_; conv => whnf) | ((with_reducible refine row_map (by first | assumption | omega) ?_); conv => whnf) | ((with_reducible refine row_set (by first | assumption | omega | (simp only [List.length_set]; omega) | (simp; omega)) ?_); conv => whnf) | fail)
  all_goals
    have e1 := o1_lt n
    have e2 := o2_lt (o1 n)
    have e3 := o3_lt (o2 (o1 n))
    refine fini ?_
    rw [i1 n (by omega), i2 (o1 n) (by omega), i3 (o2 (o1 n)) (by omega), i4 (o3 (o2 (o1 n))) (by omega), i5 (o4 (o3 (o2 (o1 n)))) (by unfold o4; omega), i6 (o5 (o4 (o3 (o2 (o1 n))))) (by unfold o5 o4; omega), i7 (o6 (o5 (o4 (o3 (o2 (o1 n)))))) (by unfold o6 o5 o4; omega), ones_all hn]
set_option maxRecDepth 100000 in
set_option maxHeartbeats 4000000 in
theorem ones_pc (n : Nat) (hn : n < 16384) : PCp 87 [.c (.int .u64 n)] [] (.c (.int .i64 (popc n))) [] := by
  refine fn_sound (mt := mts) tab_fits tab_mixed Tryz.func87 (by rfl) (by kernel_rfl) (by kernel_rfl) Tryz.results87 (Nat.le_of_ble_eq_true (by kernel_rfl)) ?_
  conv => whnf
  repeat' (first | ((first | refine Split.mk (fun h => ?_) (fun h => ?_) | refine CondG.mk (fun h => ?_) (fun h => ?_)) <;> (try simp only [decide_eq_true_eq, decide_eq_false_iff_not, Bool.not_eq_true', Bool.not_eq_false', beq_iff_eq, beq_eq_false_iff_ne, bne_iff_ne, bne_eq_false_iff_eq] at h) <;> (first | (exfalso; first | omega | exact h trivial) | (conv => whnf))) | (refine CallX.mk _ _ (by first | exact ones64_pc n hn) ?_; conv => whnf) | (refine CallG.mk _ _ (by first | exact ones64_pc n hn) ?_; conv => whnf) | (refine Ask.mk (by first | omega | (unfold roomOK; simp [cutRows]; done) | (unfold roomOK; simp [cutRows]; omega) | (simp [cutRows]; done) | (simp [cutRows]; omega)) ?_; conv => whnf) | (refine AppG.mk (by first | omega | (unfold roomOK; simp [cutRows]; done) | (unfold roomOK; simp [cutRows]; omega) | (simp [cutRows]; done) | (simp [cutRows]; omega)) ?_; conv => whnf) | (refine SliceG.fr ?_; conv => whnf) | (refine BuildG.fr ?_; conv => whnf) | (refine idx_at _ (by with_reducible rfl) (by first | assumption | omega) ?_; conv => whnf) | ((with_reducible refine row_map (by first | assumption | omega) ?_); conv => whnf) | ((with_reducible refine row_set (by first | assumption | omega | (simp only [List.length_set]; omega) | (simp; omega)) ?_); conv => whnf) | fail)
  exact fini rfl
set_option maxRecDepth 100000 in
set_option maxHeartbeats 4000000 in
theorem setBefore_pc (a b : Nat) (ha : a < 16384) (hb : b < 16384) (hne : a ≠ b) : PCp 57 [.c (.int .u64 a), .c (.int .u64 b)] [] (.c (.bool (decide (popc a < popc b ∨ popc a = popc b ∧ befB a b = true)))) [] := by
  refine fn_sound (mt := mts) tab_fits tab_mixed Tryz.func57 (by rfl) (by kernel_rfl) (by kernel_rfl) Tryz.results57 (Nat.le_of_ble_eq_true (by kernel_rfl)) ?_
  conv => whnf
  have p1 := popc_le a
  have p2 := popc_le b
  have hw : IntKind.i64.wrap ((popc a : Int) - (popc b : Int)) = (popc a : Int) - (popc b : Int) := wrap_in (by omega) (by omega)
  have hlt := low_test ha hb hne
  repeat' (first | ((first | refine Split.mk (fun h => ?_) (fun h => ?_) | refine CondG.mk (fun h => ?_) (fun h => ?_)) <;> (try simp only [decide_eq_true_eq, decide_eq_false_iff_not, Bool.not_eq_true', Bool.not_eq_false', beq_iff_eq, beq_eq_false_iff_ne, bne_iff_ne, bne_eq_false_iff_eq] at h) <;> (first | (exfalso; first | omega | exact h trivial) | (conv => whnf))) | (refine CallX.mk _ _ (by first | exact ones_pc a ha | exact ones_pc b hb) ?_; conv => whnf) | (refine CallG.mk _ _ (by first | exact ones_pc a ha | exact ones_pc b hb) ?_; conv => whnf) | (refine Ask.mk (by first | omega | (unfold roomOK; simp [cutRows]; done) | (unfold roomOK; simp [cutRows]; omega) | (simp [cutRows]; done) | (simp [cutRows]; omega)) ?_; conv => whnf) | (refine AppG.mk (by first | omega | (unfold roomOK; simp [cutRows]; done) | (unfold roomOK; simp [cutRows]; omega) | (simp [cutRows]; done) | (simp [cutRows]; omega)) ?_; conv => whnf) | (refine SliceG.fr ?_; conv => whnf) | (refine BuildG.fr ?_; conv => whnf) | (refine idx_at _ (by with_reducible rfl) (by first | assumption | omega) ?_; conv => whnf) | ((with_reducible refine row_map (by first | assumption | omega) ?_); conv => whnf) | ((with_reducible refine row_set (by first | assumption | omega | (simp only [List.length_set]; omega) | (simp; omega)) ?_); conv => whnf) | fail)
  all_goals simp only [hw] at *
  · exact finb (by simp; omega)
  · refine finb ?_
    rw [hlt]
    have : popc a = popc b := by omega
    simp [this]
  · exact finb (by simp; omega)
set_option maxRecDepth 100000 in
set_option maxHeartbeats 4000000 in
theorem fsize_pc (n : Nat) (hn : n < 16384) : PCp 54 [.c (.int .u64 n)] [] (.c (.int .i64 (popc n))) [] := by
  refine fn_sound (mt := mts) tab_fits tab_mixed Tryz.func54 (by rfl) (by kernel_rfl) (by kernel_rfl) Tryz.results54 (Nat.le_of_ble_eq_true (by kernel_rfl)) ?_
  conv => whnf
  refine loop_while2 (fun (m : Nat) (c : Nat) => m) [] [0, 3] (fun (m : Nat) (c : Nat) => [(0, .c (.int .u64 m)), (3, .c (.int .i64 c))]) (fun (m : Nat) (c : Nat) => []) (fun (m : Nat) (c : Nat) => m < 16384 ∧ c + popc m = popc n) (n) (0) ?_
  conv => whnf
  refine ⟨(by first | rfl | (simp; done) | (simp; rfl)), ?_, ?_⟩
  · exact ⟨hn, by omega⟩
  · intro m c ⟨g1, g2⟩
    conv => whnf
    repeat' (first | ((first | refine Split.mk (fun h => ?_) (fun h => ?_) | refine CondG.mk (fun h => ?_) (fun h => ?_)) <;> (try simp only [decide_eq_true_eq, decide_eq_false_iff_not, Bool.not_eq_true', Bool.not_eq_false', beq_iff_eq, beq_eq_false_iff_ne, bne_iff_ne, bne_eq_false_iff_eq] at h) <;> (first | (exfalso; first | omega | exact h trivial) | (conv => whnf))) | (refine Ask.mk (by first | omega | (unfold roomOK; simp [cutRows]; done) | (unfold roomOK; simp [cutRows]; omega) | (simp [cutRows]; done) | (simp [cutRows]; omega)) ?_; conv => whnf) | (refine AppG.mk (by first | omega | (unfold roomOK; simp [cutRows]; done) | (unfold roomOK; simp [cutRows]; omega) | (simp [cutRows]; done) | (simp [cutRows]; omega)) ?_; conv => whnf) | (refine SliceG.fr ?_; conv => whnf) | (refine BuildG.fr ?_; conv => whnf) | (refine idx_at _ (by with_reducible rfl) (by first | assumption | omega) ?_; conv => whnf) | ((with_reducible refine row_map (by first | assumption | omega) ?_); conv => whnf) | ((with_reducible refine row_set (by first | assumption | omega | (simp only [List.length_set]; omega) | (simp; omega)) ?_); conv => whnf) | fail)
    · have hm : m ≠ 0 := by intro e; subst e; contradiction
      have q1 := pop_less g1 hm
      have q2 : m &&& (m - 1) ≤ m - 1 := Nat.and_le_right
      have q3 := popc_le n
      refine meas_next (m &&& (m - 1), c + 1) (by simp only; omega) (by
        rw [show IntKind.u64.wrap ((m : Int) - 1) = ((m - 1 : Nat) : Int) by rw [show (m : Int) - 1 = ((m - 1 : Nat) : Int) by omega]; exact u64N (by omega), bits_and (by omega) (by omega), show IntKind.i64.wrap ((c : Int) + 1) = ((c + 1 : Nat) : Int) by rw [wrap_in (by omega) (by omega)]; rfl]; rfl) ⟨by simp only; omega, by simp only; omega⟩
    · have hm : m = 0 := by omega
      subst hm
      have : popc 0 = 0 := by decide
      exact fini (by omega)
set_option maxRecDepth 100000 in
set_option maxHeartbeats 4000000 in
theorem fMeets1_pc {b : List ByteArray} (h : Rise id b) (hl : b.length ≤ 1000000) (x : ByteArray) : PCp 59 [.c (.str x), .c (.ptr 0 0)] [.box [.lst 1 (b.map encS)]] (.c (.bool (decide (x ∈ b)))) [.box [.lst 1 (b.map encS)]] := by
  refine fn_sound (mt := mts) tab_fits tab_mixed Tryz.func59 (by rfl) (by kernel_rfl) (by kernel_rfl) Tryz.results59 (Nat.le_of_ble_eq_true (by kernel_rfl)) ?_
  conv => whnf
  repeat' (first | ((first | refine Split.mk (fun h => ?_) (fun h => ?_) | refine CondG.mk (fun h => ?_) (fun h => ?_)) <;> (try simp only [decide_eq_true_eq, decide_eq_false_iff_not, Bool.not_eq_true', Bool.not_eq_false', beq_iff_eq, beq_eq_false_iff_ne, bne_iff_ne, bne_eq_false_iff_eq] at h) <;> (first | (exfalso; first | omega | exact h trivial) | (conv => whnf))) | (refine CallX.mk _ _ (by first | exact fHas_pc h hl x) ?_; conv => whnf) | (refine CallG.mk _ _ (by first | exact fHas_pc h hl x) ?_; conv => whnf) | (refine Ask.mk (by first | omega | (unfold roomOK; simp [cutRows]; done) | (unfold roomOK; simp [cutRows]; omega) | (simp [cutRows]; done) | (simp [cutRows]; omega)) ?_; conv => whnf) | (refine AppG.mk (by first | omega | (unfold roomOK; simp [cutRows]; done) | (unfold roomOK; simp [cutRows]; omega) | (simp [cutRows]; done) | (simp [cutRows]; omega)) ?_; conv => whnf) | (refine SliceG.fr ?_; conv => whnf) | (refine BuildG.fr ?_; conv => whnf) | (refine idx_at _ (by with_reducible rfl) (by first | assumption | omega) ?_; conv => whnf) | ((with_reducible refine row_map (by first | assumption | omega) ?_); conv => whnf) | ((with_reducible refine row_set (by first | assumption | omega | (simp only [List.length_set]; omega) | (simp; omega)) ?_); conv => whnf) | fail)
  exact .mk ⟨rfl, rfl⟩
set_option maxRecDepth 100000 in
set_option maxHeartbeats 4000000 in
theorem fMeets_pc (a : List ByteArray) (ha : a.length ≤ 1000000) {b : List ByteArray} (h : Rise id b) (hl : b.length ≤ 1000000) : PCp 30 [.c (.lst 1 (a.map encS)), .c (.lst 1 (b.map encS))] [] (.c (.bool (a.any fun x => decide (x ∈ b)))) [] := by
  refine fn_sound (mt := mts) tab_fits tab_mixed Tryz.func30 (by rfl) (by kernel_rfl) (by kernel_rfl) Tryz.results30 (Nat.le_of_ble_eq_true (by kernel_rfl)) ?_
  conv => whnf
  repeat' (first | ((first | refine Split.mk (fun h => ?_) (fun h => ?_) | refine CondG.mk (fun h => ?_) (fun h => ?_)) <;> (try simp only [decide_eq_true_eq, decide_eq_false_iff_not, Bool.not_eq_true', Bool.not_eq_false', beq_iff_eq, beq_eq_false_iff_ne, bne_iff_ne, bne_eq_false_iff_eq] at h) <;> (first | (exfalso; first | omega | exact h trivial) | (conv => whnf))) | (refine CallX.mk _ _ (by first | exact ixUC_pc (b.map encS) 59 (fun x => decide (x ∈ b)) a ha (fun x _ => fMeets1_pc h hl x)) ?_; conv => whnf) | (refine CallG.mk _ _ (by first | exact ixUC_pc (b.map encS) 59 (fun x => decide (x ∈ b)) a ha (fun x _ => fMeets1_pc h hl x)) ?_; conv => whnf) | (refine Ask.mk (by first | omega | (unfold roomOK; simp [cutRows]; done) | (unfold roomOK; simp [cutRows]; omega) | (simp [cutRows]; done) | (simp [cutRows]; omega)) ?_; conv => whnf) | (refine AppG.mk (by first | omega | (unfold roomOK; simp [cutRows]; done) | (unfold roomOK; simp [cutRows]; omega) | (simp [cutRows]; done) | (simp [cutRows]; omega)) ?_; conv => whnf) | (refine SliceG.fr ?_; conv => whnf) | (refine BuildG.fr ?_; conv => whnf) | (refine idx_at _ (by with_reducible rfl) (by first | assumption | omega) ?_; conv => whnf) | ((with_reducible refine row_map (by first | assumption | omega) ?_); conv => whnf) | ((with_reducible refine row_set (by first | assumption | omega | (simp only [List.length_set]; omega) | (simp; omega)) ?_); conv => whnf) | fail)
  all_goals exact finb (by simp_all)
end Go.Proofs.YtjflmenfinohcaaGreat

/- Explanations in plain Lean: needs, good sets, the best ones, sorted; what is unexplained. -/
namespace Go.Proofs.YtjflmenfinohcaaGreat
set_option linter.unusedVariables false
set_option linter.unusedSimpArgs false
open Abs

/-- which elements of a list, as bits -/
def bitN (p : ByteArray → Bool) (l : List ByteArray) : Nat → Nat
  | 0 => 0
  | k + 1 => if p (l.getD k ⟨#[]⟩) then bitN p l k ||| 2 ^ k else bitN p l k
theorem bitN_lt (p : ByteArray → Bool) (l : List ByteArray) : ∀ k, bitN p l k < 2 ^ k
  | 0 => by simp [bitN]
  | k + 1 => by
    have ih := bitN_lt p l k
    have h1 : 2 ^ k < 2 ^ (k + 1) := by rw [Nat.pow_succ]; have := Nat.two_pow_pos k; omega
    rw [bitN]; split
    · exact Nat.or_lt_two_pow (by omega) h1
    · omega
/-- the needs of what is down -/
def needO (s : List Sv) (l : List ByteArray) (k : ByteArray) : Nat := bitN (fun x => decide (x ∈ (svG s k).els)) l l.length
def needL (s : List Sv) (l down : List ByteArray) : List Nat := (down.map (needO s l)).filter fun n => decide (n ≠ 0)
theorem needL_succ (s : List Sv) (l down : List ByteArray) {k : Nat} (h : k < down.length) : needL s l (down.take (k + 1)) = needL s l (down.take k) ++ (if needO s l down[k] ≠ 0 then [needO s l down[k]] else []) := by
  unfold needL; rw [List.take_succ_eq_append_getElem h, List.map_append, List.filter_append, List.map_cons, List.map_nil, List.filter_cons, List.filter_nil]
  simp
theorem needL_len (s : List Sv) (l down : List ByteArray) : (needL s l down).length ≤ down.length := by
  refine Nat.le_trans (List.length_filter_le ..) ?_; simp
theorem needL_lt {s : List Sv} {l down : List ByteArray} (hl : l.length ≤ 14) : ∀ n ∈ needL s l down, n < 16384 := by
  intro n hn
  obtain ⟨k, _, rfl⟩ := List.mem_map.1 (List.mem_filter.1 hn).1
  have := bitN_lt (fun x => decide (x ∈ (svG s k).els)) l l.length
  have := pow14 hl
  unfold needO; omega
def goodM (ns : List Nat) (m : Nat) : Bool := !(ns.any fun n => decide (n &&& m = 0))
def beforeB (b : List Nat) (k : Nat) : List Nat := match b with | x :: _ => if popc k < popc x then [] else b | [] => []
def withB (b : List Nat) (k : Nat) : List Nat := match b with | x :: _ => if popc k = popc x then b ++ [k] else b | [] => [k]
def bestK (ns : List Nat) : Nat → List Nat
  | 0 => []
  | k + 1 => if goodM ns k then withB (beforeB (bestK ns k) k) k else bestK ns k
theorem bestK_lt (ns : List Nat) : ∀ k, (∀ x ∈ bestK ns k, x < k) ∧ (bestK ns k).length ≤ k
  | 0 => by simp [bestK]
  | k + 1 => by
    obtain ⟨h1, h2⟩ := bestK_lt ns k
    rw [bestK]
    split
    · have h3 : ∀ x ∈ beforeB (bestK ns k) k, x < k := by
        unfold beforeB
        split
        · split
          · simp
          · exact h1
        · simp
      have h4 : (beforeB (bestK ns k) k).length ≤ k := by
        unfold beforeB
        split
        · split
          · simp
          · exact h2
        · simp
      generalize beforeB (bestK ns k) k = b at *
      unfold withB
      split
      · split
        · refine ⟨fun x hx => ?_, by simp at h4 ⊢; omega⟩
          rcases List.mem_append.1 hx with h | h
          · have := h3 x h; omega
          · simp at h; omega
        · exact ⟨fun x hx => by have := h3 x hx; omega, by omega⟩
      · exact ⟨fun x hx => by simp at hx; omega, by simp⟩
    · exact ⟨fun x hx => by have := h1 x hx; omega, by omega⟩
abbrev M14 := { m : Nat // m < 16384 }
def befP (a b : M14) : Bool := decide (popc a.1 < popc b.1 ∨ popc a.1 = popc b.1 ∧ befB a.1 b.1 = true)
def cmpM (a b : M14) : Int := if a = b then 0 else if befP a b then -1 else 1
theorem cmpM_neg {a b : M14} : cmpM a b < 0 ↔ popc a.1 < popc b.1 ∨ popc a.1 = popc b.1 ∧ LowLt a.1 b.1 := by
  unfold cmpM
  by_cases h : a = b
  · subst h
    rw [if_pos rfl]
    constructor
    · intro h; omega
    · rintro (h | ⟨_, h⟩)
      · omega
      · exact (h.asym h).elim
  · have hne : a.1 ≠ b.1 := fun e => h (Subtype.ext e)
    have hb := (befB_iff a.2 b.2 hne).1
    rw [if_neg h, ← hb]
    unfold befP
    by_cases q : popc a.1 < popc b.1 ∨ popc a.1 = popc b.1 ∧ befB a.1 b.1 = true <;> simp [q]
theorem low_tri {a b : M14} (h : a ≠ b) : LowLt a.1 b.1 ∨ LowLt b.1 a.1 := by
  have hne : a.1 ≠ b.1 := fun e => h (Subtype.ext e)
  obtain ⟨h1, h2⟩ := befB_iff a.2 b.2 hne
  cases q : befB a.1 b.1 with
  | true => exact .inl (h1.1 q)
  | false => exact .inr (h2.1 q)
theorem cmpM_swo : SWOc cmpM where
  irrefl x := by
    rw [cmpM_neg]
    rintro (h | ⟨_, h⟩)
    · omega
    · exact h.asym h
  trans x y z h1 h2 := by
    rw [cmpM_neg] at *
    rcases h1 with h1 | ⟨h1, h3⟩ <;> rcases h2 with h2 | ⟨h2, h4⟩
    · left; omega
    · left; omega
    · left; omega
    · right; exact ⟨by omega, h3.trans h4⟩
  ntrans x y z h1 h2 := by
    rw [cmpM_neg] at *
    rintro (h | ⟨h, h3⟩)
    · by_cases q : popc x.1 < popc y.1
      · exact h1 (.inl q)
      · exact h2 (.inl (by omega))
    · by_cases q : popc x.1 < popc y.1
      · exact h1 (.inl q)
      · by_cases q2 : popc y.1 < popc z.1
        · exact h2 (.inl q2)
        · by_cases e : x = y
          · subst e; exact h2 (.inr ⟨by omega, h3⟩)
          · by_cases e2 : y = z
            · subst e2; exact h1 (.inr ⟨by omega, h3⟩)
            · rcases low_tri e with g | g
              · exact h1 (.inr ⟨by omega, g⟩)
              · rcases low_tri e2 with g2 | g2
                · exact h2 (.inr ⟨by omega, g2⟩)
                · exact h3.asym (g2.trans g)
theorem cmpM_one {a b : M14} (h1 : ¬ cmpM a b < 0) (h2 : ¬ cmpM b a < 0) : a = b := by
  rw [cmpM_neg] at h1 h2
  by_cases e : a = b
  · exact e
  · have q1 : popc a.1 = popc b.1 := by
      rcases Nat.lt_trichotomy (popc a.1) (popc b.1) with h | h | h
      · exact (h1 (.inl h)).elim
      · exact h
      · exact (h2 (.inl h)).elim
    rcases low_tri e with g | g
    · exact (h1 (.inr ⟨q1, g⟩)).elim
    · exact (h2 (.inr ⟨q1.symm, g⟩)).elim
def toM (l : List Nat) : List M14 := l.filterMap fun m => if h : m < 16384 then some ⟨m, h⟩ else none
theorem toM_val : ∀ {l : List Nat}, (∀ m ∈ l, m < 16384) → (toM l).map (·.1) = l
  | [], _ => rfl
  | a :: r, h => by
    have ih := toM_val (l := r) (fun m hm => h m (by simp [hm]))
    unfold toM at ih ⊢
    rw [List.filterMap_cons, dif_pos (h a (by simp)), List.map_cons, ih]
/-- the best sets in their order -/
def sortM (l : List Nat) : List Nat := (insSort cmpM (toM l)).map (·.1)
theorem sortM_len {l : List Nat} (h : ∀ m ∈ l, m < 16384) : (sortM l).length = l.length := by
  unfold sortM; rw [List.length_map, insSort_len, ← List.length_map (f := fun x : M14 => x.1), toM_val h]
theorem sortM_perm {l : List Nat} (h : ∀ m ∈ l, m < 16384) : (sortM l).Perm l := by
  have h1 := (insSort_perm cmpM (toM l)).map (fun x : M14 => x.1)
  have h2 : (toM l).map (fun x : M14 => x.1) = l := toM_val h
  rw [h2] at h1; exact h1
set_option maxRecDepth 100000 in
set_option maxHeartbeats 4000000 in
theorem fCmpM_pc (a b : M14) : PCp 56 [.c (.int .u64 (a.1 : Int)), .c (.int .u64 (b.1 : Int))] [] (.c (.int .i64 (cmpM a b))) [] := by
  by_cases e : a = b
  · subst e
    refine fn_sound (mt := mts) tab_fits tab_mixed Tryz.func56 (by rfl) (by kernel_rfl) (by kernel_rfl) Tryz.results56 (Nat.le_of_ble_eq_true (by kernel_rfl)) ?_
    conv => whnf
    repeat' (first | ((first | refine Split.mk (fun h => ?_) (fun h => ?_) | refine CondG.mk (fun h => ?_) (fun h => ?_)) <;> (try simp only [decide_eq_true_eq, decide_eq_false_iff_not, Bool.not_eq_true', Bool.not_eq_false', beq_iff_eq, beq_eq_false_iff_ne, bne_iff_ne, bne_eq_false_iff_eq] at h) <;> (first | (exfalso; first | omega | exact h trivial) | (conv => whnf))) | (refine Ask.mk (by first | omega | (unfold roomOK; simp [cutRows]; done) | (unfold roomOK; simp [cutRows]; omega) | (simp [cutRows]; done) | (simp [cutRows]; omega)) ?_; conv => whnf) | (refine AppG.mk (by first | omega | (unfold roomOK; simp [cutRows]; done) | (unfold roomOK; simp [cutRows]; omega) | (simp [cutRows]; done) | (simp [cutRows]; omega)) ?_; conv => whnf) | (refine SliceG.fr ?_; conv => whnf) | (refine BuildG.fr ?_; conv => whnf) | (refine idx_at _ (by with_reducible rfl) (by first | assumption | omega) ?_; conv => whnf) | ((with_reducible refine row_map (by first | assumption | omega) ?_); conv => whnf) | ((with_reducible refine row_set (by first | assumption | omega | (simp only [List.length_set]; omega) | (simp; omega)) ?_); conv => whnf) | fail)
    all_goals first | exact fini (by unfold cmpM; rw [if_pos rfl]) | contradiction | (rename_i h; simp at h; done)
  · have hne : a.1 ≠ b.1 := fun q => e (Subtype.ext q)
    have hi : ((a.1 : Int) = (b.1 : Int)) ↔ False := ⟨fun h => hne (by omega), False.elim⟩
    refine fn_sound (mt := mts) tab_fits tab_mixed Tryz.func56 (by rfl) (by kernel_rfl) (by kernel_rfl) Tryz.results56 (Nat.le_of_ble_eq_true (by kernel_rfl)) ?_
    conv => whnf
    repeat' (first | ((first | refine Split.mk (fun h => ?_) (fun h => ?_) | refine CondG.mk (fun h => ?_) (fun h => ?_)) <;> (try simp only [decide_eq_true_eq, decide_eq_false_iff_not, Bool.not_eq_true', Bool.not_eq_false', beq_iff_eq, beq_eq_false_iff_ne, bne_iff_ne, bne_eq_false_iff_eq] at h) <;> (first | (exfalso; first | omega | exact h trivial) | (conv => whnf))) | (refine CallX.mk _ _ (by first | exact setBefore_pc a.1 b.1 a.2 b.2 hne) ?_; conv => whnf) | (refine CallG.mk _ _ (by first | exact setBefore_pc a.1 b.1 a.2 b.2 hne) ?_; conv => whnf) | (refine Ask.mk (by first | omega | (unfold roomOK; simp [cutRows]; done) | (unfold roomOK; simp [cutRows]; omega) | (simp [cutRows]; done) | (simp [cutRows]; omega)) ?_; conv => whnf) | (refine AppG.mk (by first | omega | (unfold roomOK; simp [cutRows]; done) | (unfold roomOK; simp [cutRows]; omega) | (simp [cutRows]; done) | (simp [cutRows]; omega)) ?_; conv => whnf) | (refine SliceG.fr ?_; conv => whnf) | (refine BuildG.fr ?_; conv => whnf) | (refine idx_at _ (by with_reducible rfl) (by first | assumption | omega) ?_; conv => whnf) | ((with_reducible refine row_map (by first | assumption | omega) ?_); conv => whnf) | ((with_reducible refine row_set (by first | assumption | omega | (simp only [List.length_set]; omega) | (simp; omega)) ?_); conv => whnf) | fail)
    all_goals first | exact fini (by unfold cmpM befP; rw [if_neg e]; simp_all) | contradiction | (rename_i h; simp at h; omega)
theorem sortU_pc (l : List Nat) (h : ∀ m ∈ l, m < 16384) (hl : l.length ≤ 1000000) :
    PCp 55 [.c (.row 0), .c (.fn 56 [])] [.row 101 1 (l.map encU)] (.tup []) [.row 101 1 ((sortM l).map encU)] := by
  have hs := sort1_pcx layOneUint layOneNUint (encA := fun x : M14 => V.int .u64 (x.1 : Int)) cmpM_swo fCmpM_pc 101 (toM l) (by rw [← List.length_map (f := fun x : M14 => x.1), toM_val h]; omega)
  have hm : ∀ q : List M14, q.map (fun x => [V.int .u64 (x.1 : Int)]) = (q.map (·.1)).map encU := by intro q; rw [List.map_map]; rfl
  rw [hm, toM_val h] at hs
  have ht : PCq 55 [.c (.row 0), .c (.fn 56 [])] [.row 101 1 (l.map encU)] fun r os => r = .tup [] ∧ os = [.row 101 1 ((sortM l).map encU)] := by
    refine ⟨hs.fn, fun F φ w cs a b c => (hs.calls F φ w cs a b c).mono ?_⟩
    rintro e w' ⟨c, F', φ', r, os, ⟨l', hS, h1, h2⟩, rest⟩
    refine ⟨c, F', φ', r, os, ⟨h1, ?_⟩, rest⟩
    have : l' = insSort cmpM (toM l) := sorted_one cmpM_swo (fun _ _ => cmpM_one) (hS.1.trans (insSort_perm cmpM (toM l)).symm) hS.2 (insSort_srt cmpM_swo (toM l))
    rw [h2, this, hm]; rfl
  exact ht
end Go.Proofs.YtjflmenfinohcaaGreat

/- The explanations of the program. -/
namespace Go.Proofs.YtjflmenfinohcaaGreat
set_option linter.unusedVariables false
set_option linter.unusedSimpArgs false
open Abs

def setL (l : List ByteArray) (m : Nat) : Nat → List ByteArray
  | 0 => []
  | k + 1 => if m.testBit k then setL l m k ++ [l.getD k ⟨#[]⟩] else setL l m k
def pickM (l : List ByteArray) (m : Nat) : List ByteArray := setL l m l.length
theorem setL_len (l : List ByteArray) (m : Nat) : ∀ k, (setL l m k).length ≤ k
  | 0 => by simp [setL]
  | k + 1 => by
    have := setL_len l m k
    rw [setL]; split
    · simp; omega
    · omega
def bestL (s : List Sv) (l down : List ByteArray) : List Nat := bestK (needL s l down) (2 ^ l.length)
def explE (s : List Sv) (l down : List ByteArray) : Int := if 14 < l.length then 12 else if 1000 < (bestL s l down).length then 2 else 0
def explV (s : List Sv) (l down : List ByteArray) : List (List ByteArray) := if explE s l down = 0 then (sortM (bestL s l down)).map (pickM l) else []
/-- a row that is frozen from the second round on -/
def ndO (k : Nat) (rows : List (List V)) : Ob := match k with | 0 => .row 101 1 rows | _ + 1 => .frow 1 rows
theorem ndO_pos {k : Nat} (h : k ≠ 0) (rows : List (List V)) : ndO k rows = .frow 1 rows := by cases k with | zero => exact (h rfl).elim | succ k => rfl
set_option maxRecDepth 100000 in
set_option maxHeartbeats 4000000 in
theorem fExp1_pc (m : Nat) (hm : m < 16384) (n : Nat) (hn : n < 16384) : PCp 53 [.c (.int .u64 (n : Int)), .c (.ptr 0 0)] [.box [.int .u64 (m : Int)]] (.c (.bool (decide (n &&& m = 0)))) [.box [.int .u64 (m : Int)]] := by
  refine fn_sound (mt := mts) tab_fits tab_mixed Tryz.func53 (by rfl) (by kernel_rfl) (by kernel_rfl) Tryz.results53 (Nat.le_of_ble_eq_true (by kernel_rfl)) ?_
  conv => whnf
  rw [bits_and (by omega) (by omega)]
  repeat' (first | ((first | refine Split.mk (fun h => ?_) (fun h => ?_) | refine CondG.mk (fun h => ?_) (fun h => ?_)) <;> (try simp only [decide_eq_true_eq, decide_eq_false_iff_not, Bool.not_eq_true', Bool.not_eq_false', beq_iff_eq, beq_eq_false_iff_ne, bne_iff_ne, bne_eq_false_iff_eq] at h) <;> (first | (exfalso; first | omega | exact h trivial) | (conv => whnf))) | (refine Ask.mk (by first | omega | (unfold roomOK; simp [cutRows]; done) | (unfold roomOK; simp [cutRows]; omega) | (simp [cutRows]; done) | (simp [cutRows]; omega)) ?_; conv => whnf) | (refine AppG.mk (by first | omega | (unfold roomOK; simp [cutRows]; done) | (unfold roomOK; simp [cutRows]; omega) | (simp [cutRows]; done) | (simp [cutRows]; omega)) ?_; conv => whnf) | (refine SliceG.fr ?_; conv => whnf) | (refine BuildG.fr ?_; conv => whnf) | (refine idx_at _ (by with_reducible rfl) (by first | assumption | omega) ?_; conv => whnf) | ((with_reducible refine row_map (by first | assumption | omega) ?_); conv => whnf) | ((with_reducible refine row_set (by first | assumption | omega | (simp only [List.length_set]; omega) | (simp; omega)) ?_); conv => whnf) | fail)
  have h1 : (((n &&& m : Nat) : Int) == 0) = decide (n &&& m = 0) := by
    rw [Bool.eq_iff_iff, beq_iff_eq, decide_eq_true_eq]; omega
  rw [h1]
  exact .mk ⟨rfl, rfl⟩
set_option maxRecDepth 100000 in
set_option maxHeartbeats 4000000 in
theorem ixUm_pc (m : Nat) (g : Nat) (p : Nat → Bool) (l : List Nat) (hl : l.length ≤ 1000000) (hg : ∀ x ∈ l, PCp g [.c (.int .u64 (x : Nat)), .c (.ptr 0 0)] [.box [.int .u64 (m : Int)]] (.c (.bool (p x))) [.box [.int .u64 (m : Int)]]) : PCp 84 [.c (.lst 1 (l.map encU)), .c (.fn g [.ptr 0 0])] [.box [.int .u64 (m : Int)]] (.c (.int .i64 (idxP p l))) [.box [.int .u64 (m : Int)]] := by
  have hlm : (l.map encU).length = l.length := List.length_map ..
  refine fn_sound (mt := mts) tab_fits tab_mixed Tryz.func84 (by rfl) (by kernel_rfl) (by kernel_rfl) Tryz.results84 (Nat.le_of_ble_eq_true (by kernel_rfl)) ?_
  conv => whnf
  refine loop_count (l.length) [] [0, 1, 7, 8] (fun k (_ : Unit) => ⟨[(0, .c (.lst 1 (l.map encU))), (1, .c (.fn g [.ptr 0 0])), (7, .c (.int .i64 (l.map encU).length)), (8, .c (.int .i64 k))], [(0, .box [.int .u64 (m : Int)])], 1⟩) (fun k (_ : Unit) => ∀ i (hi : i < l.length), i < k → p l[i] = false) (()) ?_ ?_ ?_
  · conv => whnf
    exact ⟨rfl, by intro i hi h; omega⟩
  · intro k _ hk hi
    conv => whnf
    repeat' (first | ((first | refine Split.mk (fun h => ?_) (fun h => ?_) | refine CondG.mk (fun h => ?_) (fun h => ?_)) <;> (try simp only [decide_eq_true_eq, decide_eq_false_iff_not, Bool.not_eq_true', Bool.not_eq_false', beq_iff_eq, beq_eq_false_iff_ne, bne_iff_ne, bne_eq_false_iff_eq] at h) <;> (first | (exfalso; first | omega | exact h trivial) | (conv => whnf))) | (refine CallX.mk _ _ (by first | exact hg l[k] (List.getElem_mem hk)) ?_; conv => whnf) | (refine CallG.mk _ _ (by first | exact hg l[k] (List.getElem_mem hk)) ?_; conv => whnf) | (refine Ask.mk (by first | omega | (unfold roomOK; simp [cutRows]; done) | (unfold roomOK; simp [cutRows]; omega) | (simp [cutRows]; done) | (simp [cutRows]; omega)) ?_; conv => whnf) | (refine AppG.mk (by first | omega | (unfold roomOK; simp [cutRows]; done) | (unfold roomOK; simp [cutRows]; omega) | (simp [cutRows]; done) | (simp [cutRows]; omega)) ?_; conv => whnf) | (refine SliceG.fr ?_; conv => whnf) | (refine BuildG.fr ?_; conv => whnf) | (refine idx_at _ (by with_reducible rfl) (by first | assumption | omega) ?_; conv => whnf) | ((with_reducible refine row_map (by first | assumption | omega) ?_); conv => whnf) | ((with_reducible refine row_set (by first | assumption | omega | (simp only [List.length_set]; omega) | (simp; omega)) ?_); conv => whnf) | fail)
    · exact .mk ⟨by rw [idxP_hit hk (fun i hi' => hi i (by omega) hi') h]; rfl, rfl⟩
    · refine count_next () hk (by rw [wrap_succ hk (by omega)]; rfl) ?_
      exact all_succ' hi h
  · intro _ hi
    conv => whnf
    repeat' (first | ((first | refine Split.mk (fun h => ?_) (fun h => ?_) | refine CondG.mk (fun h => ?_) (fun h => ?_)) <;> (try simp only [decide_eq_true_eq, decide_eq_false_iff_not, Bool.not_eq_true', Bool.not_eq_false', beq_iff_eq, beq_eq_false_iff_ne] at h) <;> (first | (exfalso; first | omega | exact h trivial) | (conv => whnf))) | (refine Ask.mk (by first | omega | (unfold roomOK; simp [cutRows]; done) | (unfold roomOK; simp [cutRows]; omega)) ?_; conv => whnf) | (refine AppG.mk (by first | omega | (unfold roomOK; simp [cutRows]; done) | (unfold roomOK; simp [cutRows]; omega)) ?_; conv => whnf) | (refine SliceG.fr ?_; conv => whnf) | (refine BuildG.fr ?_; conv => whnf) | fail)
    exact .mk ⟨by rw [idxP_miss (fun i h => hi i h h)]; rfl, rfl⟩
set_option maxRecDepth 100000 in
set_option maxHeartbeats 4000000 in
theorem ixUmC_pc (m : Nat) (g : Nat) (p : Nat → Bool) (l : List Nat) (hl : l.length ≤ 1000000) (hg : ∀ x ∈ l, PCp g [.c (.int .u64 (x : Nat)), .c (.ptr 0 0)] [.box [.int .u64 (m : Int)]] (.c (.bool (p x))) [.box [.int .u64 (m : Int)]]) : PCp 52 [.c (.lst 1 (l.map encU)), .c (.fn g [.ptr 0 0])] [.box [.int .u64 (m : Int)]] (.c (.bool (l.any p))) [.box [.int .u64 (m : Int)]] := by
  refine fn_sound (mt := mts) tab_fits tab_mixed Tryz.func52 (by rfl) (by kernel_rfl) (by kernel_rfl) Tryz.results52 (Nat.le_of_ble_eq_true (by kernel_rfl)) ?_
  conv => whnf
  repeat' (first | ((first | refine Split.mk (fun h => ?_) (fun h => ?_) | refine CondG.mk (fun h => ?_) (fun h => ?_)) <;> (try simp only [decide_eq_true_eq, decide_eq_false_iff_not, Bool.not_eq_true', Bool.not_eq_false', beq_iff_eq, beq_eq_false_iff_ne] at h) <;> (first | (exfalso; first | omega | exact h trivial) | (conv => whnf))) | (refine CallX.mk _ _ (by first | exact ixUm_pc m g p l hl hg) ?_; conv => whnf) | (refine CallG.mk _ _ (by first | exact ixUm_pc m g p l hl hg) ?_; conv => whnf) | (refine Ask.mk (by first | omega | (unfold roomOK; simp [cutRows]; done) | (unfold roomOK; simp [cutRows]; omega)) ?_; conv => whnf) | (refine AppG.mk (by first | omega | (unfold roomOK; simp [cutRows]; done) | (unfold roomOK; simp [cutRows]; omega)) ?_; conv => whnf) | (refine SliceG.fr ?_; conv => whnf) | (refine BuildG.fr ?_; conv => whnf) | fail)
  exact .mk ⟨by rw [← idxP_any]; rfl, rfl⟩
end Go.Proofs.YtjflmenfinohcaaGreat

/- What is unexplained, by the program; elements by captured lists. -/
namespace Go.Proofs.YtjflmenfinohcaaGreat
set_option linter.unusedVariables false
set_option linter.unusedSimpArgs false
open Abs

theorem seen_ok {s : List Sv} {down up : List ByteArray} (h0 : seenErr s down up = 0) : SvOk s ∧ StOkL s down ∧ StOkL s up := by
  have hs0 : svFault s = 0 := by
    unfold seenErr at h0
    split at h0
    · omega
    · omega
  have hd0 : stErr s down = 0 := by
    unfold seenErr at h0
    rw [if_neg (by omega)] at h0
    split at h0
    · omega
    · omega
  have hu0 : stErr s up = 0 := by
    unfold seenErr at h0
    rw [if_neg (by omega), if_neg (by omega)] at h0
    split at h0
    · omega
    · omega
  exact ⟨svFault_ok hs0, stErr_ok hd0, stErr_ok hu0⟩
def needsB (s : List Sv) (l : List ByteArray) (k : ByteArray) : Bool := l.any fun x => decide (x ∈ (svG s k).els)
def unexV (s : List Sv) (l down : List ByteArray) : List ByteArray := down.filter fun k => !needsB s l k
set_option maxRecDepth 100000 in
set_option maxHeartbeats 4000000 in
theorem ixUr_pc (xs ss : List (List V)) (g : Nat) (p : ByteArray → Bool) (l : List ByteArray) (hl : l.length ≤ 1000000) (hg : ∀ x ∈ l, PCp g [.c (.str x), .c (.ptr 0 0), .c (.ptr 1 0)] [.box [.lst 1 xs], .box [.lst 3 ss]] (.c (.bool (p x))) [.box [.lst 1 xs], .box [.lst 3 ss]]) : PCp 46 [.c (.row 0), .c (.fn g [.ptr 1 0, .ptr 2 0])] [.row 9 1 (l.map encS), .box [.lst 1 xs], .box [.lst 3 ss]] (.c (.int .i64 (idxP p l))) [.row 9 1 (l.map encS), .box [.lst 1 xs], .box [.lst 3 ss]] := by
  have hlm : (l.map encS).length = l.length := List.length_map ..
  refine fn_sound (mt := mts) tab_fits tab_mixed Tryz.func46 (by rfl) (by kernel_rfl) (by kernel_rfl) Tryz.results46 (Nat.le_of_ble_eq_true (by kernel_rfl)) ?_
  conv => whnf
  refine loop_for (l.length) [] [0, 1, 7, 8] (fun k (_ : Unit) => [(8, .c (.int .i64 (k : Int)))]) (fun k (_ : Unit) => []) (fun k (_ : Unit) => ∀ i (hi : i < l.length), i < k → p l[i] = false) (()) ?_
  conv => whnf
  refine ⟨(by first | rfl | (simp; done) | (simp; rfl)), ?_, ?_, ?_⟩
  · intro i hi h; omega
  · intro k _ hk hi
    conv => whnf
    repeat' (first | ((first | refine Split.mk (fun h => ?_) (fun h => ?_) | refine CondG.mk (fun h => ?_) (fun h => ?_)) <;> (try simp only [decide_eq_true_eq, decide_eq_false_iff_not, Bool.not_eq_true', Bool.not_eq_false', beq_iff_eq, beq_eq_false_iff_ne, bne_iff_ne, bne_eq_false_iff_eq] at h) <;> (first | (exfalso; first | omega | exact h trivial) | (conv => whnf))) | (refine CallX.mk _ _ (by first | exact hg l[k] (List.getElem_mem hk)) ?_; conv => whnf) | (refine CallG.mk _ _ (by first | exact hg l[k] (List.getElem_mem hk)) ?_; conv => whnf) | (refine Ask.mk (by first | omega | (unfold roomOK; simp [cutRows]; done) | (unfold roomOK; simp [cutRows]; omega) | (simp [cutRows]; done) | (simp [cutRows]; omega)) ?_; conv => whnf) | (refine AppG.mk (by first | omega | (unfold roomOK; simp [cutRows]; done) | (unfold roomOK; simp [cutRows]; omega) | (simp [cutRows]; done) | (simp [cutRows]; omega)) ?_; conv => whnf) | (refine SliceG.fr ?_; conv => whnf) | (refine BuildG.fr ?_; conv => whnf) | (refine idx_at _ (by with_reducible rfl) (by first | assumption | omega) ?_; conv => whnf) | ((with_reducible refine row_map (by first | assumption | omega) ?_); conv => whnf) | ((with_reducible refine row_set (by first | assumption | omega | (simp only [List.length_set]; omega) | (simp; omega)) ?_); conv => whnf) | fail)
    · exact .mk ⟨by rw [idxP_hit hk (fun i hi' => hi i (by omega) hi') h]; rfl, rfl⟩
    · refine count_next () hk (by rw [wrap_succ hk (by omega)]; rfl) ?_
      exact all_succ' hi h
  · intro _ hi
    conv => whnf
    repeat' (first | ((first | refine Split.mk (fun h => ?_) (fun h => ?_) | refine CondG.mk (fun h => ?_) (fun h => ?_)) <;> (try simp only [decide_eq_true_eq, decide_eq_false_iff_not, Bool.not_eq_true', Bool.not_eq_false', beq_iff_eq, beq_eq_false_iff_ne] at h) <;> (first | (exfalso; first | omega | exact h trivial) | (conv => whnf))) | (refine Ask.mk (by first | omega | (unfold roomOK; simp [cutRows]; done) | (unfold roomOK; simp [cutRows]; omega)) ?_; conv => whnf) | (refine AppG.mk (by first | omega | (unfold roomOK; simp [cutRows]; done) | (unfold roomOK; simp [cutRows]; omega)) ?_; conv => whnf) | (refine SliceG.fr ?_; conv => whnf) | (refine BuildG.fr ?_; conv => whnf) | fail)
    exact .mk ⟨by rw [idxP_miss (fun i h => hi i h h)]; rfl, rfl⟩
set_option maxRecDepth 100000 in
set_option maxHeartbeats 4000000 in
theorem delfU_pc (xs ss : List (List V)) (g : Nat) (p : ByteArray → Bool) (l : List ByteArray) (hl : l.length ≤ 1000000) (hg : ∀ x ∈ l, PCp g [.c (.str x), .c (.ptr 0 0), .c (.ptr 1 0)] [.box [.lst 1 xs], .box [.lst 3 ss]] (.c (.bool (p x))) [.box [.lst 1 xs], .box [.lst 3 ss]]) : PCp 22 [.c (.row 0), .c (.fn g [.ptr 1 0, .ptr 2 0])] [.row 9 1 (l.map encS), .box [.lst 1 xs], .box [.lst 3 ss]] (.c (.row 3)) [.dead, .box [.lst 1 xs], .box [.lst 3 ss], .row 9 1 ((l.filter fun x => !p x).map encS)] := by
  have hlm : (l.map encS).length = l.length := List.length_map ..
  rcases idxP_or p l with ⟨hix, hno⟩ | ⟨i0, h0, hix, hp, hbef⟩
  · have hf : l.filter (fun x => !p x) = l := List.filter_eq_self.2 (fun x hx => by simp [hno x hx])
    refine fn_sound (mt := mts) tab_fits tab_mixed Tryz.func22 (by rfl) (by kernel_rfl) (by kernel_rfl) Tryz.results22 (Nat.le_of_ble_eq_true (by kernel_rfl)) ?_
    conv => whnf
    repeat' (first | ((first | refine Split.mk (fun h => ?_) (fun h => ?_) | refine CondG.mk (fun h => ?_) (fun h => ?_)) <;> (try simp only [decide_eq_true_eq, decide_eq_false_iff_not, Bool.not_eq_true', Bool.not_eq_false', beq_iff_eq, beq_eq_false_iff_ne] at h) <;> (first | (exfalso; first | omega | exact h trivial) | (conv => whnf))) | (refine CallX.mk _ _ (by first | exact ixUr_pc xs ss g p l hl hg) ?_; conv => whnf) | (refine CallG.mk _ _ (by first | exact ixUr_pc xs ss g p l hl hg) ?_; conv => whnf) | (refine Ask.mk (by first | omega | (unfold roomOK; simp [cutRows]; done) | (unfold roomOK; simp [cutRows]; omega)) ?_; conv => whnf) | (refine AppG.mk (by first | omega | (unfold roomOK; simp [cutRows]; done) | (unfold roomOK; simp [cutRows]; omega)) ?_; conv => whnf) | (refine SliceG.fr ?_; conv => whnf) | (refine BuildG.fr ?_; conv => whnf) | fail)
    · refine .cutv 0 _ _ l.length _ (.inr ⟨rfl, hlm.symm⟩) rfl (by omega) (.mk ⟨rfl, ?_⟩)
      rw [hf, show List.take l.length (l.map encS) = l.map encS from List.take_of_length_le (by omega)]; rfl
  · refine fn_sound (mt := mts) tab_fits tab_mixed Tryz.func22 (by rfl) (by kernel_rfl) (by kernel_rfl) Tryz.results22 (Nat.le_of_ble_eq_true (by kernel_rfl)) ?_
    conv => whnf
    refine .mk _ _ (ixUr_pc xs ss g p l hl hg) ?_
    rw [hix]
    conv => whnf
    refine .mk (fun h => ?_) (fun h => ?_)
    · first | omega | (simp at h; done) | (simp at h; omega)
    conv => whnf
    rw [wrap_succ h0 (by omega)]
    refine loop_for2 (l.length - (i0 + 1)) [] [0, 1, 5, 6] (fun m (i : Nat) (q : List ByteArray) => [(5, .c (.int .i64 ((i : Nat) : Int))), (6, .c (.int .i64 ((i0 + 1 + m : Nat) : Int)))]) (fun m (i : Nat) (q : List ByteArray) => [(0, .row 9 1 (q.map encS))]) (fun m (i : Nat) (q : List ByteArray) => q.length = l.length ∧ i < i0 + 1 + m ∧ q.drop (i0 + 1 + m) = l.drop (i0 + 1 + m) ∧ q.take i ++ (l.drop (i0 + 1 + m)).filter (fun x => !p x) = l.filter (fun x => !p x)) (i0) (l) ?_
    conv => whnf
    refine ⟨(by first | rfl | (simp; done) | (simp; rfl)), ?_, ?_, ?_⟩
    · exact ⟨rfl, by omega, rfl, delf_start h0 hp hbef⟩
    · intro m i q hm ⟨g1, g2, g3, g4⟩
      have hqm : (q.map encS).length = q.length := List.length_map ..
      have hj : i0 + 1 + m < l.length := by omega
      have q1 : q[i0 + 1 + m]'(by omega) = l[i0 + 1 + m] := getElem_of_drop g3 (by omega) (by omega) (by omega)
      rw [List.drop_eq_getElem_cons hj, List.filter_cons] at g4
      conv => whnf
      refine .mk (fun h => ?_) (fun h => ?_)
      rotate_left
      · first | omega | (simp at h; done) | (simp at h; omega)
      conv => whnf
      refine .mk (by omega) ?_
      conv => whnf
      refine row_at (i0 + 1 + m) toN (by omega) ?_
      conv => whnf
      rw [q1]
      refine .mk _ _ (hg _ (List.getElem_mem hj)) ?_
      conv => whnf
      refine .mk (fun h => ?_) (fun h => ?_)
      · conv => whnf
        refine .mk (by omega) ?_
        conv => whnf
        refine row_at i toN (by omega) ?_
        conv => whnf
        rw [if_pos h] at g4
        refine count_next (i + 1, q.set i (l[i0 + 1 + m]'(by omega))) hm (by rw [wrap_succ (n := l.length) (by omega) (by omega), wrap_succ (n := l.length) (by omega) (by omega), toN, List.map_set]; rfl) ⟨by simp [g1], by simp only; omega, ?_, ?_⟩
        · rw [List.drop_set_of_lt (by omega), show i0 + 1 + (m + 1) = i0 + 1 + m + 1 by omega, ← List.drop_drop, g3, List.drop_drop]
        · rw [delf_set (by omega), show i0 + 1 + (m + 1) = i0 + 1 + m + 1 by omega, List.append_assoc]; exact g4
      · conv => whnf
        rw [if_neg (by rw [h]; decide)] at g4
        refine count_next (i, q) hm (by rw [wrap_succ (n := l.length) (by omega) (by omega)]; rfl) ⟨g1, by simp only; omega, ?_, ?_⟩
        · rw [show i0 + 1 + (m + 1) = i0 + 1 + m + 1 by omega, ← List.drop_drop, g3, List.drop_drop]
        · rw [show i0 + 1 + (m + 1) = i0 + 1 + m + 1 by omega]; exact g4
    · intro i q ⟨g1, g2, g3, g4⟩
      have hqm : (q.map encS).length = q.length := List.length_map ..
      rw [List.drop_of_length_le (by omega), List.filter_nil, List.append_nil] at g4
      conv => whnf
      refine .mk (fun h => ?_) (fun h => ?_)
      · first | omega | (simp at h; done) | (simp at h; omega)
      conv => whnf
      refine .mk (by omega) ?_
      conv => whnf
      refine .vw ?_
      conv => whnf
      refine .mk (by rw [overR]; simp; omega) ?_
      conv => whnf
      refine .cut ⟨rfl, ?_⟩
      conv => whnf
      rw [toN]
      have hrow : ∀ z : List V, (overR (q.map encS) (List.replicate ((q.map encS).length - i) z) i).take i = (l.filter fun x => !p x).map encS := by
        intro z
        rw [← g4, List.map_take]; unfold overR
        rw [List.append_assoc, List.take_append_of_le_length (by simp; omega), List.take_take, Nat.min_self]
      rw [hrow]
      exact .mk ⟨rfl, rfl⟩
set_option maxRecDepth 100000 in
set_option maxHeartbeats 4000000 in
theorem fUn1_pc (s : List Sv) (hs : SvOk s) (l : List ByteArray) (hl : l.length ≤ 1000000) (k : ByteArray) (hk : hasSv s k = true) :
    PCp 29 [.c (.str k), .c (.ptr 0 0), .c (.ptr 1 0)] [.box [.lst 1 (l.map encS)], .box [.lst 3 (s.map encSv)]] (.c (.bool (needsB s l k))) [.box [.lst 1 (l.map encS)], .box [.lst 3 (s.map encSv)]] := by
  have hsl := hs.len
  obtain ⟨i, hi, h2, h3⟩ : ∃ i, ∃ hi : i < s.length, svIx s k = ((i : Nat) : Int) ∧ s[i] = svG s k := by
    rcases svIx_or hs.rise k with ⟨h1, _⟩ | ⟨_, i, hi, h2, h3⟩
    · rw [h1] at hk; cases hk
    · exact ⟨i, hi, h2, h3⟩
  have h4 := hs.each _ (List.getElem_mem hi)
  have h5 := h4.len
  refine fn_sound (mt := mts) tab_fits tab_mixed Tryz.func29 (by rfl) (by kernel_rfl) (by kernel_rfl) Tryz.results29 (Nat.le_of_ble_eq_true (by kernel_rfl)) ?_
  conv => whnf
  repeat' (first | ((first | refine Split.mk (fun h => ?_) (fun h => ?_) | refine CondG.mk (fun h => ?_) (fun h => ?_)) <;> (try simp only [decide_eq_true_eq, decide_eq_false_iff_not, Bool.not_eq_true', Bool.not_eq_false', beq_iff_eq, beq_eq_false_iff_ne, bne_iff_ne, bne_eq_false_iff_eq] at h) <;> (first | (exfalso; first | omega | exact h trivial) | (conv => whnf))) | (refine CallX.mk _ _ (by first | exact fFind_pc s hs.rise (by omega) _ | exact fMeets_pc l hl h4.rise (by omega)) ?_; conv => whnf) | (refine CallG.mk _ _ (by first | exact fFind_pc s hs.rise (by omega) _ | exact fMeets_pc l hl h4.rise (by omega)) ?_; conv => whnf) | (refine Ask.mk (by first | omega | (unfold roomOK; simp [cutRows]; done) | (unfold roomOK; simp [cutRows]; omega) | (simp [cutRows]; done) | (simp [cutRows]; omega)) ?_; conv => whnf) | (refine AppG.mk (by first | omega | (unfold roomOK; simp [cutRows]; done) | (unfold roomOK; simp [cutRows]; omega) | (simp [cutRows]; done) | (simp [cutRows]; omega)) ?_; conv => whnf) | (refine SliceG.fr ?_; conv => whnf) | (refine BuildG.fr ?_; conv => whnf) | (refine idx_at _ (by with_reducible rfl) (by first | assumption | omega) ?_; conv => whnf) | ((with_reducible refine row_map (by first | assumption | omega) ?_); conv => whnf) | ((with_reducible refine row_set (by first | assumption | omega | (simp only [List.length_set]; omega) | (simp; omega)) ?_); conv => whnf) | ((rw [h2]; refine idx_map i hi rfl ?_); conv => whnf) | fail)
  rw [h3]
  exact .mk ⟨rfl, rfl⟩
theorem nd_len : ∀ {l m : List ByteArray}, l.Nodup → (∀ x ∈ l, x ∈ m) → l.length ≤ m.length
  | [], _, _, _ => Nat.zero_le _
  | a :: r, m, h, hs => by
    rw [List.nodup_cons] at h
    have ha := hs a (by simp)
    have h1 := nd_len (l := r) (m := m.erase a) h.2 (fun x hx => by
      have hne : x ≠ a := fun e => by subst e; exact h.1 hx
      exact (List.mem_erase_of_ne hne).2 (hs x (by simp [hx])))
    have h2 := List.length_erase_of_mem ha
    have h3 := List.length_pos_of_mem ha
    simp only [List.length_cons]; omega
theorem susV_len {s : List Sv} (hs : SvOk s) {down : List ByteArray} (hd : StOkL s down) (up : List ByteArray) : (susV s down up).length ≤ 50000 := by
  have h1 : (susV s down up).Nodup := rise_nd (susV_rise s down up)
  have h2 : (susV s down up).length ≤ (elsOf s down).length := nd_len h1 fun x hx => ((susV_mem s down up x).1 hx).1
  have h3 := elsOf_len hs hd.has
  have := hd.len
  omega
end Go.Proofs.YtjflmenfinohcaaGreat

/- The explanations of the program, as rows in a row. -/
namespace Go.Proofs.YtjflmenfinohcaaGreat
set_option linter.unusedVariables false
set_option linter.unusedSimpArgs false
open Abs

/-- nothing, or new rows in a new row -/
inductive GridR (v : List (List ByteArray)) (e : Int) (r : S) (os : List Ob) : Prop
  | nil (h : r = .tup [.c .nils, .c (.int .i64 e)]) (h2 : os = [])
  | grd (ins : List (Value × List (List V))) (h : r = .tup [.c (.row 0), .c (.int .i64 e)]) (h2 : ins.map (·.2) = v.map (·.map encS)) (h3 : os = [.grid 28 9 1 ins])
set_option maxRecDepth 100000 in
set_option maxHeartbeats 4000000 in
theorem fExplG_pc (s : List Sv) (hs : SvOk s) (down up : List ByteArray) (hd : StOkL s down) (hu : StOkL s up) :
    PCq 27 [.c (.lst 3 (s.map encSv)), .c (.lst 1 (down.map encS)), .c (.lst 1 (up.map encS))] [] fun r os => GridR (explV s (susV s down up) down) (explE s (susV s down up) down) r os := by
  have hsl := hs.len
  have hdl := hd.len
  have hdm : (down.map encS).length = down.length := List.length_map ..
  have hat : ∀ k, hasSv s k = true → ∃ i, ∃ hi : i < s.length, svIx s k = ((i : Nat) : Int) ∧ s[i] = svG s k ∧ s[i].els.length ≤ 100 ∧ Rise id s[i].els := by
    intro k hk
    rcases svIx_or hs.rise k with ⟨h1, _⟩ | ⟨_, i, hi, h2, h3⟩
    · rw [h1] at hk; cases hk
    · have := hs.each _ (List.getElem_mem hi)
      exact ⟨i, hi, h2, h3, this.len, this.rise⟩
  have hsus := fSuspects_pc s hs down up hd hu
  generalize hl : susV s down up = l at hsus
  have hlm : (l.map encS).length = l.length := List.length_map ..
  refine fn_soundX (mt := mts) tab_fits tab_mixed Tryz.func27 (by rfl) (by kernel_rfl) (by kernel_rfl) Tryz.results27 (Nat.le_of_ble_eq_true (by kernel_rfl)) ?_
  conv => whnf
  repeat' (first | ((first | refine Split.mk (fun h => ?_) (fun h => ?_) | refine CondG.mk (fun h => ?_) (fun h => ?_)) <;> (try simp only [decide_eq_true_eq, decide_eq_false_iff_not, Bool.not_eq_true', Bool.not_eq_false', beq_iff_eq, beq_eq_false_iff_ne, bne_iff_ne, bne_eq_false_iff_eq] at h) <;> (first | (exfalso; first | omega | exact h trivial) | (conv => whnf))) | (refine CallX.mk _ _ (by first | exact hsus) ?_; conv => whnf) | (refine CallG.mk _ _ (by first | exact hsus) ?_; conv => whnf) | (refine Ask.mk (by first | omega | (unfold roomOK; simp [cutRows]; done) | (unfold roomOK; simp [cutRows]; omega) | (simp [cutRows]; done) | (simp [cutRows]; omega)) ?_; conv => whnf) | (refine AppG.mk (by first | omega | (unfold roomOK; simp [cutRows]; done) | (unfold roomOK; simp [cutRows]; omega) | (simp [cutRows]; done) | (simp [cutRows]; omega)) ?_; conv => whnf) | (refine SliceG.fr ?_; conv => whnf) | (refine BuildG.fr ?_; conv => whnf) | (refine idx_at _ (by with_reducible rfl) (by first | assumption | omega) ?_; conv => whnf) | ((with_reducible refine row_map (by first | assumption | omega) ?_); conv => whnf) | ((with_reducible refine row_set (by first | assumption | omega | (simp only [List.length_set]; omega) | (simp; omega)) ?_); conv => whnf) | fail)
  · have h14 : 14 < l.length := by omega
    have he : explE s l down = 12 := by unfold explE; rw [if_pos h14]
    have hv : explV s l down = [] := by unfold explV; rw [he, if_neg (by decide)]
    rw [he, hv]
    exact FinX.mk _ _ (.nil rfl rfl) (.mk ⟨rfl, rfl⟩)
  have h14 : l.length ≤ 14 := by omega
  refine loop_for (down.length) [.sl 9 101 1] [0, 8, 9, 30, 31, 32] (fun k (_ : Unit) => [(32, .c (.int .i64 (k : Int)))]) (fun k (_ : Unit) => [(0, .row 101 1 ((needL s l (down.take k)).map encU))]) (fun k (_ : Unit) => True) (()) ?_
  conv => whnf
  refine ⟨(by first | rfl | (simp; done) | (simp; rfl)), (by trivial), ?_, ?_⟩
  · intro k _ hk _
    obtain ⟨i, hi, h2, h3, h4, h5⟩ := hat _ (hd.has _ (List.getElem_mem hk))
    have hN := needL_len s l (down.take k)
    have htl : (down.take k).length = k := by rw [List.length_take]; omega
    have hNm : ((needL s l (down.take k)).map encU).length = (needL s l (down.take k)).length := List.length_map ..
    conv => whnf
    repeat' (first | ((first | refine Split.mk (fun h => ?_) (fun h => ?_) | refine CondG.mk (fun h => ?_) (fun h => ?_)) <;> (try simp only [decide_eq_true_eq, decide_eq_false_iff_not, Bool.not_eq_true', Bool.not_eq_false', beq_iff_eq, beq_eq_false_iff_ne, bne_iff_ne, bne_eq_false_iff_eq] at h) <;> (first | (exfalso; first | omega | exact h trivial) | (conv => whnf))) | (refine Ask.mk (by first | omega | (unfold roomOK; simp [cutRows]; done) | (unfold roomOK; simp [cutRows]; omega) | (simp [cutRows]; done) | (simp [cutRows]; omega)) ?_; conv => whnf) | (refine AppG.mk (by first | omega | (unfold roomOK; simp [cutRows]; done) | (unfold roomOK; simp [cutRows]; omega) | (simp [cutRows]; done) | (simp [cutRows]; omega)) ?_; conv => whnf) | (refine SliceG.fr ?_; conv => whnf) | (refine BuildG.fr ?_; conv => whnf) | (refine idx_at _ (by with_reducible rfl) (by first | assumption | omega) ?_; conv => whnf) | ((with_reducible refine row_map (by first | assumption | omega) ?_); conv => whnf) | ((with_reducible refine row_set (by first | assumption | omega | (simp only [List.length_set]; omega) | (simp; omega)) ?_); conv => whnf) | fail)
    refine loop_for (l.length) [] [0, 8, 9, 11, 12, 30, 31, 32, 36, 37, 38] (fun j (_ : Unit) => [(12, .c (.int .u64 ((bitN (fun x => decide (x ∈ (svG s down[k]).els)) l j : Nat) : Int))), (38, .c (.int .i64 (j : Int)))]) (fun j (_ : Unit) => []) (fun j (_ : Unit) => True) (()) ?_
    conv => whnf
    refine ⟨(by first | rfl | (simp; done) | (simp; rfl)), (by trivial), ?_, ?_⟩
    · intro j _ hj _
      have b1 := bitN_lt (fun x => decide (x ∈ (svG s down[k]).els)) l j
      have b2 := pow14 (k := j) (by omega)
      have e1 : bitN (fun x => decide (x ∈ (svG s down[k]).els)) l (j + 1) = if l[j] ∈ s[i].els then bitN (fun x => decide (x ∈ (svG s down[k]).els)) l j ||| 2 ^ j else bitN (fun x => decide (x ∈ (svG s down[k]).els)) l j := by
        rw [bitN, List.getD_eq_getElem?_getD, List.getElem?_eq_getElem hj, ← h3]; simp
      conv => whnf
      repeat' (first | ((first | refine Split.mk (fun h => ?_) (fun h => ?_) | refine CondG.mk (fun h => ?_) (fun h => ?_)) <;> (try simp only [decide_eq_true_eq, decide_eq_false_iff_not, Bool.not_eq_true', Bool.not_eq_false', beq_iff_eq, beq_eq_false_iff_ne, bne_iff_ne, bne_eq_false_iff_eq] at h) <;> (first | (exfalso; first | omega | exact h trivial) | (conv => whnf))) | (refine CallX.mk _ _ (by first | exact fFind_pc s hs.rise (by omega) _ | exact fHas_pc h5 (by omega) _) ?_; conv => whnf) | (refine CallG.mk _ _ (by first | exact fFind_pc s hs.rise (by omega) _ | exact fHas_pc h5 (by omega) _) ?_; conv => whnf) | (refine Ask.mk (by first | omega | (unfold roomOK; simp [cutRows]; done) | (unfold roomOK; simp [cutRows]; omega) | (simp [cutRows]; done) | (simp [cutRows]; omega)) ?_; conv => whnf) | (refine AppG.mk (by first | omega | (unfold roomOK; simp [cutRows]; done) | (unfold roomOK; simp [cutRows]; omega) | (simp [cutRows]; done) | (simp [cutRows]; omega)) ?_; conv => whnf) | (refine SliceG.fr ?_; conv => whnf) | (refine BuildG.fr ?_; conv => whnf) | (refine idx_at _ (by with_reducible rfl) (by first | assumption | omega) ?_; conv => whnf) | ((with_reducible refine row_map (by first | assumption | omega) ?_); conv => whnf) | ((with_reducible refine row_set (by first | assumption | omega | (simp only [List.length_set]; omega) | (simp; omega)) ?_); conv => whnf) | ((rw [h2]; refine idx_map i hi rfl ?_); conv => whnf) | fail)
      all_goals rename_i h
      · exact count_next () hj (by rw [wrap_succ hj (by omega), shl1 (by omega), bits_or (by omega) (by omega), e1, if_pos h]; rfl) trivial
      · exact count_next () hj (by rw [wrap_succ hj (by omega), e1, if_neg h]; rfl) trivial
    · intro _ _
      have hT := needL_succ s l down hk
      have hO : bitN (fun x => decide (x ∈ (svG s down[k]).els)) l l.length = needO s l down[k] := rfl
      rw [hO]
      conv => whnf
      repeat' (first | ((first | refine Split.mk (fun h => ?_) (fun h => ?_) | refine CondG.mk (fun h => ?_) (fun h => ?_)) <;> (try simp only [decide_eq_true_eq, decide_eq_false_iff_not, Bool.not_eq_true', Bool.not_eq_false', beq_iff_eq, beq_eq_false_iff_ne, bne_iff_ne, bne_eq_false_iff_eq] at h) <;> (first | (exfalso; first | omega | exact h trivial) | (conv => whnf))) | (refine Ask.mk (by first | omega | (unfold roomOK; simp [cutRows]; done) | (unfold roomOK; simp [cutRows]; omega) | (simp [cutRows]; done) | (simp [cutRows]; omega)) ?_; conv => whnf) | (refine AppG.mk (by first | omega | (unfold roomOK; simp [cutRows]; done) | (unfold roomOK; simp [cutRows]; omega) | (simp [cutRows]; done) | (simp [cutRows]; omega)) ?_; conv => whnf) | (refine SliceG.fr ?_; conv => whnf) | (refine BuildG.fr ?_; conv => whnf) | (refine idx_at _ (by with_reducible rfl) (by first | assumption | omega) ?_; conv => whnf) | ((with_reducible refine row_map (by first | assumption | omega) ?_); conv => whnf) | ((with_reducible refine row_set (by first | assumption | omega | (simp only [List.length_set]; omega) | (simp; omega)) ?_); conv => whnf) | fail)
      all_goals rename_i h
      · exact count_next () hk (by rw [wrap_succ hk (by omega), hT, if_pos (by omega), List.map_append]; rfl) trivial
      · exact count_next () hk (by rw [wrap_succ hk (by omega), hT, if_neg (by omega), List.append_nil]; rfl) trivial
  · intro _ _
    rw [List.take_length]
    have hnl := needL_lt (s := s) (down := down) h14
    have hnn := needL_len s l down
    have hV : bestL s l down = bestK (needL s l down) (2 ^ l.length) := rfl
    generalize needL s l down = ns at hnl hnn hV
    have hp := pow14 h14
    have hnm : (ns.map encU).length = ns.length := List.length_map ..
    conv => whnf
    repeat' (first | ((first | refine Split.mk (fun h => ?_) (fun h => ?_) | refine CondG.mk (fun h => ?_) (fun h => ?_)) <;> (try simp only [decide_eq_true_eq, decide_eq_false_iff_not, Bool.not_eq_true', Bool.not_eq_false', beq_iff_eq, beq_eq_false_iff_ne, bne_iff_ne, bne_eq_false_iff_eq] at h) <;> (first | (exfalso; first | omega | exact h trivial) | (conv => whnf))) | (refine Ask.mk (by first | omega | (unfold roomOK; simp [cutRows]; done) | (unfold roomOK; simp [cutRows]; omega) | (simp [cutRows]; done) | (simp [cutRows]; omega)) ?_; conv => whnf) | (refine AppG.mk (by first | omega | (unfold roomOK; simp [cutRows]; done) | (unfold roomOK; simp [cutRows]; omega) | (simp [cutRows]; done) | (simp [cutRows]; omega)) ?_; conv => whnf) | (refine SliceG.fr ?_; conv => whnf) | (refine BuildG.fr ?_; conv => whnf) | (refine idx_at _ (by with_reducible rfl) (by first | assumption | omega) ?_; conv => whnf) | ((with_reducible refine row_map (by first | assumption | omega) ?_); conv => whnf) | ((with_reducible refine row_set (by first | assumption | omega | (simp only [List.length_set]; omega) | (simp; omega)) ?_); conv => whnf) | fail)
    rw [hlm, shl1 h14]
    refine loop_count (2 ^ l.length) [.sl 15 101 1] [8, 9, 15, 66, 67] (fun k (_ : Unit) => ⟨[(8, .c (.lst 1 (l.map encS))), (9, .c (.row 0)), (15, .c (.row 1)), (66, .c (.int .u64 ((2 ^ l.length : Nat) : Int))), (67, .c (.int .u64 ((k : Nat) : Int)))], [(0, ndO k (ns.map encU)), (1, .row 101 1 ((bestK ns k).map encU))], 2⟩) (fun k (_ : Unit) => True) (()) ?_ ?_ ?_
    · conv => whnf
      exact ⟨rfl, trivial⟩
    · intro k _ hk _
      obtain ⟨c1, c2⟩ := bestK_lt ns k
      have hbs : bestK ns (k + 1) = if goodM ns k then withB (beforeB (bestK ns k) k) k else bestK ns k := rfl
      have hg : goodM ns k = !(ns.any fun n => decide (n &&& k = 0)) := rfl
      have hbm : ((bestK ns k).map encU).length = (bestK ns k).length := List.length_map ..
      have hw : IntKind.u64.wrap ((k : Int) + 1) = ((k + 1 : Nat) : Int) := u64N (n := k + 1) (by omega)
      rcases Nat.eq_zero_or_pos k with hk0 | hk0
      · have hb : bestK ns k = [] := by rw [hk0]; rfl
        have hn0 : ndO k (ns.map encU) = .row 101 1 (ns.map encU) := by rw [hk0]; rfl
        rw [hb] at hbs hbm
        rw [hn0, hb]
        conv => whnf
        repeat' (first | ((first | refine Split.mk (fun h => ?_) (fun h => ?_) | refine CondG.mk (fun h => ?_) (fun h => ?_)) <;> (try simp only [decide_eq_true_eq, decide_eq_false_iff_not, Bool.not_eq_true', Bool.not_eq_false', beq_iff_eq, beq_eq_false_iff_ne, bne_iff_ne, bne_eq_false_iff_eq] at h) <;> (first | (exfalso; first | omega | exact h trivial) | (conv => whnf))) | (refine CallX.mk _ _ (by first | exact ixUmC_pc k 53 (fun n => decide (n &&& k = 0)) ns (by omega) (fun n hn => fExp1_pc k (by omega) n (hnl n hn)) | exact fsize_pc k (by omega)) ?_; conv => whnf) | (refine CallG.mk _ _ (by first | exact ixUmC_pc k 53 (fun n => decide (n &&& k = 0)) ns (by omega) (fun n hn => fExp1_pc k (by omega) n (hnl n hn)) | exact fsize_pc k (by omega)) ?_; conv => whnf) | (refine Ask.mk (by first | omega | (unfold roomOK; simp [cutRows]; done) | (unfold roomOK; simp [cutRows]; omega) | (simp [cutRows]; done) | (simp [cutRows]; omega)) ?_; conv => whnf) | (refine AppG.mk (by first | omega | (unfold roomOK; simp [cutRows]; done) | (unfold roomOK; simp [cutRows]; omega) | (simp [cutRows]; done) | (simp [cutRows]; omega)) ?_; conv => whnf) | (refine SliceG.fr ?_; conv => whnf) | (refine BuildG.fr ?_; conv => whnf) | (refine idx_at _ (by with_reducible rfl) (by first | assumption | omega) ?_; conv => whnf) | ((with_reducible refine row_map (by first | assumption | omega) ?_); conv => whnf) | ((with_reducible refine row_set (by first | assumption | omega | (simp only [List.length_set]; omega) | (simp; omega)) ?_); conv => whnf) | fail)
        all_goals first | (exfalso; rename_i h; simp at h; done) | skip
        · exact count_next () hk (by rw [hw, hbs, hg, if_neg (by simp_all)]; rfl) trivial
        · exact count_next () hk (by rw [hw, hbs, hg, if_pos (by simp_all)]; rfl) trivial
      rw [ndO_pos (by omega)]
      rcases hb : bestK ns k with _ | ⟨x, r⟩
      · rw [hb] at hbs hbm
        conv => whnf
        repeat' (first | ((first | refine Split.mk (fun h => ?_) (fun h => ?_) | refine CondG.mk (fun h => ?_) (fun h => ?_)) <;> (try simp only [decide_eq_true_eq, decide_eq_false_iff_not, Bool.not_eq_true', Bool.not_eq_false', beq_iff_eq, beq_eq_false_iff_ne, bne_iff_ne, bne_eq_false_iff_eq] at h) <;> (first | (exfalso; first | omega | exact h trivial) | (conv => whnf))) | (refine CallX.mk _ _ (by first | exact ixUmC_pc k 53 (fun n => decide (n &&& k = 0)) ns (by omega) (fun n hn => fExp1_pc k (by omega) n (hnl n hn)) | exact fsize_pc k (by omega)) ?_; conv => whnf) | (refine CallG.mk _ _ (by first | exact ixUmC_pc k 53 (fun n => decide (n &&& k = 0)) ns (by omega) (fun n hn => fExp1_pc k (by omega) n (hnl n hn)) | exact fsize_pc k (by omega)) ?_; conv => whnf) | (refine Ask.mk (by first | omega | (unfold roomOK; simp [cutRows]; done) | (unfold roomOK; simp [cutRows]; omega) | (simp [cutRows]; done) | (simp [cutRows]; omega)) ?_; conv => whnf) | (refine AppG.mk (by first | omega | (unfold roomOK; simp [cutRows]; done) | (unfold roomOK; simp [cutRows]; omega) | (simp [cutRows]; done) | (simp [cutRows]; omega)) ?_; conv => whnf) | (refine SliceG.fr ?_; conv => whnf) | (refine BuildG.fr ?_; conv => whnf) | (refine idx_at _ (by with_reducible rfl) (by first | assumption | omega) ?_; conv => whnf) | ((with_reducible refine row_map (by first | assumption | omega) ?_); conv => whnf) | ((with_reducible refine row_set (by first | assumption | omega | (simp only [List.length_set]; omega) | (simp; omega)) ?_); conv => whnf) | fail)
        all_goals first | (exfalso; rename_i h; simp at h; done) | skip
        · exact count_next () hk (by rw [hw, hbs, hg, if_neg (by simp_all)]; rfl) trivial
        · exact count_next () hk (by rw [hw, hbs, hg, if_pos (by simp_all)]; rfl) trivial
      · rw [hb] at hbs hbm c1 c2
        have hx := c1 x (by simp)
        have hr : r.length + 1 ≤ 16384 := by simp only [List.length_cons] at c2; omega
        have hX : goodM ns k = true → bestK ns (k + 1) = if popc k < popc x then [k] else if popc k = popc x then (x :: r) ++ [k] else x :: r := by
          intro hgd
          rw [hbs, if_pos hgd]
          unfold beforeB
          by_cases q : popc k < popc x <;> simp [q, withB]
        have hbm2 : ((x :: r).map encU).length = r.length + 1 := by simp
        conv => whnf
        repeat' (first | ((first | refine Split.mk (fun h => ?_) (fun h => ?_) | refine CondG.mk (fun h => ?_) (fun h => ?_)) <;> (try simp only [decide_eq_true_eq, decide_eq_false_iff_not, Bool.not_eq_true', Bool.not_eq_false', beq_iff_eq, beq_eq_false_iff_ne, bne_iff_ne, bne_eq_false_iff_eq] at h) <;> (first | (exfalso; first | omega | exact h trivial) | (conv => whnf))) | (refine CallX.mk _ _ (by first | exact ixUmC_pc k 53 (fun n => decide (n &&& k = 0)) ns (by omega) (fun n hn => fExp1_pc k (by omega) n (hnl n hn)) | exact fsize_pc k (by omega) | exact fsize_pc x (by omega)) ?_; conv => whnf) | (refine CallG.mk _ _ (by first | exact ixUmC_pc k 53 (fun n => decide (n &&& k = 0)) ns (by omega) (fun n hn => fExp1_pc k (by omega) n (hnl n hn)) | exact fsize_pc k (by omega) | exact fsize_pc x (by omega)) ?_; conv => whnf) | (refine Ask.mk (by first | omega | (unfold roomOK; simp [cutRows]; done) | (unfold roomOK; simp [cutRows]; omega) | (simp [cutRows]; done) | (simp [cutRows]; omega)) ?_; conv => whnf) | (refine AppG.mk (by first | omega | (unfold roomOK; simp [cutRows]; done) | (unfold roomOK; simp [cutRows]; omega) | (simp [cutRows]; done) | (simp [cutRows]; omega)) ?_; conv => whnf) | (refine SliceG.fr ?_; conv => whnf) | (refine BuildG.fr ?_; conv => whnf) | (refine idx_at _ (by with_reducible rfl) (by first | assumption | omega) ?_; conv => whnf) | ((with_reducible refine row_map (by first | assumption | omega) ?_); conv => whnf) | ((with_reducible refine row_set (by first | assumption | omega | (simp only [List.length_set]; omega) | (simp; omega)) ?_); conv => whnf) | ((refine row_at 0 rfl (by simp) ?_); conv => whnf) | ((refine .mk (room_small (Nat.le_trans (Nat.add_le_add (show _ ≤ 16384 by rw [hbm2]; exact hr) (show _ ≤ 1 from Nat.le_refl _)) (by decide)) (by decide)) ?_); conv => whnf) | fail)
        · have ha : (ns.any fun n => decide (n &&& k = 0)) = true := by assumption
          have hgd : ¬ goodM ns k = true := by rw [hg, ha]; decide
          exact count_next () hk (by rw [hw, hbs, if_neg hgd]; rfl) trivial
        all_goals
          have ha : (ns.any fun n => decide (n &&& k = 0)) = false := by assumption
          have hgd : goodM ns k = true := by rw [hg, ha]; rfl
          have hX := hX hgd
        · have q : popc k < popc x := by omega
          rw [if_pos q] at hX
          exact count_next () hk (by rw [hw, hX]; rfl) trivial
        · have q : popc k = popc x := by omega
          rw [if_neg (by omega), if_pos q] at hX
          exact count_next () hk (by rw [hw, hX, List.map_append]; rfl) trivial
        · have q : popc k ≠ popc x := by omega
          rw [if_neg (by omega), if_neg q] at hX
          exact count_next () hk (by rw [hw, hX]; rfl) trivial
    · intro _ _
      rw [ndO_pos (by have := Nat.two_pow_pos l.length; omega), ← hV]
      have hbl : ∀ m ∈ bestL s l down, m < 16384 := by
        intro m hm
        have := (bestK_lt ns (2 ^ l.length)).1 m (by rw [← hV]; exact hm)
        omega
      have hbn : (bestL s l down).length ≤ 16384 := by
        have := (bestK_lt ns (2 ^ l.length)).2
        rw [hV]; omega
      have hbm : ((bestL s l down).map encU).length = (bestL s l down).length := List.length_map ..
      have hE : explE s l down = if 1000 < (bestL s l down).length then 2 else 0 := by unfold explE; rw [if_neg (by omega)]
      have hVV : explV s l down = if explE s l down = 0 then (sortM (bestL s l down)).map (pickM l) else [] := rfl
      have hsl2 := sortM_len hbl
      conv => whnf
      repeat' (first | ((first | refine Split.mk (fun h => ?_) (fun h => ?_) | refine CondG.mk (fun h => ?_) (fun h => ?_)) <;> (try simp only [decide_eq_true_eq, decide_eq_false_iff_not, Bool.not_eq_true', Bool.not_eq_false', beq_iff_eq, beq_eq_false_iff_ne, bne_iff_ne, bne_eq_false_iff_eq] at h) <;> (first | (exfalso; first | omega | exact h trivial) | (conv => whnf))) | (refine CallX.mk _ _ (by first | exact sortU_pc _ hbl (by omega)) ?_; conv => whnf) | (refine CallG.mk _ _ (by first | exact sortU_pc _ hbl (by omega)) ?_; conv => whnf) | (refine Ask.mk (by first | omega | (unfold roomOK; simp [cutRows]; done) | (unfold roomOK; simp [cutRows]; omega) | (simp [cutRows]; done) | (simp [cutRows]; omega)) ?_; conv => whnf) | (refine AppG.mk (by first | omega | (unfold roomOK; simp [cutRows]; done) | (unfold roomOK; simp [cutRows]; omega) | (simp [cutRows]; done) | (simp [cutRows]; omega)) ?_; conv => whnf) | (refine SliceG.fr ?_; conv => whnf) | (refine BuildG.fr ?_; conv => whnf) | (refine idx_at _ (by with_reducible rfl) (by first | assumption | omega) ?_; conv => whnf) | ((with_reducible refine row_map (by first | assumption | omega) ?_); conv => whnf) | ((with_reducible refine row_set (by first | assumption | omega | (simp only [List.length_set]; omega) | (simp; omega)) ?_); conv => whnf) | fail)
      · have h5 : 1000 < (bestL s l down).length := by omega
        rw [if_pos h5] at hE
        rw [hE, if_neg (by decide)] at hVV
        rw [hE, hVV]
        exact FinX.mk _ _ (.nil rfl rfl) (.mk ⟨rfl, rfl⟩)
      · have h5 : ¬ 1000 < (bestL s l down).length := by omega
        rw [if_neg h5] at hE
        rw [hE, if_pos rfl] at hVV
        rw [hE, hVV]
        have hms2 : ∀ m ∈ sortM (bestL s l down), m < 16384 := fun m hm => hbl m ((sortM_perm hbl).mem_iff.1 hm)
        generalize sortM (bestL s l down) = ms at hsl2 hms2
        have hms : (ms.map encU).length = ms.length := List.length_map ..
        have hml : ∀ m ∈ ms, m < 16384 := hms2
        refine loop_for (ms.length) [.gn 17 28 9 1] [8, 17, 107, 108, 109] (fun k (ins : List (Value × List (List V))) => [(109, .c (.int .i64 (k : Int)))]) (fun k (ins : List (Value × List (List V))) => [(0, .grid 28 9 1 ins)]) (fun k (ins : List (Value × List (List V))) => ins.map (·.2) = ((ms.take k).map (pickM l)).map (·.map encS)) ([]) ?_
        conv => whnf
        refine ⟨(by first | rfl | (simp; done) | (simp; rfl)), ?_, ?_, ?_⟩
        · rfl
        · intro k ins hk hins
          have hm := hml _ (List.getElem_mem hk)
          have hol : ins.length = k := by have := congrArg List.length hins; simp at this; omega
          conv => whnf
          repeat' (first | ((first | refine Split.mk (fun h => ?_) (fun h => ?_) | refine CondG.mk (fun h => ?_) (fun h => ?_)) <;> (try simp only [decide_eq_true_eq, decide_eq_false_iff_not, Bool.not_eq_true', Bool.not_eq_false', beq_iff_eq, beq_eq_false_iff_ne, bne_iff_ne, bne_eq_false_iff_eq] at h) <;> (first | (exfalso; first | omega | exact h trivial) | (conv => whnf))) | (refine Ask.mk (by first | omega | (unfold roomOK; simp [cutRows]; done) | (unfold roomOK; simp [cutRows]; omega) | (simp [cutRows]; done) | (simp [cutRows]; omega)) ?_; conv => whnf) | (refine AppG.mk (by first | omega | (unfold roomOK; simp [cutRows]; done) | (unfold roomOK; simp [cutRows]; omega) | (simp [cutRows]; done) | (simp [cutRows]; omega)) ?_; conv => whnf) | (refine SliceG.fr ?_; conv => whnf) | (refine BuildG.fr ?_; conv => whnf) | (refine idx_at _ (by with_reducible rfl) (by first | assumption | omega) ?_; conv => whnf) | ((with_reducible refine row_map (by first | assumption | omega) ?_); conv => whnf) | ((with_reducible refine row_set (by first | assumption | omega | (simp only [List.length_set]; omega) | (simp; omega)) ?_); conv => whnf) | ((refine row_at k toN (by omega) ?_); conv => whnf) | fail)
          refine loop_for (l.length) [.sl 20 9 1] [8, 17, 19, 20, 107, 108, 109, 113, 114, 115] (fun j (_ : Unit) => [(115, .c (.int .i64 (j : Int)))]) (fun j (_ : Unit) => [(1, .row 9 1 ((setL l ms[k] j).map encS))]) (fun j (_ : Unit) => True) (()) ?_
          conv => whnf
          refine ⟨(by first | rfl | (simp; done) | (simp; rfl)), (by trivial), ?_, ?_⟩
          · intro j _ hj _
            have hs1 := setL_len l ms[k] j
            have hsm1 : ((setL l ms[k] j).map encS).length = (setL l ms[k] j).length := List.length_map ..
            have hgd : l.getD j ⟨#[]⟩ = l[j] := by simp [List.getD_eq_getElem?_getD, List.getElem?_eq_getElem hj]
            have e1 : setL l ms[k] (j + 1) = if ms[k].testBit j = true then setL l ms[k] j ++ [l[j]] else setL l ms[k] j := by rw [setL, hgd]
            conv => whnf
            repeat' (first | ((first | refine Split.mk (fun h => ?_) (fun h => ?_) | refine CondG.mk (fun h => ?_) (fun h => ?_)) <;> (try simp only [decide_eq_true_eq, decide_eq_false_iff_not, Bool.not_eq_true', Bool.not_eq_false', beq_iff_eq, beq_eq_false_iff_ne, bne_iff_ne, bne_eq_false_iff_eq] at h) <;> (first | (exfalso; first | omega | exact h trivial) | (conv => whnf))) | (refine Ask.mk (by first | omega | (unfold roomOK; simp [cutRows]; done) | (unfold roomOK; simp [cutRows]; omega) | (simp [cutRows]; done) | (simp [cutRows]; omega)) ?_; conv => whnf) | (refine AppG.mk (by first | omega | (unfold roomOK; simp [cutRows]; done) | (unfold roomOK; simp [cutRows]; omega) | (simp [cutRows]; done) | (simp [cutRows]; omega)) ?_; conv => whnf) | (refine SliceG.fr ?_; conv => whnf) | (refine BuildG.fr ?_; conv => whnf) | (refine idx_at _ (by with_reducible rfl) (by first | assumption | omega) ?_; conv => whnf) | ((with_reducible refine row_map (by first | assumption | omega) ?_); conv => whnf) | ((with_reducible refine row_set (by first | assumption | omega | (simp only [List.length_set]; omega) | (simp; omega)) ?_); conv => whnf) | fail)
            · have q := (shbit hm (by omega : j ≤ 14)).1 (by assumption)
              exact count_next () hj (by rw [wrap_succ hj (by omega), e1, if_pos q, List.map_append]; rfl) trivial
            · have q : ¬ ms[k].testBit j = true := fun q => absurd ((shbit hm (by omega : j ≤ 14)).2 q) (by assumption)
              exact count_next () hj (by rw [wrap_succ hj (by omega), e1, if_neg q]; rfl) trivial
          · intro _ _
            have e9 : setL l ms[k] l.length = pickM l ms[k] := rfl
            rw [e9]
            conv => whnf
            refine .mk (fun h => absurd h (by simp)) (fun _ => ?_)
            conv => whnf
            refine .gr ⟨⟨rfl, rfl, rfl⟩, fun c => ?_⟩
            conv => whnf
            refine .mk ⟨⟨by decide, by simp⟩, by unfold roomOK; simp; omega⟩ ?_
            conv => whnf
            refine count_next (ins ++ [(c, (pickM l ms[k]).map encS)]) hk (by rw [wrap_succ hk (by omega)]; rfl) ?_
            rw [List.map_append, hins, List.take_succ_eq_append_getElem hk, List.map_append, List.map_append]; rfl
        · intro ins hins
          rw [List.take_length] at hins
          conv => whnf
          refine .mk (fun h => absurd h (by simp)) (fun _ => ?_)
          conv => whnf
          exact FinX.mk _ _ (.grd ins rfl hins rfl) (.mk ⟨rfl, rfl⟩)
end Go.Proofs.YtjflmenfinohcaaGreat

/- Repairs and Unexplained: their results are rows. -/
namespace Go.Proofs.YtjflmenfinohcaaGreat
set_option linter.unusedVariables false
set_option linter.unusedSimpArgs false
open Abs

set_option maxRecDepth 100000 in
set_option maxHeartbeats 4000000 in
theorem repairsR_pc (s : List Sv) (hs : SvOk s) (b : List ByteArray) (hb : elsFault b = 0) (h0 : setErr s b = 0) :
    PCp 8 [.c (.lst 3 (s.map encSv)), .c (.lst 1 (b.map encS))] [] (.tup [.c (.row 0), .c (.int .i64 0)]) [.row 9 1 ((repV s b.length b).map encS)] := by
  obtain ⟨hbr, hbl, _⟩ := elsFault_ok hb
  have hsl := hs.len
  have hsm : (s.map encSv).length = s.length := List.length_map ..
  have hx : ∀ x ∈ s, x.els.length ≤ 1000000 := fun x hx => Nat.le_trans (hs.each x hx).len (by decide)
  refine fn_sound (mt := mts) tab_fits tab_mixed Tryz.func8 (by rfl) (by kernel_rfl) (by kernel_rfl) Tryz.results8 (Nat.le_of_ble_eq_true (by kernel_rfl)) ?_
  conv => whnf
  repeat' (first | ((first | refine Split.mk (fun h => ?_) (fun h => ?_) | refine CondG.mk (fun h => ?_) (fun h => ?_)) <;> (try simp only [decide_eq_true_eq, decide_eq_false_iff_not, Bool.not_eq_true', Bool.not_eq_false', beq_iff_eq, beq_eq_false_iff_ne, bne_iff_ne, bne_eq_false_iff_eq] at h) <;> (first | (exfalso; first | omega | exact h trivial) | (conv => whnf))) | (refine CallX.mk _ _ (by first | exact fSetFault_pc s hx b (by omega) | exact cloneS_pc b (by omega)) ?_; conv => whnf) | (refine CallG.mk _ _ (by first | exact fSetFault_pc s hx b (by omega) | exact cloneS_pc b (by omega)) ?_; conv => whnf) | (refine Ask.mk (by first | omega | (unfold roomOK; simp [cutRows]; done) | (unfold roomOK; simp [cutRows]; omega) | (simp [cutRows]; done) | (simp [cutRows]; omega)) ?_; conv => whnf) | (refine AppG.mk (by first | omega | (unfold roomOK; simp [cutRows]; done) | (unfold roomOK; simp [cutRows]; omega) | (simp [cutRows]; done) | (simp [cutRows]; omega)) ?_; conv => whnf) | (refine SliceG.fr ?_; conv => whnf) | (refine BuildG.fr ?_; conv => whnf) | (refine idx_at _ (by with_reducible rfl) (by first | assumption | omega) ?_; conv => whnf) | ((with_reducible refine row_map (by first | assumption | omega) ?_); conv => whnf) | ((with_reducible refine row_set (by first | assumption | omega | (simp only [List.length_set]; omega) | (simp; omega)) ?_); conv => whnf) | fail)
  refine loop_while2 (fun (left : List ByteArray) (o : List ByteArray) => left.length) [.sl 8 9 1] [0, 7, 8] (fun (left : List ByteArray) (o : List ByteArray) => []) (fun (left : List ByteArray) (o : List ByteArray) => [(0, .row 9 1 (left.map encS)), (1, .row 9 1 (o.map encS))]) (fun (left : List ByteArray) (o : List ByteArray) => Rise id left ∧ o.length + left.length ≤ 100 ∧ o ++ repV s left.length left = repV s b.length b) (b) ([]) ?_
  conv => whnf
  refine ⟨(by first | rfl | (simp; done) | (simp; rfl)), ?_, ?_⟩
  · exact ⟨hbr, by simp; omega, rfl⟩
  · intro left o ⟨g1, g2, g3⟩
    have hlm : (left.map encS).length = left.length := List.length_map ..
    have hom : (o.map encS).length = o.length := List.length_map ..
    conv => whnf
    repeat' (first | ((first | refine Split.mk (fun h => ?_) (fun h => ?_) | refine CondG.mk (fun h => ?_) (fun h => ?_)) <;> (try simp only [decide_eq_true_eq, decide_eq_false_iff_not, Bool.not_eq_true', Bool.not_eq_false', beq_iff_eq, beq_eq_false_iff_ne, bne_iff_ne, bne_eq_false_iff_eq] at h) <;> (first | (exfalso; first | omega | exact h trivial) | (conv => whnf))) | (refine Ask.mk (by first | omega | (unfold roomOK; simp [cutRows]; done) | (unfold roomOK; simp [cutRows]; omega) | (simp [cutRows]; done) | (simp [cutRows]; omega)) ?_; conv => whnf) | (refine AppG.mk (by first | omega | (unfold roomOK; simp [cutRows]; done) | (unfold roomOK; simp [cutRows]; omega) | (simp [cutRows]; done) | (simp [cutRows]; omega)) ?_; conv => whnf) | (refine SliceG.fr ?_; conv => whnf) | (refine BuildG.fr ?_; conv => whnf) | (refine idx_at _ (by with_reducible rfl) (by first | assumption | omega) ?_; conv => whnf) | ((with_reducible refine row_map (by first | assumption | omega) ?_); conv => whnf) | ((with_reducible refine row_set (by first | assumption | omega | (simp only [List.length_set]; omega) | (simp; omega)) ?_); conv => whnf) | fail)
    · refine loop_for (s.length) [] [0, 7, 8, 9, 28, 29, 30] (fun k (_ : Unit) => [(30, .c (.int .i64 (k : Int)))]) (fun k (_ : Unit) => [(2, smO ekB evN (gm (s.take k) left))]) (fun k (_ : Unit) => True) (()) ?_
      conv => whnf
      refine ⟨(by first | rfl | (simp; done) | (simp; rfl)), (by trivial), ?_, ?_⟩
      · intro k _ hk _
        obtain ⟨h1, h2, h3, h4, h5, h6⟩ := hs.each _ (List.getElem_mem hk)
        conv => whnf
        repeat' (first | ((first | refine Split.mk (fun h => ?_) (fun h => ?_) | refine CondG.mk (fun h => ?_) (fun h => ?_)) <;> (try simp only [decide_eq_true_eq, decide_eq_false_iff_not, Bool.not_eq_true', Bool.not_eq_false', beq_iff_eq, beq_eq_false_iff_ne, bne_iff_ne, bne_eq_false_iff_eq] at h) <;> (first | (exfalso; first | omega | exact h trivial) | (conv => whnf))) | (refine CallX.mk _ _ (by first | exact cloneSr_pc left (by omega) | exact delfS_pc s[k].key (s[k].els.map encS) s[k].cust 23 (fun e => !decide (e ∈ s[k].els)) left (by omega) (fun e _ => fRep1_pc s[k] h2 (by omega) e)) ?_; conv => whnf) | (refine CallG.mk _ _ (by first | exact cloneSr_pc left (by omega) | exact delfS_pc s[k].key (s[k].els.map encS) s[k].cust 23 (fun e => !decide (e ∈ s[k].els)) left (by omega) (fun e _ => fRep1_pc s[k] h2 (by omega) e)) ?_; conv => whnf) | (refine Ask.mk (by first | omega | (unfold roomOK; simp [cutRows]; done) | (unfold roomOK; simp [cutRows]; omega) | (simp [cutRows]; done) | (simp [cutRows]; omega)) ?_; conv => whnf) | (refine AppG.mk (by first | omega | (unfold roomOK; simp [cutRows]; done) | (unfold roomOK; simp [cutRows]; omega) | (simp [cutRows]; done) | (simp [cutRows]; omega)) ?_; conv => whnf) | (refine SliceG.fr ?_; conv => whnf) | (refine BuildG.fr ?_; conv => whnf) | (refine idx_at _ (by with_reducible rfl) (by first | assumption | omega) ?_; conv => whnf) | ((with_reducible refine row_map (by first | assumption | omega) ?_); conv => whnf) | ((with_reducible refine row_set (by first | assumption | omega | (simp only [List.length_set]; omega) | (simp; omega)) ?_); conv => whnf) | fail)
        · have hone : (fl left s[k]).length = 1 := by
            rename_i h; unfold fl; simp at h; omega
          obtain ⟨e, he⟩ := List.length_eq_one_iff.1 hone
          rw [fl_del, he]
          refine row_at 0 rfl (by simp) ?_
          conv => whnf
          repeat' (first | ((first | refine Split.mk (fun h => ?_) (fun h => ?_) | refine CondG.mk (fun h => ?_) (fun h => ?_)) <;> (try simp only [decide_eq_true_eq, decide_eq_false_iff_not, Bool.not_eq_true', Bool.not_eq_false', beq_iff_eq, beq_eq_false_iff_ne, bne_iff_ne, bne_eq_false_iff_eq] at h) <;> (first | (exfalso; first | omega | exact h trivial) | (conv => whnf))) | (refine Ask.mk (by first | omega | (unfold roomOK; simp [cutRows]; done) | (unfold roomOK; simp [cutRows]; omega) | (simp [cutRows]; done) | (simp [cutRows]; omega)) ?_; conv => whnf) | (refine AppG.mk (by first | omega | (unfold roomOK; simp [cutRows]; done) | (unfold roomOK; simp [cutRows]; omega) | (simp [cutRows]; done) | (simp [cutRows]; omega)) ?_; conv => whnf) | (refine SliceG.fr ?_; conv => whnf) | (refine BuildG.fr ?_; conv => whnf) | (refine idx_at _ (by with_reducible rfl) (by first | assumption | omega) ?_; conv => whnf) | ((with_reducible refine row_map (by first | assumption | omega) ?_); conv => whnf) | ((with_reducible refine row_set (by first | assumption | omega | (simp only [List.length_set]; omega) | (simp; omega)) ?_); conv => whnf) | ((with_reducible refine sm_look (ek := ekB) (ev := evN) keyStr _ _ ((0 : Int)) ?_ ?_); exact rfl; conv => whnf) | ((with_reducible refine sm_upd (ek := ekB) (ev := evN) keyStr _ _ _ ?_); conv => whnf) | ((with_reducible refine sm_del (ek := ekB) (ev := evN) keyStr _ _ ?_); conv => whnf) | ((with_reducible refine sm_entry (ek := ekB) (ev := evN) keyStr _ _ ((0 : Int)) ?_ ?_); exact rfl; conv => whnf) | fail)
          exact count_next () hk (by rw [wrap_succ hk (by omega), gm_succ s left hk]; unfold gmS; rw [he]; rfl) trivial
        · have hone : ¬ (fl left s[k]).length = 1 := by
            rename_i h; unfold fl; simp at h; omega
          have hgs : gm (s.take (k + 1)) left = gm (s.take k) left := by
            rw [gm_succ s left hk]; unfold gmS
            split
            · rename_i e he; rw [he] at hone; simp at hone
            · rfl
          exact count_next () hk (by rw [wrap_succ hk (by omega), hgs]; rfl) trivial
      · intro _ _
        rw [List.take_length]
        conv => whnf
        repeat' (first | ((first | refine Split.mk (fun h => ?_) (fun h => ?_) | refine CondG.mk (fun h => ?_) (fun h => ?_)) <;> (try simp only [decide_eq_true_eq, decide_eq_false_iff_not, Bool.not_eq_true', Bool.not_eq_false', beq_iff_eq, beq_eq_false_iff_ne, bne_iff_ne, bne_eq_false_iff_eq] at h) <;> (first | (exfalso; first | omega | exact h trivial) | (conv => whnf))) | (refine Ask.mk (by first | omega | (unfold roomOK; simp [cutRows]; done) | (unfold roomOK; simp [cutRows]; omega) | (simp [cutRows]; done) | (simp [cutRows]; omega)) ?_; conv => whnf) | (refine AppG.mk (by first | omega | (unfold roomOK; simp [cutRows]; done) | (unfold roomOK; simp [cutRows]; omega) | (simp [cutRows]; done) | (simp [cutRows]; omega)) ?_; conv => whnf) | (refine SliceG.fr ?_; conv => whnf) | (refine BuildG.fr ?_; conv => whnf) | (refine idx_at _ (by with_reducible rfl) (by first | assumption | omega) ?_; conv => whnf) | ((with_reducible refine row_map (by first | assumption | omega) ?_); conv => whnf) | ((with_reducible refine row_set (by first | assumption | omega | (simp only [List.length_set]; omega) | (simp; omega)) ?_); conv => whnf) | fail)
        have hlp : 0 < left.length := by omega
        refine loop_for (left.length) [] [0, 7, 8, 9, 13, 50, 51, 52] (fun k (_ : Unit) => [(13, .c (.int .i64 ((bestAt (gainAt s left) k : Nat) : Int))), (52, .c (.int .i64 (k : Int)))]) (fun k (_ : Unit) => []) (fun k (_ : Unit) => True) (()) ?_
        conv => whnf
        refine ⟨(by first | rfl | (simp; done) | (simp; rfl)), (by trivial), ?_, ?_⟩
        · intro k _ hk _
          have hbk : bestAt (gainAt s left) k < left.length := by
            cases k with
            | zero => exact hlp
            | succ k => have := bestAt_lt (gainAt s left) (k + 1) (by omega); omega
          have hga : ∀ i (hi : i < left.length), (((gm s left).get left[i]).getD 0) = gainAt s left i := by
            intro i hi
            rw [gm_get hs]; unfold gainAt
            rw [List.getD_eq_getElem?_getD, List.getElem?_eq_getElem hi]; rfl
          conv => whnf
          repeat' (first | ((first | refine Split.mk (fun h => ?_) (fun h => ?_) | refine CondG.mk (fun h => ?_) (fun h => ?_)) <;> (try simp only [decide_eq_true_eq, decide_eq_false_iff_not, Bool.not_eq_true', Bool.not_eq_false', beq_iff_eq, beq_eq_false_iff_ne, bne_iff_ne, bne_eq_false_iff_eq] at h) <;> (first | (exfalso; first | omega | exact h trivial) | (conv => whnf))) | (refine Ask.mk (by first | omega | (unfold roomOK; simp [cutRows]; done) | (unfold roomOK; simp [cutRows]; omega) | (simp [cutRows]; done) | (simp [cutRows]; omega)) ?_; conv => whnf) | (refine AppG.mk (by first | omega | (unfold roomOK; simp [cutRows]; done) | (unfold roomOK; simp [cutRows]; omega) | (simp [cutRows]; done) | (simp [cutRows]; omega)) ?_; conv => whnf) | (refine SliceG.fr ?_; conv => whnf) | (refine BuildG.fr ?_; conv => whnf) | (refine idx_at _ (by with_reducible rfl) (by first | assumption | omega) ?_; conv => whnf) | ((with_reducible refine row_map (by first | assumption | omega) ?_); conv => whnf) | ((with_reducible refine row_set (by first | assumption | omega | (simp only [List.length_set]; omega) | (simp; omega)) ?_); conv => whnf) | ((refine row_at (bestAt (gainAt s left) k) toN hbk ?_); conv => whnf) | ((with_reducible refine sm_look (ek := ekB) (ev := evN) keyStr _ _ ((0 : Int)) ?_ ?_); exact rfl; conv => whnf) | ((with_reducible refine sm_upd (ek := ekB) (ev := evN) keyStr _ _ _ ?_); conv => whnf) | ((with_reducible refine sm_del (ek := ekB) (ev := evN) keyStr _ _ ?_); conv => whnf) | ((with_reducible refine sm_entry (ek := ekB) (ev := evN) keyStr _ _ ((0 : Int)) ?_ ?_); exact rfl; conv => whnf) | fail)
          all_goals rename_i h
          all_goals simp only [toN] at h
          all_goals rw [hga _ hk, hga _ hbk] at h
          · exact count_next () hk (by rw [wrap_succ hk (by omega), bestAt, if_pos h]; rfl) trivial
          · exact count_next () hk (by rw [wrap_succ hk (by omega), bestAt, if_neg h]; rfl) trivial
        · intro _ _
          have hbk : bestAt (gainAt s left) left.length < left.length := bestAt_lt _ _ hlp
          have hp : pickR s left = bestAt (gainAt s left) left.length := rfl
          have hel : (left.eraseIdx (bestAt (gainAt s left) left.length)).length = left.length - 1 := by rw [List.length_eraseIdx, if_pos hbk]
          have hgd : left.getD (pickR s left) ⟨#[]⟩ = left[bestAt (gainAt s left) left.length] := by
            rw [hp, List.getD_eq_getElem?_getD, List.getElem?_eq_getElem hbk]; rfl
          conv => whnf
          repeat' (first | ((first | refine Split.mk (fun h => ?_) (fun h => ?_) | refine CondG.mk (fun h => ?_) (fun h => ?_)) <;> (try simp only [decide_eq_true_eq, decide_eq_false_iff_not, Bool.not_eq_true', Bool.not_eq_false', beq_iff_eq, beq_eq_false_iff_ne, bne_iff_ne, bne_eq_false_iff_eq] at h) <;> (first | (exfalso; first | omega | exact h trivial) | (conv => whnf))) | (refine CallX.mk _ _ (by first | exact delS_pc left _ hbk (by omega) _ (by rw [wrap_succ hbk (by omega)])) ?_; conv => whnf) | (refine CallG.mk _ _ (by first | exact delS_pc left _ hbk (by omega) _ (by rw [wrap_succ hbk (by omega)])) ?_; conv => whnf) | (refine Ask.mk (by first | omega | (unfold roomOK; simp [cutRows]; done) | (unfold roomOK; simp [cutRows]; omega) | (simp [cutRows]; done) | (simp [cutRows]; omega)) ?_; conv => whnf) | (refine AppG.mk (by first | omega | (unfold roomOK; simp [cutRows]; done) | (unfold roomOK; simp [cutRows]; omega) | (simp [cutRows]; done) | (simp [cutRows]; omega)) ?_; conv => whnf) | (refine SliceG.fr ?_; conv => whnf) | (refine BuildG.fr ?_; conv => whnf) | (refine idx_at _ (by with_reducible rfl) (by first | assumption | omega) ?_; conv => whnf) | ((with_reducible refine row_map (by first | assumption | omega) ?_); conv => whnf) | ((with_reducible refine row_set (by first | assumption | omega | (simp only [List.length_set]; omega) | (simp; omega)) ?_); conv => whnf) | ((refine row_at (bestAt (gainAt s left) left.length) toN hbk ?_); conv => whnf) | fail)
          refine meas_next (left.eraseIdx (bestAt (gainAt s left) left.length), o ++ [left[bestAt (gainAt s left) left.length]]) (by simp only; omega) (by simp only [List.map_append]; rfl) ⟨erase_rise g1 _, by simp only [List.length_append, List.length_cons, List.length_nil]; omega, ?_⟩
          rw [← g3, rep_step (s := s) hlp, hgd, hp, List.append_assoc]; rfl
    · have h9 : left = [] := List.length_eq_zero_iff.1 (by omega)
      subst h9
      rw [← g3]
      simp only [List.length_nil, repV, List.append_nil]
      exact .mk ⟨rfl, rfl⟩
set_option maxRecDepth 100000 in
set_option maxHeartbeats 4000000 in
theorem fUnexR_pc (s : List Sv) (hx : ∀ x ∈ s, x.els.length ≤ 1000000) (down up : List ByteArray) : PCp 11 [.c (.lst 3 (s.map encSv)), .c (.lst 1 (down.map encS)), .c (.lst 1 (up.map encS))] [] (.tup [.c (.row 0), .c (.int .i64 (seenErr s down up))]) [.row 9 1 ((if seenErr s down up = 0 then unexV s (susV s down up) down else []).map encS)] := by
  by_cases h0 : seenErr s down up = 0
  · obtain ⟨hs, hd, hu⟩ := seen_ok h0
    have hdl := hd.len
    have hst := fState_pc s hx down up
    rw [h0] at hst
    rw [if_pos h0, h0]
    refine fn_sound (mt := mts) tab_fits tab_mixed Tryz.func11 (by rfl) (by kernel_rfl) (by kernel_rfl) Tryz.results11 (Nat.le_of_ble_eq_true (by kernel_rfl)) ?_
    conv => whnf
    repeat' (first | ((first | refine Split.mk (fun h => ?_) (fun h => ?_) | refine CondG.mk (fun h => ?_) (fun h => ?_)) <;> (try simp only [decide_eq_true_eq, decide_eq_false_iff_not, Bool.not_eq_true', Bool.not_eq_false', beq_iff_eq, beq_eq_false_iff_ne, bne_iff_ne, bne_eq_false_iff_eq] at h) <;> (first | (exfalso; first | omega | exact h trivial) | (conv => whnf))) | (refine CallX.mk _ _ (by first | exact hst | exact fSuspects_pc s hs down up hd hu | exact cloneS_pc down (by omega) | exact delfU_pc ((susV s down up).map encS) (s.map encSv) 29 (fun k => needsB s (susV s down up) k) down (by omega) (fun k hk => fUn1_pc s hs _ (Nat.le_trans (susV_len hs hd up) (by decide)) k (hd.has k hk))) ?_; conv => whnf) | (refine CallG.mk _ _ (by first | exact hst | exact fSuspects_pc s hs down up hd hu | exact cloneS_pc down (by omega) | exact delfU_pc ((susV s down up).map encS) (s.map encSv) 29 (fun k => needsB s (susV s down up) k) down (by omega) (fun k hk => fUn1_pc s hs _ (Nat.le_trans (susV_len hs hd up) (by decide)) k (hd.has k hk))) ?_; conv => whnf) | (refine Ask.mk (by first | omega | (unfold roomOK; simp [cutRows]; done) | (unfold roomOK; simp [cutRows]; omega) | (simp [cutRows]; done) | (simp [cutRows]; omega)) ?_; conv => whnf) | (refine AppG.mk (by first | omega | (unfold roomOK; simp [cutRows]; done) | (unfold roomOK; simp [cutRows]; omega) | (simp [cutRows]; done) | (simp [cutRows]; omega)) ?_; conv => whnf) | (refine SliceG.fr ?_; conv => whnf) | (refine BuildG.fr ?_; conv => whnf) | (refine idx_at _ (by with_reducible rfl) (by first | assumption | omega) ?_; conv => whnf) | ((with_reducible refine row_map (by first | assumption | omega) ?_); conv => whnf) | ((with_reducible refine row_set (by first | assumption | omega | (simp only [List.length_set]; omega) | (simp; omega)) ?_); conv => whnf) | fail)
    exact .mk ⟨rfl, rfl⟩
  · rw [if_neg h0]
    refine fn_sound (mt := mts) tab_fits tab_mixed Tryz.func11 (by rfl) (by kernel_rfl) (by kernel_rfl) Tryz.results11 (Nat.le_of_ble_eq_true (by kernel_rfl)) ?_
    conv => whnf
    repeat' (first | ((first | refine Split.mk (fun h => ?_) (fun h => ?_) | refine CondG.mk (fun h => ?_) (fun h => ?_)) <;> (try simp only [decide_eq_true_eq, decide_eq_false_iff_not, Bool.not_eq_true', Bool.not_eq_false', beq_iff_eq, beq_eq_false_iff_ne, bne_iff_ne, bne_eq_false_iff_eq] at h) <;> (first | (exfalso; first | omega | exact h trivial) | (conv => whnf))) | (refine CallX.mk _ _ (by first | exact fState_pc s hx down up) ?_; conv => whnf) | (refine CallG.mk _ _ (by first | exact fState_pc s hx down up) ?_; conv => whnf) | (refine Ask.mk (by first | omega | (unfold roomOK; simp [cutRows]; done) | (unfold roomOK; simp [cutRows]; omega) | (simp [cutRows]; done) | (simp [cutRows]; omega)) ?_; conv => whnf) | (refine AppG.mk (by first | omega | (unfold roomOK; simp [cutRows]; done) | (unfold roomOK; simp [cutRows]; omega) | (simp [cutRows]; done) | (simp [cutRows]; omega)) ?_; conv => whnf) | (refine SliceG.fr ?_; conv => whnf) | (refine BuildG.fr ?_; conv => whnf) | (refine idx_at _ (by with_reducible rfl) (by first | assumption | omega) ?_; conv => whnf) | ((with_reducible refine row_map (by first | assumption | omega) ?_); conv => whnf) | ((with_reducible refine row_set (by first | assumption | omega | (simp only [List.length_set]; omega) | (simp; omega)) ?_); conv => whnf) | fail)
    · exact .own2 9 1 _ rfl rfl rfl
    all_goals (exfalso; rename_i h; simp at h; omega)
set_option maxRecDepth 100000 in
set_option maxHeartbeats 4000000 in
theorem repairsR_bad (s : List Sv) (hx : ∀ x ∈ s, x.els.length ≤ 1000000) (b : List ByteArray) (hb : b.length ≤ 1000000) (h0 : setErr s b ≠ 0) :
    PCp 8 [.c (.lst 3 (s.map encSv)), .c (.lst 1 (b.map encS))] [] (.tup [.c (.row 0), .c (.int .i64 (setErr s b))]) [.row 9 1 (([] : List ByteArray).map encS)] := by
  refine fn_sound (mt := mts) tab_fits tab_mixed Tryz.func8 (by rfl) (by kernel_rfl) (by kernel_rfl) Tryz.results8 (Nat.le_of_ble_eq_true (by kernel_rfl)) ?_
  conv => whnf
  repeat' (first | ((first | refine Split.mk (fun h => ?_) (fun h => ?_) | refine CondG.mk (fun h => ?_) (fun h => ?_)) <;> (try simp only [decide_eq_true_eq, decide_eq_false_iff_not, Bool.not_eq_true', Bool.not_eq_false', beq_iff_eq, beq_eq_false_iff_ne, bne_iff_ne, bne_eq_false_iff_eq] at h) <;> (first | (exfalso; first | omega | exact h trivial | contradiction | (simp_all [eqRes]; done)) | (conv => whnf))) | (refine CallX.mk _ _ (by first | exact fSetFault_pc s hx b hb) ?_; conv => whnf) | (refine CallG.mk _ _ (by first | exact fSetFault_pc s hx b hb) ?_; conv => whnf) | (refine Ask.mk (by first | omega | (unfold roomOK; simp [cutRows]; done) | (unfold roomOK; simp [cutRows]; omega) | (simp [cutRows]; done) | (simp [cutRows]; omega)) ?_; conv => whnf) | (refine AppG.mk (by first | omega | (unfold roomOK; simp [cutRows]; done) | (unfold roomOK; simp [cutRows]; omega) | (simp [cutRows]; done) | (simp [cutRows]; omega)) ?_; conv => whnf) | (refine SliceG.fr ?_; conv => whnf) | (refine BuildG.fr ?_; conv => whnf) | (refine idx_at _ (by with_reducible rfl) (by first | assumption | omega) ?_; conv => whnf) | ((with_reducible refine row_map (by first | assumption | omega) ?_); conv => whnf) | ((with_reducible refine row_set (by first | assumption | omega | (simp only [List.length_set]; omega) | (simp; omega)) ?_); conv => whnf) | fail)
  exact .own2 9 1 _ rfl rfl rfl
theorem explV_lenU (s : List Sv) (l down : List ByteArray) : (explV s l down).length ≤ 1000 := by
  unfold explV
  split
  · rename_i he
    unfold explE at he
    split at he
    · cases he
    split at he
    · cases he
    have hp := pow14 (k := l.length) (by omega)
    have hbl : ∀ m ∈ bestL s l down, m < 16384 := by
      intro m hm
      have := (bestK_lt (needL s l down) (2 ^ l.length)).1 m hm
      omega
    have := sortM_len hbl
    rw [List.length_map]; omega
  · simp
set_option maxRecDepth 100000 in
set_option maxHeartbeats 4000000 in
theorem fExplsG_pc (s : List Sv) (hx : ∀ x ∈ s, x.els.length ≤ 1000000) (down up : List ByteArray) : PCq 10 [.c (.lst 3 (s.map encSv)), .c (.lst 1 (down.map encS)), .c (.lst 1 (up.map encS))] [] fun r os => ∃ (v : List (List ByteArray)) (e : Int), GridR v e r os ∧ (∀ q ∈ v, q.length ≤ 14) ∧ v.length ≤ 1000 := by
  by_cases h0 : seenErr s down up = 0
  · obtain ⟨hs, hd, hu⟩ := seen_ok h0
    have hst := fState_pc s hx down up
    rw [h0] at hst
    refine fn_soundX (mt := mts) tab_fits tab_mixed Tryz.func10 (by rfl) (by kernel_rfl) (by kernel_rfl) Tryz.results10 (Nat.le_of_ble_eq_true (by kernel_rfl)) ?_
    conv => whnf
    repeat' (first | ((first | refine Split.mk (fun h => ?_) (fun h => ?_) | refine CondG.mk (fun h => ?_) (fun h => ?_)) <;> (try simp only [decide_eq_true_eq, decide_eq_false_iff_not, Bool.not_eq_true', Bool.not_eq_false', beq_iff_eq, beq_eq_false_iff_ne, bne_iff_ne, bne_eq_false_iff_eq] at h) <;> (first | (exfalso; first | omega | exact h trivial) | (conv => whnf))) | (refine CallX.mk _ _ (by first | exact hst) ?_; conv => whnf) | (refine CallG.mk _ _ (by first | exact hst) ?_; conv => whnf) | (refine Ask.mk (by first | omega | (unfold roomOK; simp [cutRows]; done) | (unfold roomOK; simp [cutRows]; omega) | (simp [cutRows]; done) | (simp [cutRows]; omega)) ?_; conv => whnf) | (refine AppG.mk (by first | omega | (unfold roomOK; simp [cutRows]; done) | (unfold roomOK; simp [cutRows]; omega) | (simp [cutRows]; done) | (simp [cutRows]; omega)) ?_; conv => whnf) | (refine SliceG.fr ?_; conv => whnf) | (refine BuildG.fr ?_; conv => whnf) | (refine idx_at _ (by with_reducible rfl) (by first | assumption | omega) ?_; conv => whnf) | ((with_reducible refine row_map (by first | assumption | omega) ?_); conv => whnf) | ((with_reducible refine row_set (by first | assumption | omega | (simp only [List.length_set]; omega) | (simp; omega)) ?_); conv => whnf) | fail)
    refine .ex _ (fExplG_pc s hs down up hd hu) ?_
    intro r os hR
    have hq : ∀ q ∈ explV s (susV s down up) down, q.length ≤ 14 := by
      intro q hq
      unfold explV at hq
      split at hq
      · rename_i he
        obtain ⟨m, _, rfl⟩ := List.mem_map.1 hq
        have := setL_len (susV s down up) m (susV s down up).length
        unfold explE at he
        split at he
        · cases he
        · unfold pickM; omega
      · cases hq
    have hv3 := explV_lenU s (susV s down up) down
    generalize explV s (susV s down up) down = v at *
    generalize explE s (susV s down up) down = e at *
    rcases hR with ⟨rfl, rfl⟩ | ⟨ins, rfl, h2, rfl⟩
    · conv => whnf
      exact FinX.mk _ _ ⟨v, e, .nil rfl rfl, hq, hv3⟩ (.mk ⟨rfl, rfl⟩)
    · conv => whnf
      exact FinX.mk _ _ ⟨v, e, .grd ins rfl h2 rfl, hq, hv3⟩ (.mk ⟨rfl, rfl⟩)
  · refine fn_soundX (mt := mts) tab_fits tab_mixed Tryz.func10 (by rfl) (by kernel_rfl) (by kernel_rfl) Tryz.results10 (Nat.le_of_ble_eq_true (by kernel_rfl)) ?_
    conv => whnf
    repeat' (first | ((first | refine Split.mk (fun h => ?_) (fun h => ?_) | refine CondG.mk (fun h => ?_) (fun h => ?_)) <;> (try simp only [decide_eq_true_eq, decide_eq_false_iff_not, Bool.not_eq_true', Bool.not_eq_false', beq_iff_eq, beq_eq_false_iff_ne, bne_iff_ne, bne_eq_false_iff_eq] at h) <;> (first | (exfalso; first | omega | exact h trivial) | (conv => whnf))) | (refine CallX.mk _ _ (by first | exact fState_pc s hx down up) ?_; conv => whnf) | (refine CallG.mk _ _ (by first | exact fState_pc s hx down up) ?_; conv => whnf) | (refine Ask.mk (by first | omega | (unfold roomOK; simp [cutRows]; done) | (unfold roomOK; simp [cutRows]; omega) | (simp [cutRows]; done) | (simp [cutRows]; omega)) ?_; conv => whnf) | (refine AppG.mk (by first | omega | (unfold roomOK; simp [cutRows]; done) | (unfold roomOK; simp [cutRows]; omega) | (simp [cutRows]; done) | (simp [cutRows]; omega)) ?_; conv => whnf) | (refine SliceG.fr ?_; conv => whnf) | (refine BuildG.fr ?_; conv => whnf) | (refine idx_at _ (by with_reducible rfl) (by first | assumption | omega) ?_; conv => whnf) | ((with_reducible refine row_map (by first | assumption | omega) ?_); conv => whnf) | ((with_reducible refine row_set (by first | assumption | omega | (simp only [List.length_set]; omega) | (simp; omega)) ?_); conv => whnf) | fail)
    · exact FinX.mk _ _ ⟨[], _, .nil rfl rfl, by simp, by simp⟩ (.mk ⟨rfl, rfl⟩)
    all_goals (exfalso; rename_i h; simp at h; omega)
end Go.Proofs.YtjflmenfinohcaaGreat

/- Plain: the best sets are there, and they rise. -/
namespace Go.Proofs.YtjflmenfinohcaaGreat
set_option linter.unusedVariables false
set_option linter.unusedSimpArgs false
open Abs

end Go.Proofs.YtjflmenfinohcaaGreat

/- What is in all sets, by the program. -/
namespace Go.Proofs.YtjflmenfinohcaaGreat
set_option linter.unusedVariables false
set_option linter.unusedSimpArgs false
open Abs

end Go.Proofs.YtjflmenfinohcaaGreat

/- What to ask, by the program. -/
namespace Go.Proofs.YtjflmenfinohcaaGreat
set_option linter.unusedVariables false
set_option linter.unusedSimpArgs false
open Abs

end Go.Proofs.YtjflmenfinohcaaGreat

/- Ask with an error. -/
namespace Go.Proofs.YtjflmenfinohcaaGreat
set_option linter.unusedVariables false
set_option linter.unusedSimpArgs false
open Abs

end Go.Proofs.YtjflmenfinohcaaGreat

/- The document: which service needs one of a list. -/
namespace Go.Proofs.YtjflmenfinohcaaGreat
set_option linter.unusedVariables false
set_option linter.unusedSimpArgs false
open Abs

end Go.Proofs.YtjflmenfinohcaaGreat

/- The document: elements of the services that a captured list holds. -/
namespace Go.Proofs.YtjflmenfinohcaaGreat
set_option linter.unusedVariables false
set_option linter.unusedSimpArgs false
open Abs

end Go.Proofs.YtjflmenfinohcaaGreat

/- The document: suspects. -/
namespace Go.Proofs.YtjflmenfinohcaaGreat
set_option linter.unusedVariables false
set_option linter.unusedSimpArgs false
open Abs

end Go.Proofs.YtjflmenfinohcaaGreat

/- The document: what is unexplained. -/
namespace Go.Proofs.YtjflmenfinohcaaGreat
set_option linter.unusedVariables false
set_option linter.unusedSimpArgs false
open Abs

end Go.Proofs.YtjflmenfinohcaaGreat

/- Plain: both suspects are one. -/
namespace Go.Proofs.YtjflmenfinohcaaGreat
set_option linter.unusedVariables false
set_option linter.unusedSimpArgs false
open Abs

end Go.Proofs.YtjflmenfinohcaaGreat

/- Plain: the best sets of the document and of the program are one. -/
namespace Go.Proofs.YtjflmenfinohcaaGreat
set_option linter.unusedVariables false
set_option linter.unusedSimpArgs false
open Abs

/-! from the begin on -/
/-! the order of the sets -/
/-! the best ones, told anew -/
end Go.Proofs.YtjflmenfinohcaaGreat

/- Lists joined; what is in no explanation, by the program. -/
namespace Go.Proofs.YtjflmenfinohcaaGreat
set_option linter.unusedVariables false
set_option linter.unusedSimpArgs false
open Abs

-- slices.Grow of nil, by the kit's contract laid at the seat (needs nx_made of XF2 or XGrow)
theorem flat_len {α : Type} {n : Nat} : ∀ {L : List (List α)}, (∀ q ∈ L, q.length ≤ n) → L.flatten.length ≤ n * L.length
  | [], _ => by simp
  | a :: r, h => by
    have ih := flat_len (n := n) (L := r) (fun q hq => h q (by simp [hq]))
    have := h a (by simp)
    simp only [List.flatten_cons, List.length_append, List.length_cons, Nat.mul_succ]; omega
end Go.Proofs.YtjflmenfinohcaaGreat

/- Plain: the least sets, few suspects; what broken elements affect. -/
namespace Go.Proofs.YtjflmenfinohcaaGreat
set_option linter.unusedVariables false
set_option linter.unusedSimpArgs false
open Abs

section
variable {s : List Sv} {down up : List ByteArray}
end
/-! what broken elements affect -/
end Go.Proofs.YtjflmenfinohcaaGreat

/- What broken elements affect, by the program; right services are made. -/
namespace Go.Proofs.YtjflmenfinohcaaGreat
set_option linter.unusedVariables false
set_option linter.unusedSimpArgs false
open Abs

/-! Affected, where the services are right -/
end Go.Proofs.YtjflmenfinohcaaGreat

/- Elements and services are made, as functions of the stream. -/
namespace Go.Proofs.YtjflmenfinohcaaGreat
set_option linter.unusedVariables false
set_option linter.unusedSimpArgs false
open Abs

theorem row_lit {N : List ByteArray} {rows : List (List V)} {i : Nat} {k : List V → Prop} (h : rows = N.map encS) (hi : i < N.length) (hk : k (encS (N.getD i ⟨#[]⟩))) : RowG rows i k := by
  subst h
  refine .mk _ (List.getElem?_eq_getElem (by simpa using hi)) ?_
  rw [List.getElem_map]
  rw [List.getD_eq_getElem?_getD, List.getElem?_eq_getElem hi] at hk
  exact hk
/-- what is made so far, and the next place of the stream -/
structure Gq (α : Type) where
  l : List α
  q : Int
def flS (N : List ByteArray) (f : Int) (L : List Int) (k : Nat) (a : Gq ByteArray) : Gq ByteArray := if nextV L a.q f = 0 then ⟨a.l ++ [N.getD k ⟨#[]⟩], a.q + 1⟩ else ⟨a.l, a.q + 1⟩
def flI (N : List ByteArray) (f : Int) (L : List Int) (q : Int) (k : Nat) : Gq ByteArray := iterN (flS N f L) k ⟨[], q⟩
theorem flI_bd (N : List ByteArray) (f : Int) (L : List Int) (q : Int) : ∀ k, (flI N f L q k).l.length ≤ k ∧ (flI N f L q k).q = q + k
  | 0 => by simp [flI, iterN]
  | k + 1 => by
    have ih := flI_bd N f L q k
    have e : flI N f L q (k + 1) = flS N f L k (flI N f L q k) := rfl
    rw [e]
    generalize flI N f L q k = a at *
    unfold flS
    split <;> simp only [List.length_append, List.length_singleton] <;> omega
def elN : List ByteArray := [⟨#[97]⟩, ⟨#[98]⟩, ⟨#[99]⟩, ⟨#[100]⟩, ⟨#[101]⟩]
def elEnd (L : List Int) (a : Gq ByteArray) : List ByteArray × Int := if nextV L a.q 12 = 0 then (a.l ++ [someV L (a.q + 1) [⟨#[97]⟩, ⟨#[122, 122]⟩, ⟨#[]⟩, ⟨#[66]⟩]], a.q + 1 + 1) else (a.l, a.q + 1)
def elV (L : List Int) (p : Int) : List ByteArray × Int := elEnd L (flI elN 2 L p 5)
theorem elV_bd (L : List Int) (p : Int) : (elV L p).1.length ≤ 6 ∧ p ≤ (elV L p).2 ∧ (elV L p).2 ≤ p + 100 := by
  have := flI_bd elN 2 L p 5
  unfold elV
  generalize flI elN 2 L p 5 = a at *
  unfold elEnd
  split <;> simp only [List.length_append, List.length_singleton] <;> omega
set_option maxRecDepth 100000 in
set_option maxHeartbeats 4000000 in
theorem rElementsF_pc {L : List Int} {p : Int} (hst : StOk L p) (hp : p ≤ 800000000) :
    PCp 5 [.c (.ptr 0 0)] [stO L p] (.c (.lst 1 ((elV L p).1.map encS))) [stO L (elV L p).2] := by
  have hS : ∀ x : Int, p ≤ x → x ≤ p + 100 → StOk L x := fun x h3 h4 => ⟨hst.1, by have := hst.2.1; omega, by omega⟩
  have hV : elV L p = elEnd L (flI elN 2 L p 5) := rfl
  rw [hV]
  clear hV
  have hB := flI_bd elN 2 L p
  refine fn_sound (mt := mts) tab_fits tab_mixed Tryz.func5 (by rfl) (by kernel_rfl) (by kernel_rfl) Tryz.results5 (Nat.le_of_ble_eq_true (by kernel_rfl)) ?_
  conv => whnf
  refine loop_for (5) [.sl 3 9 1] [0, 3, 6, 7, 8] (fun k (_ : Unit) => [(8, .c (.int .i64 (k : Int)))]) (fun k (_ : Unit) => [(0, stO L (flI elN 2 L p k).q), (1, .row 9 1 ((flI elN 2 L p k).l.map encS))]) (fun k (_ : Unit) => True) (()) ?_
  conv => whnf
  refine ⟨(by first | rfl | (simp; done) | (simp; rfl)), (by trivial), ?_, ?_⟩
  · intro k _ hk _
    have hbk := hB k
    have e : flI elN 2 L p (k + 1) = flS elN 2 L k (flI elN 2 L p k) := rfl
    generalize flI elN 2 L p k = a at *
    obtain ⟨l, q⟩ := a
    simp only at hbk ⊢
    have hlm : (l.map encS).length = l.length := List.length_map ..
    have hQ : ∀ x : Int, q ≤ x → x ≤ q + 14 → StOk L x := fun x h3 h4 => hS x (by omega) (by omega)
    have hkN : k < elN.length := hk
    conv => whnf
    repeat' (first | ((first | refine Split.mk (fun h => ?_) (fun h => ?_) | refine CondG.mk (fun h => ?_) (fun h => ?_)) <;> (try simp only [decide_eq_true_eq, decide_eq_false_iff_not, Bool.not_eq_true', Bool.not_eq_false', beq_iff_eq, beq_eq_false_iff_ne, bne_iff_ne, bne_eq_false_iff_eq] at h) <;> (first | (exfalso; first | omega | exact h trivial | (simp [cutRows] at h; done) | (simp [cutRows] at h; omega)) | (conv => whnf))) | (refine CallX.mk _ _ (by first | exact flip_ok (hQ _ (by omega) (by omega)) _ (by omega) | exact next_ok (hQ _ (by omega) (by omega)) _ (by omega) | exact range_ok (hQ _ (by omega) (by omega)) _ _ (by omega) (small_lit (by omega)) (small_lit (by omega)) | exact odd_ok (hQ _ (by omega) (by omega)) (hQ _ (by omega) (by omega)) _ _ (small_lit (by omega)) (small_lit (by omega)) (by omega) | exact pick_ok (hQ _ (by omega) (by omega)) [_] (by simp) (by simp) | exact pick_ok (hQ _ (by omega) (by omega)) [_, _] (by simp) (by simp) | exact pick_ok (hQ _ (by omega) (by omega)) [_, _, _] (by simp) (by simp) | exact pick_ok (hQ _ (by omega) (by omega)) [_, _, _, _] (by simp) (by simp) | exact pick_ok (hQ _ (by omega) (by omega)) [_, _, _, _, _] (by simp) (by simp) | exact pick_ok (hQ _ (by omega) (by omega)) [_, _, _, _, _, _] (by simp) (by simp) | exact pick_ok (hQ _ (by omega) (by omega)) [_, _, _, _, _, _, _] (by simp) (by simp) | exact pick_ok (hQ _ (by omega) (by omega)) [_, _, _, _, _, _, _, _] (by simp) (by simp) | exact pick_ok (hQ _ (by omega) (by omega)) [_, _, _, _, _, _, _, _, _] (by simp) (by simp) | exact pick_ok (hQ _ (by omega) (by omega)) [_, _, _, _, _, _, _, _, _, _] (by simp) (by simp) | exact some_ok (hQ _ (by omega) (by omega)) [_] (by simp) (by simp) | exact some_ok (hQ _ (by omega) (by omega)) [_, _] (by simp) (by simp) | exact some_ok (hQ _ (by omega) (by omega)) [_, _, _] (by simp) (by simp) | exact some_ok (hQ _ (by omega) (by omega)) [_, _, _, _] (by simp) (by simp) | exact some_ok (hQ _ (by omega) (by omega)) [_, _, _, _, _] (by simp) (by simp) | exact some_ok (hQ _ (by omega) (by omega)) [_, _, _, _, _, _] (by simp) (by simp) | exact some_ok (hQ _ (by omega) (by omega)) [_, _, _, _, _, _, _] (by simp) (by simp) | exact some_ok (hQ _ (by omega) (by omega)) [_, _, _, _, _, _, _, _] (by simp) (by simp)) ?_; conv => whnf) | (refine CallG.mk _ _ (by first | exact flip_ok (hQ _ (by omega) (by omega)) _ (by omega) | exact next_ok (hQ _ (by omega) (by omega)) _ (by omega) | exact range_ok (hQ _ (by omega) (by omega)) _ _ (by omega) (small_lit (by omega)) (small_lit (by omega)) | exact odd_ok (hQ _ (by omega) (by omega)) (hQ _ (by omega) (by omega)) _ _ (small_lit (by omega)) (small_lit (by omega)) (by omega) | exact pick_ok (hQ _ (by omega) (by omega)) [_] (by simp) (by simp) | exact pick_ok (hQ _ (by omega) (by omega)) [_, _] (by simp) (by simp) | exact pick_ok (hQ _ (by omega) (by omega)) [_, _, _] (by simp) (by simp) | exact pick_ok (hQ _ (by omega) (by omega)) [_, _, _, _] (by simp) (by simp) | exact pick_ok (hQ _ (by omega) (by omega)) [_, _, _, _, _] (by simp) (by simp) | exact pick_ok (hQ _ (by omega) (by omega)) [_, _, _, _, _, _] (by simp) (by simp) | exact pick_ok (hQ _ (by omega) (by omega)) [_, _, _, _, _, _, _] (by simp) (by simp) | exact pick_ok (hQ _ (by omega) (by omega)) [_, _, _, _, _, _, _, _] (by simp) (by simp) | exact pick_ok (hQ _ (by omega) (by omega)) [_, _, _, _, _, _, _, _, _] (by simp) (by simp) | exact pick_ok (hQ _ (by omega) (by omega)) [_, _, _, _, _, _, _, _, _, _] (by simp) (by simp) | exact some_ok (hQ _ (by omega) (by omega)) [_] (by simp) (by simp) | exact some_ok (hQ _ (by omega) (by omega)) [_, _] (by simp) (by simp) | exact some_ok (hQ _ (by omega) (by omega)) [_, _, _] (by simp) (by simp) | exact some_ok (hQ _ (by omega) (by omega)) [_, _, _, _] (by simp) (by simp) | exact some_ok (hQ _ (by omega) (by omega)) [_, _, _, _, _] (by simp) (by simp) | exact some_ok (hQ _ (by omega) (by omega)) [_, _, _, _, _, _] (by simp) (by simp) | exact some_ok (hQ _ (by omega) (by omega)) [_, _, _, _, _, _, _] (by simp) (by simp) | exact some_ok (hQ _ (by omega) (by omega)) [_, _, _, _, _, _, _, _] (by simp) (by simp)) ?_; conv => whnf) | (refine Ask.mk (by first | omega | (unfold roomOK; simp [cutRows]; done) | (unfold roomOK; simp [cutRows]; omega) | (simp [cutRows]; done) | (simp [cutRows]; omega)) ?_; conv => whnf) | (refine AppG.mk (by first | omega | (unfold roomOK; simp [cutRows]; done) | (unfold roomOK; simp [cutRows]; omega) | (simp [cutRows]; done) | (simp [cutRows]; omega)) ?_; conv => whnf) | (refine SliceG.fr ?_; conv => whnf) | (refine BuildG.fr ?_; conv => whnf) | (refine idx_at _ (by with_reducible rfl) (by first | assumption | omega) ?_; conv => whnf) | ((with_reducible refine row_map (by first | assumption | omega) ?_); conv => whnf) | (refine row_lit (N := elN) (by rfl) (by first | assumption | (simp; omega) | decide) ?_; conv => whnf) | ((with_reducible refine row_set (by first | assumption | omega | (simp only [List.length_set]; omega) | (simp; omega)) ?_); conv => whnf) | fail)
    · exact count_next () hk (by rw [wrap_succ hk (by omega), e]; unfold flS; rw [if_pos (by assumption)]; simp only [List.map_append]; rfl) trivial
    · exact count_next () hk (by rw [wrap_succ hk (by omega), e]; unfold flS; rw [if_neg (by assumption)]; rfl) trivial
  · intro _ _
    have hbk := hB 5
    generalize flI elN 2 L p 5 = a at *
    obtain ⟨l, q⟩ := a
    simp only at hbk ⊢
    have hlm : (l.map encS).length = l.length := List.length_map ..
    have hQ : ∀ x : Int, q ≤ x → x ≤ q + 14 → StOk L x := fun x h3 h4 => hS x (by omega) (by omega)
    unfold elEnd
    conv => whnf
    repeat' (first | ((first | refine Split.mk (fun h => ?_) (fun h => ?_) | refine CondG.mk (fun h => ?_) (fun h => ?_)) <;> (try simp only [decide_eq_true_eq, decide_eq_false_iff_not, Bool.not_eq_true', Bool.not_eq_false', beq_iff_eq, beq_eq_false_iff_ne, bne_iff_ne, bne_eq_false_iff_eq] at h) <;> (first | (exfalso; first | omega | exact h trivial | (simp [cutRows] at h; done) | (simp [cutRows] at h; omega)) | (conv => whnf))) | (refine CallX.mk _ _ (by first | exact flip_ok (hQ _ (by omega) (by omega)) _ (by omega) | exact next_ok (hQ _ (by omega) (by omega)) _ (by omega) | exact range_ok (hQ _ (by omega) (by omega)) _ _ (by omega) (small_lit (by omega)) (small_lit (by omega)) | exact odd_ok (hQ _ (by omega) (by omega)) (hQ _ (by omega) (by omega)) _ _ (small_lit (by omega)) (small_lit (by omega)) (by omega) | exact pick_ok (hQ _ (by omega) (by omega)) [_] (by simp) (by simp) | exact pick_ok (hQ _ (by omega) (by omega)) [_, _] (by simp) (by simp) | exact pick_ok (hQ _ (by omega) (by omega)) [_, _, _] (by simp) (by simp) | exact pick_ok (hQ _ (by omega) (by omega)) [_, _, _, _] (by simp) (by simp) | exact pick_ok (hQ _ (by omega) (by omega)) [_, _, _, _, _] (by simp) (by simp) | exact pick_ok (hQ _ (by omega) (by omega)) [_, _, _, _, _, _] (by simp) (by simp) | exact pick_ok (hQ _ (by omega) (by omega)) [_, _, _, _, _, _, _] (by simp) (by simp) | exact pick_ok (hQ _ (by omega) (by omega)) [_, _, _, _, _, _, _, _] (by simp) (by simp) | exact pick_ok (hQ _ (by omega) (by omega)) [_, _, _, _, _, _, _, _, _] (by simp) (by simp) | exact pick_ok (hQ _ (by omega) (by omega)) [_, _, _, _, _, _, _, _, _, _] (by simp) (by simp) | exact some_ok (hQ _ (by omega) (by omega)) [_] (by simp) (by simp) | exact some_ok (hQ _ (by omega) (by omega)) [_, _] (by simp) (by simp) | exact some_ok (hQ _ (by omega) (by omega)) [_, _, _] (by simp) (by simp) | exact some_ok (hQ _ (by omega) (by omega)) [_, _, _, _] (by simp) (by simp) | exact some_ok (hQ _ (by omega) (by omega)) [_, _, _, _, _] (by simp) (by simp) | exact some_ok (hQ _ (by omega) (by omega)) [_, _, _, _, _, _] (by simp) (by simp) | exact some_ok (hQ _ (by omega) (by omega)) [_, _, _, _, _, _, _] (by simp) (by simp) | exact some_ok (hQ _ (by omega) (by omega)) [_, _, _, _, _, _, _, _] (by simp) (by simp)) ?_; conv => whnf) | (refine CallG.mk _ _ (by first | exact flip_ok (hQ _ (by omega) (by omega)) _ (by omega) | exact next_ok (hQ _ (by omega) (by omega)) _ (by omega) | exact range_ok (hQ _ (by omega) (by omega)) _ _ (by omega) (small_lit (by omega)) (small_lit (by omega)) | exact odd_ok (hQ _ (by omega) (by omega)) (hQ _ (by omega) (by omega)) _ _ (small_lit (by omega)) (small_lit (by omega)) (by omega) | exact pick_ok (hQ _ (by omega) (by omega)) [_] (by simp) (by simp) | exact pick_ok (hQ _ (by omega) (by omega)) [_, _] (by simp) (by simp) | exact pick_ok (hQ _ (by omega) (by omega)) [_, _, _] (by simp) (by simp) | exact pick_ok (hQ _ (by omega) (by omega)) [_, _, _, _] (by simp) (by simp) | exact pick_ok (hQ _ (by omega) (by omega)) [_, _, _, _, _] (by simp) (by simp) | exact pick_ok (hQ _ (by omega) (by omega)) [_, _, _, _, _, _] (by simp) (by simp) | exact pick_ok (hQ _ (by omega) (by omega)) [_, _, _, _, _, _, _] (by simp) (by simp) | exact pick_ok (hQ _ (by omega) (by omega)) [_, _, _, _, _, _, _, _] (by simp) (by simp) | exact pick_ok (hQ _ (by omega) (by omega)) [_, _, _, _, _, _, _, _, _] (by simp) (by simp) | exact pick_ok (hQ _ (by omega) (by omega)) [_, _, _, _, _, _, _, _, _, _] (by simp) (by simp) | exact some_ok (hQ _ (by omega) (by omega)) [_] (by simp) (by simp) | exact some_ok (hQ _ (by omega) (by omega)) [_, _] (by simp) (by simp) | exact some_ok (hQ _ (by omega) (by omega)) [_, _, _] (by simp) (by simp) | exact some_ok (hQ _ (by omega) (by omega)) [_, _, _, _] (by simp) (by simp) | exact some_ok (hQ _ (by omega) (by omega)) [_, _, _, _, _] (by simp) (by simp) | exact some_ok (hQ _ (by omega) (by omega)) [_, _, _, _, _, _] (by simp) (by simp) | exact some_ok (hQ _ (by omega) (by omega)) [_, _, _, _, _, _, _] (by simp) (by simp) | exact some_ok (hQ _ (by omega) (by omega)) [_, _, _, _, _, _, _, _] (by simp) (by simp)) ?_; conv => whnf) | (refine Ask.mk (by first | omega | (unfold roomOK; simp [cutRows]; done) | (unfold roomOK; simp [cutRows]; omega) | (simp [cutRows]; done) | (simp [cutRows]; omega)) ?_; conv => whnf) | (refine AppG.mk (by first | omega | (unfold roomOK; simp [cutRows]; done) | (unfold roomOK; simp [cutRows]; omega) | (simp [cutRows]; done) | (simp [cutRows]; omega)) ?_; conv => whnf) | (refine SliceG.fr ?_; conv => whnf) | (refine BuildG.fr ?_; conv => whnf) | (refine idx_at _ (by with_reducible rfl) (by first | assumption | omega) ?_; conv => whnf) | ((with_reducible refine row_map (by first | assumption | omega) ?_); conv => whnf) | (refine row_str (by rfl) (by first | (simp [cutRows]; done) | (simp [cutRows]; omega)) ?_; intro str; conv => whnf) | ((with_reducible refine row_set (by first | assumption | omega | (simp only [List.length_set]; omega) | (simp; omega)) ?_); conv => whnf) | fail)
    · rw [if_pos (by assumption)]
      exact .frz 1 _ _ _ rfl (.weak [_] (.fro 1 _ _ (by simp only [List.map_append]; rfl)) rfl (Nat.le_refl _))
    · rw [if_neg (by assumption)]
      exact .frz 1 _ _ _ rfl (.weak [_] (.fro 1 _ _ rfl) rfl (Nat.le_refl _))
end Go.Proofs.YtjflmenfinohcaaGreat

/- Services are made, as a function of the stream. -/
namespace Go.Proofs.YtjflmenfinohcaaGreat
set_option linter.unusedVariables false
set_option linter.unusedSimpArgs false
open Abs

def elF : List ByteArray := [⟨#[97]⟩, ⟨#[98]⟩, ⟨#[99]⟩, ⟨#[100]⟩, ⟨#[101]⟩, ⟨#[102]⟩]
def svI (L : List Int) (q : Int) : Gq ByteArray := flI elF 3 L (q + 1 + 1) 6
def svOne (L : List Int) (k : Nat) (q : Int) : Sv × Int :=
  if (svI L q).l.length = 0 then (⟨svKeys.getD k ⟨#[]⟩, [someV L (svI L q).q [⟨#[97]⟩, ⟨#[98]⟩, ⟨#[103]⟩]], pickV L (q + 1) [1, 1, 2, 5, 40]⟩, (svI L q).q + 1)
  else (⟨svKeys.getD k ⟨#[]⟩, (svI L q).l, pickV L (q + 1) [1, 1, 2, 5, 40]⟩, (svI L q).q)
def svStp (L : List Int) (k : Nat) (b : Gq Sv) : Gq Sv := if nextV L b.q 4 = 0 then ⟨b.l, b.q + 1⟩ else ⟨b.l ++ [(svOne L k b.q).1], (svOne L k b.q).2⟩
def svIt (L : List Int) (p : Int) (k : Nat) : Gq Sv := iterN (svStp L) k ⟨[], p⟩
theorem svOne_bd (L : List Int) (k : Nat) (q : Int) : (svOne L k q).1.els.length ≤ 6 ∧ q ≤ (svOne L k q).2 ∧ (svOne L k q).2 ≤ q + 10 := by
  have := flI_bd elF 3 L (q + 1 + 1) 6
  unfold svOne svI
  generalize flI elF 3 L (q + 1 + 1) 6 = a at *
  split <;> simp only [List.length_singleton] <;> omega
theorem svIt_bd (L : List Int) (p : Int) : ∀ k, (svIt L p k).l.length ≤ k ∧ (∀ x ∈ (svIt L p k).l, x.els.length ≤ 6) ∧ p ≤ (svIt L p k).q ∧ (svIt L p k).q ≤ p + 10 * k
  | 0 => by simp [svIt, iterN]
  | k + 1 => by
    have ih := svIt_bd L p k
    have e : svIt L p (k + 1) = svStp L k (svIt L p k) := rfl
    rw [e]
    generalize svIt L p k = a at *
    have ho := svOne_bd L k a.q
    unfold svStp
    split
    · exact ⟨by simp only; omega, ih.2.1, by simp only; omega, by simp only; omega⟩
    · refine ⟨by simp only [List.length_append, List.length_singleton]; omega, fun x hx => ?_, by simp only; omega, by simp only; omega⟩
      rcases List.mem_append.1 hx with hx | hx
      · exact ih.2.1 x hx
      · rw [List.mem_singleton] at hx; subst hx; exact ho.1
/-- one of them spoilt, now and then -/
def svPos (L : List Int) (l : List Sv) (q : Int) : Nat := (nextV L (q + 1) ((l.map encSv).length : Nat)).toNat
def svEnd (L : List Int) (b : Gq Sv) : List Sv × Int :=
  if 0 < b.l.length then
    if nextV L b.q 10 = 0 then
      if nextV L (b.q + 1 + 1) 3 = 0 then (b.l.set (svPos L b.l b.q) ⟨someV L (b.q + 1 + 1 + 1) [(b.l.getD (svPos L b.l b.q) ⟨⟨#[]⟩, [], 0⟩).key, ⟨#[]⟩, ⟨#[115, 49]⟩, ⟨#[65]⟩], (b.l.getD (svPos L b.l b.q) ⟨⟨#[]⟩, [], 0⟩).els, pickV L (b.q + 1 + 1 + 1 + 1) [(b.l.getD (svPos L b.l b.q) ⟨⟨#[]⟩, [], 0⟩).cust, 0, 100001]⟩, b.q + 1 + 1 + 1 + 1 + 1)
      else if nextV L (b.q + 1 + 1) 3 = 1 then (b.l.set (svPos L b.l b.q) ⟨(b.l.getD (svPos L b.l b.q) ⟨⟨#[]⟩, [], 0⟩).key, [], (b.l.getD (svPos L b.l b.q) ⟨⟨#[]⟩, [], 0⟩).cust⟩, b.q + 1 + 1 + 1)
      else (b.l.set (svPos L b.l b.q) ⟨(b.l.getD (svPos L b.l b.q) ⟨⟨#[]⟩, [], 0⟩).key, (b.l.getD (svPos L b.l b.q) ⟨⟨#[]⟩, [], 0⟩).els ++ [someV L (b.q + 1 + 1 + 1) [⟨#[97]⟩, ⟨#[122, 122]⟩, ⟨#[]⟩, ⟨#[66]⟩]], (b.l.getD (svPos L b.l b.q) ⟨⟨#[]⟩, [], 0⟩).cust⟩, b.q + 1 + 1 + 1 + 1)
    else (b.l, b.q + 1)
  else (b.l, b.q)
def svV (L : List Int) (p : Int) : List Sv × Int := svEnd L (svIt L p 6)
theorem svV_bd (L : List Int) (p : Int) : (svV L p).1.length ≤ 6 ∧ (∀ x ∈ (svV L p).1, x.els.length ≤ 7) ∧ p ≤ (svV L p).2 ∧ (svV L p).2 ≤ p + 100 := by
  have h := svIt_bd L p 6
  unfold svV
  generalize svIt L p 6 = b at *
  have hset : ∀ (i : Nat) (y : Sv), y.els.length ≤ 7 → ∀ x ∈ b.l.set i y, x.els.length ≤ 7 := by
    intro i y hy x hx
    rcases List.mem_or_eq_of_mem_set hx with hx | rfl
    · have := h.2.1 x hx; omega
    · exact hy
  have hg : ∀ i, (b.l.getD i ⟨⟨#[]⟩, [], 0⟩).els.length ≤ 6 := by
    intro i
    by_cases hi : i < b.l.length
    · rw [List.getD_eq_getElem?_getD, List.getElem?_eq_getElem hi]; exact h.2.1 _ (List.getElem_mem hi)
    · rw [List.getD_eq_getElem?_getD, List.getElem?_eq_none (by omega)]; simp
  have hga := hg (svPos L b.l b.q)
  unfold svEnd
  (repeat' split) <;> first
    | exact ⟨by simp only [List.length_set]; omega, hset _ _ (by simp only [List.length_append, List.length_singleton, List.length_nil]; omega), by simp only; omega, by simp only; omega⟩
    | exact ⟨by simp only; omega, fun x hx => Nat.le_trans (h.2.1 x hx) (by decide), by simp only; omega, by simp only; omega⟩
set_option maxRecDepth 100000 in
set_option maxHeartbeats 4000000 in
theorem rServicesF_pc {L : List Int} {p : Int} (hst : StOk L p) (hp : p ≤ 800000000) :
    PCp 16 [.c (.ptr 0 0)] [stO L p] (.c (.lst 3 ((svV L p).1.map encSv))) [stO L (svV L p).2] := by
  have hS : ∀ x : Int, p ≤ x → x ≤ p + 100 → StOk L x := fun x h3 h4 => ⟨hst.1, by have := hst.2.1; omega, by omega⟩
  have hV : svV L p = svEnd L (svIt L p 6) := rfl
  rw [hV]
  clear hV
  have hB := svIt_bd L p
  refine fn_sound (mt := mts) tab_fits tab_mixed Tryz.func16 (by rfl) (by kernel_rfl) (by kernel_rfl) Tryz.results16 (Nat.le_of_ble_eq_true (by kernel_rfl)) ?_
  conv => whnf
  refine loop_for (6) [.sl 3 43 3] [0, 3, 10, 11, 12] (fun k (_ : Unit) => [(12, .c (.int .i64 (k : Int)))]) (fun k (_ : Unit) => [(0, stO L (svIt L p k).q), (1, .row 43 3 ((svIt L p k).l.map encSv))]) (fun k (_ : Unit) => True) (()) ?_
  conv => whnf
  refine ⟨(by first | rfl | (simp; done) | (simp; rfl)), (by trivial), ?_, ?_⟩
  · intro k _ hk _
    have hbk := hB k
    have e : svIt L p (k + 1) = svStp L k (svIt L p k) := rfl
    generalize svIt L p k = a at *
    obtain ⟨l, q⟩ := a
    simp only at hbk ⊢
    obtain ⟨h1, h2, h3, h4⟩ := hbk
    have hlm : (l.map encSv).length = l.length := List.length_map ..
    have hQ : ∀ x : Int, q ≤ x → x ≤ q + 14 → StOk L x := fun x h3 h4 => hS x (by omega) (by omega)
    have hkN : k < svKeys.length := hk
    have hIb := flI_bd elF 3 L (q + 1 + 1)
    have hOne : svOne L k q = if (svI L q).l.length = 0 then (⟨svKeys.getD k ⟨#[]⟩, [someV L (svI L q).q [⟨#[97]⟩, ⟨#[98]⟩, ⟨#[103]⟩]], pickV L (q + 1) [1, 1, 2, 5, 40]⟩, (svI L q).q + 1) else (⟨svKeys.getD k ⟨#[]⟩, (svI L q).l, pickV L (q + 1) [1, 1, 2, 5, 40]⟩, (svI L q).q) := rfl
    have hI6 : svI L q = flI elF 3 L (q + 1 + 1) 6 := rfl
    conv => whnf
    repeat' (first | ((first | refine Split.mk (fun h => ?_) (fun h => ?_) | refine CondG.mk (fun h => ?_) (fun h => ?_)) <;> (try simp only [decide_eq_true_eq, decide_eq_false_iff_not, Bool.not_eq_true', Bool.not_eq_false', beq_iff_eq, beq_eq_false_iff_ne, bne_iff_ne, bne_eq_false_iff_eq] at h) <;> (first | (exfalso; first | omega | exact h trivial | (simp [cutRows] at h; done) | (simp [cutRows] at h; omega)) | (conv => whnf))) | (refine CallX.mk _ _ (by first | exact flip_ok (hQ _ (by omega) (by omega)) _ (by omega) | exact next_ok (hQ _ (by omega) (by omega)) _ (by omega) | exact range_ok (hQ _ (by omega) (by omega)) _ _ (by omega) (small_lit (by omega)) (small_lit (by omega)) | exact odd_ok (hQ _ (by omega) (by omega)) (hQ _ (by omega) (by omega)) _ _ (small_lit (by omega)) (small_lit (by omega)) (by omega) | exact pick_ok (hQ _ (by omega) (by omega)) [_] (by simp) (by simp) | exact pick_ok (hQ _ (by omega) (by omega)) [_, _] (by simp) (by simp) | exact pick_ok (hQ _ (by omega) (by omega)) [_, _, _] (by simp) (by simp) | exact pick_ok (hQ _ (by omega) (by omega)) [_, _, _, _] (by simp) (by simp) | exact pick_ok (hQ _ (by omega) (by omega)) [_, _, _, _, _] (by simp) (by simp) | exact pick_ok (hQ _ (by omega) (by omega)) [_, _, _, _, _, _] (by simp) (by simp) | exact pick_ok (hQ _ (by omega) (by omega)) [_, _, _, _, _, _, _] (by simp) (by simp) | exact pick_ok (hQ _ (by omega) (by omega)) [_, _, _, _, _, _, _, _] (by simp) (by simp) | exact pick_ok (hQ _ (by omega) (by omega)) [_, _, _, _, _, _, _, _, _] (by simp) (by simp) | exact pick_ok (hQ _ (by omega) (by omega)) [_, _, _, _, _, _, _, _, _, _] (by simp) (by simp) | exact some_ok (hQ _ (by omega) (by omega)) [_] (by simp) (by simp) | exact some_ok (hQ _ (by omega) (by omega)) [_, _] (by simp) (by simp) | exact some_ok (hQ _ (by omega) (by omega)) [_, _, _] (by simp) (by simp) | exact some_ok (hQ _ (by omega) (by omega)) [_, _, _, _] (by simp) (by simp) | exact some_ok (hQ _ (by omega) (by omega)) [_, _, _, _, _] (by simp) (by simp) | exact some_ok (hQ _ (by omega) (by omega)) [_, _, _, _, _, _] (by simp) (by simp) | exact some_ok (hQ _ (by omega) (by omega)) [_, _, _, _, _, _, _] (by simp) (by simp) | exact some_ok (hQ _ (by omega) (by omega)) [_, _, _, _, _, _, _, _] (by simp) (by simp)) ?_; conv => whnf) | (refine CallG.mk _ _ (by first | exact flip_ok (hQ _ (by omega) (by omega)) _ (by omega) | exact next_ok (hQ _ (by omega) (by omega)) _ (by omega) | exact range_ok (hQ _ (by omega) (by omega)) _ _ (by omega) (small_lit (by omega)) (small_lit (by omega)) | exact odd_ok (hQ _ (by omega) (by omega)) (hQ _ (by omega) (by omega)) _ _ (small_lit (by omega)) (small_lit (by omega)) (by omega) | exact pick_ok (hQ _ (by omega) (by omega)) [_] (by simp) (by simp) | exact pick_ok (hQ _ (by omega) (by omega)) [_, _] (by simp) (by simp) | exact pick_ok (hQ _ (by omega) (by omega)) [_, _, _] (by simp) (by simp) | exact pick_ok (hQ _ (by omega) (by omega)) [_, _, _, _] (by simp) (by simp) | exact pick_ok (hQ _ (by omega) (by omega)) [_, _, _, _, _] (by simp) (by simp) | exact pick_ok (hQ _ (by omega) (by omega)) [_, _, _, _, _, _] (by simp) (by simp) | exact pick_ok (hQ _ (by omega) (by omega)) [_, _, _, _, _, _, _] (by simp) (by simp) | exact pick_ok (hQ _ (by omega) (by omega)) [_, _, _, _, _, _, _, _] (by simp) (by simp) | exact pick_ok (hQ _ (by omega) (by omega)) [_, _, _, _, _, _, _, _, _] (by simp) (by simp) | exact pick_ok (hQ _ (by omega) (by omega)) [_, _, _, _, _, _, _, _, _, _] (by simp) (by simp) | exact some_ok (hQ _ (by omega) (by omega)) [_] (by simp) (by simp) | exact some_ok (hQ _ (by omega) (by omega)) [_, _] (by simp) (by simp) | exact some_ok (hQ _ (by omega) (by omega)) [_, _, _] (by simp) (by simp) | exact some_ok (hQ _ (by omega) (by omega)) [_, _, _, _] (by simp) (by simp) | exact some_ok (hQ _ (by omega) (by omega)) [_, _, _, _, _] (by simp) (by simp) | exact some_ok (hQ _ (by omega) (by omega)) [_, _, _, _, _, _] (by simp) (by simp) | exact some_ok (hQ _ (by omega) (by omega)) [_, _, _, _, _, _, _] (by simp) (by simp) | exact some_ok (hQ _ (by omega) (by omega)) [_, _, _, _, _, _, _, _] (by simp) (by simp)) ?_; conv => whnf) | (refine Ask.mk (by first | omega | (unfold roomOK; simp [cutRows]; done) | (unfold roomOK; simp [cutRows]; omega) | (simp [cutRows]; done) | (simp [cutRows]; omega)) ?_; conv => whnf) | (refine AppG.mk (by first | omega | (unfold roomOK; simp [cutRows]; done) | (unfold roomOK; simp [cutRows]; omega) | (simp [cutRows]; done) | (simp [cutRows]; omega)) ?_; conv => whnf) | (refine SliceG.fr ?_; conv => whnf) | (refine BuildG.fr ?_; conv => whnf) | (refine idx_at _ (by with_reducible rfl) (by first | assumption | omega) ?_; conv => whnf) | ((with_reducible refine row_map (by first | assumption | omega) ?_); conv => whnf) | (refine row_lit (N := svKeys) (by rfl) (by first | assumption | (simp; omega) | decide) ?_; conv => whnf) | ((with_reducible refine row_set (by first | assumption | omega | (simp only [List.length_set]; omega) | (simp; omega)) ?_); conv => whnf) | fail)
    · exact count_next () hk (by rw [wrap_succ hk (by omega), e]; unfold svStp; rw [if_pos (by assumption)]; rfl) trivial
    have e2 : svStp L k ⟨l, q⟩ = ⟨l ++ [(svOne L k q).1], (svOne L k q).2⟩ := if_neg (by assumption)
    rw [e2] at e
    refine loop_for (6) [.bx 6 1 9 1] [0, 3, 6, 10, 11, 12, 23, 24, 25] (fun j (_ : Unit) => [(25, .c (.int .i64 (j : Int)))]) (fun j (_ : Unit) => [(0, stO L (flI elF 3 L (q + 1 + 1) j).q), (3, .row 9 1 ((flI elF 3 L (q + 1 + 1) j).l.map encS))]) (fun j (_ : Unit) => True) (()) ?_
    conv => whnf
    refine ⟨(by first | rfl | (simp; done) | (simp; rfl)), (by trivial), ?_, ?_⟩
    · intro j _ hj _
      have hbj := hIb j
      have ej : flI elF 3 L (q + 1 + 1) (j + 1) = flS elF 3 L j (flI elF 3 L (q + 1 + 1) j) := rfl
      generalize flI elF 3 L (q + 1 + 1) j = a at *
      obtain ⟨ks, q'⟩ := a
      simp only at hbj ⊢
      have hkm : (ks.map encS).length = ks.length := List.length_map ..
      have hjN : j < elF.length := hj
      conv => whnf
      repeat' (first | ((first | refine Split.mk (fun h => ?_) (fun h => ?_) | refine CondG.mk (fun h => ?_) (fun h => ?_)) <;> (try simp only [decide_eq_true_eq, decide_eq_false_iff_not, Bool.not_eq_true', Bool.not_eq_false', beq_iff_eq, beq_eq_false_iff_ne, bne_iff_ne, bne_eq_false_iff_eq] at h) <;> (first | (exfalso; first | omega | exact h trivial | (simp [cutRows] at h; done) | (simp [cutRows] at h; omega)) | (conv => whnf))) | (refine CallX.mk _ _ (by first | exact flip_ok (hQ _ (by omega) (by omega)) _ (by omega) | exact next_ok (hQ _ (by omega) (by omega)) _ (by omega) | exact range_ok (hQ _ (by omega) (by omega)) _ _ (by omega) (small_lit (by omega)) (small_lit (by omega)) | exact odd_ok (hQ _ (by omega) (by omega)) (hQ _ (by omega) (by omega)) _ _ (small_lit (by omega)) (small_lit (by omega)) (by omega) | exact pick_ok (hQ _ (by omega) (by omega)) [_] (by simp) (by simp) | exact pick_ok (hQ _ (by omega) (by omega)) [_, _] (by simp) (by simp) | exact pick_ok (hQ _ (by omega) (by omega)) [_, _, _] (by simp) (by simp) | exact pick_ok (hQ _ (by omega) (by omega)) [_, _, _, _] (by simp) (by simp) | exact pick_ok (hQ _ (by omega) (by omega)) [_, _, _, _, _] (by simp) (by simp) | exact pick_ok (hQ _ (by omega) (by omega)) [_, _, _, _, _, _] (by simp) (by simp) | exact pick_ok (hQ _ (by omega) (by omega)) [_, _, _, _, _, _, _] (by simp) (by simp) | exact pick_ok (hQ _ (by omega) (by omega)) [_, _, _, _, _, _, _, _] (by simp) (by simp) | exact pick_ok (hQ _ (by omega) (by omega)) [_, _, _, _, _, _, _, _, _] (by simp) (by simp) | exact pick_ok (hQ _ (by omega) (by omega)) [_, _, _, _, _, _, _, _, _, _] (by simp) (by simp) | exact some_ok (hQ _ (by omega) (by omega)) [_] (by simp) (by simp) | exact some_ok (hQ _ (by omega) (by omega)) [_, _] (by simp) (by simp) | exact some_ok (hQ _ (by omega) (by omega)) [_, _, _] (by simp) (by simp) | exact some_ok (hQ _ (by omega) (by omega)) [_, _, _, _] (by simp) (by simp) | exact some_ok (hQ _ (by omega) (by omega)) [_, _, _, _, _] (by simp) (by simp) | exact some_ok (hQ _ (by omega) (by omega)) [_, _, _, _, _, _] (by simp) (by simp) | exact some_ok (hQ _ (by omega) (by omega)) [_, _, _, _, _, _, _] (by simp) (by simp) | exact some_ok (hQ _ (by omega) (by omega)) [_, _, _, _, _, _, _, _] (by simp) (by simp)) ?_; conv => whnf) | (refine CallG.mk _ _ (by first | exact flip_ok (hQ _ (by omega) (by omega)) _ (by omega) | exact next_ok (hQ _ (by omega) (by omega)) _ (by omega) | exact range_ok (hQ _ (by omega) (by omega)) _ _ (by omega) (small_lit (by omega)) (small_lit (by omega)) | exact odd_ok (hQ _ (by omega) (by omega)) (hQ _ (by omega) (by omega)) _ _ (small_lit (by omega)) (small_lit (by omega)) (by omega) | exact pick_ok (hQ _ (by omega) (by omega)) [_] (by simp) (by simp) | exact pick_ok (hQ _ (by omega) (by omega)) [_, _] (by simp) (by simp) | exact pick_ok (hQ _ (by omega) (by omega)) [_, _, _] (by simp) (by simp) | exact pick_ok (hQ _ (by omega) (by omega)) [_, _, _, _] (by simp) (by simp) | exact pick_ok (hQ _ (by omega) (by omega)) [_, _, _, _, _] (by simp) (by simp) | exact pick_ok (hQ _ (by omega) (by omega)) [_, _, _, _, _, _] (by simp) (by simp) | exact pick_ok (hQ _ (by omega) (by omega)) [_, _, _, _, _, _, _] (by simp) (by simp) | exact pick_ok (hQ _ (by omega) (by omega)) [_, _, _, _, _, _, _, _] (by simp) (by simp) | exact pick_ok (hQ _ (by omega) (by omega)) [_, _, _, _, _, _, _, _, _] (by simp) (by simp) | exact pick_ok (hQ _ (by omega) (by omega)) [_, _, _, _, _, _, _, _, _, _] (by simp) (by simp) | exact some_ok (hQ _ (by omega) (by omega)) [_] (by simp) (by simp) | exact some_ok (hQ _ (by omega) (by omega)) [_, _] (by simp) (by simp) | exact some_ok (hQ _ (by omega) (by omega)) [_, _, _] (by simp) (by simp) | exact some_ok (hQ _ (by omega) (by omega)) [_, _, _, _] (by simp) (by simp) | exact some_ok (hQ _ (by omega) (by omega)) [_, _, _, _, _] (by simp) (by simp) | exact some_ok (hQ _ (by omega) (by omega)) [_, _, _, _, _, _] (by simp) (by simp) | exact some_ok (hQ _ (by omega) (by omega)) [_, _, _, _, _, _, _] (by simp) (by simp) | exact some_ok (hQ _ (by omega) (by omega)) [_, _, _, _, _, _, _, _] (by simp) (by simp)) ?_; conv => whnf) | (refine Ask.mk (by first | omega | (unfold roomOK; simp [cutRows]; done) | (unfold roomOK; simp [cutRows]; omega) | (simp [cutRows]; done) | (simp [cutRows]; omega)) ?_; conv => whnf) | (refine AppG.mk (by first | omega | (unfold roomOK; simp [cutRows]; done) | (unfold roomOK; simp [cutRows]; omega) | (simp [cutRows]; done) | (simp [cutRows]; omega)) ?_; conv => whnf) | (refine SliceG.fr ?_; conv => whnf) | (refine BuildG.fr ?_; conv => whnf) | (refine idx_at _ (by with_reducible rfl) (by first | assumption | omega) ?_; conv => whnf) | ((with_reducible refine row_map (by first | assumption | omega) ?_); conv => whnf) | (refine row_lit (N := elF) (by rfl) (by first | assumption | (simp; omega) | decide) ?_; conv => whnf) | ((with_reducible refine row_set (by first | assumption | omega | (simp only [List.length_set]; omega) | (simp; omega)) ?_); conv => whnf) | fail)
      · exact count_next () hj (by rw [wrap_succ hj (by omega), ej]; unfold flS; rw [if_pos (by assumption)]; simp only [List.map_append]; rfl) trivial
      · exact count_next () hj (by rw [wrap_succ hj (by omega), ej]; unfold flS; rw [if_neg (by assumption)]; rfl) trivial
    · intro _ _
      have hbj := hIb 6
      rw [← hI6] at *
      generalize svI L q = a at *
      obtain ⟨ks, q'⟩ := a
      simp only at hbj hOne ⊢
      have hkm : (ks.map encS).length = ks.length := List.length_map ..
      conv => whnf
      repeat' (first | ((first | refine Split.mk (fun h => ?_) (fun h => ?_) | refine CondG.mk (fun h => ?_) (fun h => ?_)) <;> (try simp only [decide_eq_true_eq, decide_eq_false_iff_not, Bool.not_eq_true', Bool.not_eq_false', beq_iff_eq, beq_eq_false_iff_ne, bne_iff_ne, bne_eq_false_iff_eq] at h) <;> (first | (exfalso; first | omega | exact h trivial | (simp [cutRows] at h; done) | (simp [cutRows] at h; omega)) | (conv => whnf))) | (refine CallX.mk _ _ (by first | exact flip_ok (hQ _ (by omega) (by omega)) _ (by omega) | exact next_ok (hQ _ (by omega) (by omega)) _ (by omega) | exact range_ok (hQ _ (by omega) (by omega)) _ _ (by omega) (small_lit (by omega)) (small_lit (by omega)) | exact odd_ok (hQ _ (by omega) (by omega)) (hQ _ (by omega) (by omega)) _ _ (small_lit (by omega)) (small_lit (by omega)) (by omega) | exact pick_ok (hQ _ (by omega) (by omega)) [_] (by simp) (by simp) | exact pick_ok (hQ _ (by omega) (by omega)) [_, _] (by simp) (by simp) | exact pick_ok (hQ _ (by omega) (by omega)) [_, _, _] (by simp) (by simp) | exact pick_ok (hQ _ (by omega) (by omega)) [_, _, _, _] (by simp) (by simp) | exact pick_ok (hQ _ (by omega) (by omega)) [_, _, _, _, _] (by simp) (by simp) | exact pick_ok (hQ _ (by omega) (by omega)) [_, _, _, _, _, _] (by simp) (by simp) | exact pick_ok (hQ _ (by omega) (by omega)) [_, _, _, _, _, _, _] (by simp) (by simp) | exact pick_ok (hQ _ (by omega) (by omega)) [_, _, _, _, _, _, _, _] (by simp) (by simp) | exact pick_ok (hQ _ (by omega) (by omega)) [_, _, _, _, _, _, _, _, _] (by simp) (by simp) | exact pick_ok (hQ _ (by omega) (by omega)) [_, _, _, _, _, _, _, _, _, _] (by simp) (by simp) | exact some_ok (hQ _ (by omega) (by omega)) [_] (by simp) (by simp) | exact some_ok (hQ _ (by omega) (by omega)) [_, _] (by simp) (by simp) | exact some_ok (hQ _ (by omega) (by omega)) [_, _, _] (by simp) (by simp) | exact some_ok (hQ _ (by omega) (by omega)) [_, _, _, _] (by simp) (by simp) | exact some_ok (hQ _ (by omega) (by omega)) [_, _, _, _, _] (by simp) (by simp) | exact some_ok (hQ _ (by omega) (by omega)) [_, _, _, _, _, _] (by simp) (by simp) | exact some_ok (hQ _ (by omega) (by omega)) [_, _, _, _, _, _, _] (by simp) (by simp) | exact some_ok (hQ _ (by omega) (by omega)) [_, _, _, _, _, _, _, _] (by simp) (by simp)) ?_; conv => whnf) | (refine CallG.mk _ _ (by first | exact flip_ok (hQ _ (by omega) (by omega)) _ (by omega) | exact next_ok (hQ _ (by omega) (by omega)) _ (by omega) | exact range_ok (hQ _ (by omega) (by omega)) _ _ (by omega) (small_lit (by omega)) (small_lit (by omega)) | exact odd_ok (hQ _ (by omega) (by omega)) (hQ _ (by omega) (by omega)) _ _ (small_lit (by omega)) (small_lit (by omega)) (by omega) | exact pick_ok (hQ _ (by omega) (by omega)) [_] (by simp) (by simp) | exact pick_ok (hQ _ (by omega) (by omega)) [_, _] (by simp) (by simp) | exact pick_ok (hQ _ (by omega) (by omega)) [_, _, _] (by simp) (by simp) | exact pick_ok (hQ _ (by omega) (by omega)) [_, _, _, _] (by simp) (by simp) | exact pick_ok (hQ _ (by omega) (by omega)) [_, _, _, _, _] (by simp) (by simp) | exact pick_ok (hQ _ (by omega) (by omega)) [_, _, _, _, _, _] (by simp) (by simp) | exact pick_ok (hQ _ (by omega) (by omega)) [_, _, _, _, _, _, _] (by simp) (by simp) | exact pick_ok (hQ _ (by omega) (by omega)) [_, _, _, _, _, _, _, _] (by simp) (by simp) | exact pick_ok (hQ _ (by omega) (by omega)) [_, _, _, _, _, _, _, _, _] (by simp) (by simp) | exact pick_ok (hQ _ (by omega) (by omega)) [_, _, _, _, _, _, _, _, _, _] (by simp) (by simp) | exact some_ok (hQ _ (by omega) (by omega)) [_] (by simp) (by simp) | exact some_ok (hQ _ (by omega) (by omega)) [_, _] (by simp) (by simp) | exact some_ok (hQ _ (by omega) (by omega)) [_, _, _] (by simp) (by simp) | exact some_ok (hQ _ (by omega) (by omega)) [_, _, _, _] (by simp) (by simp) | exact some_ok (hQ _ (by omega) (by omega)) [_, _, _, _, _] (by simp) (by simp) | exact some_ok (hQ _ (by omega) (by omega)) [_, _, _, _, _, _] (by simp) (by simp) | exact some_ok (hQ _ (by omega) (by omega)) [_, _, _, _, _, _, _] (by simp) (by simp) | exact some_ok (hQ _ (by omega) (by omega)) [_, _, _, _, _, _, _, _] (by simp) (by simp)) ?_; conv => whnf) | (refine Ask.mk (by first | omega | (unfold roomOK; simp [cutRows]; done) | (unfold roomOK; simp [cutRows]; omega) | (simp [cutRows]; done) | (simp [cutRows]; omega)) ?_; conv => whnf) | (refine AppG.mk (by first | omega | (unfold roomOK; simp [cutRows]; done) | (unfold roomOK; simp [cutRows]; omega) | (simp [cutRows]; done) | (simp [cutRows]; omega)) ?_; conv => whnf) | (refine SliceG.fr ?_; conv => whnf) | (refine BuildG.fr ?_; conv => whnf) | (refine idx_at _ (by with_reducible rfl) (by first | assumption | omega) ?_; conv => whnf) | ((with_reducible refine row_map (by first | assumption | omega) ?_); conv => whnf) | (refine row_str (by rfl) (by first | (simp [cutRows]; done) | (simp [cutRows]; omega)) ?_; intro str; conv => whnf) | ((with_reducible refine row_set (by first | assumption | omega | (simp only [List.length_set]; omega) | (simp; omega)) ?_); conv => whnf) | fail)
      · rw [if_pos (by omega)] at hOne
        exact count_next () hk (by rw [wrap_succ hk (by omega), e, hOne]; simp only [List.map_append]; rfl) trivial
      · rw [if_neg (by omega)] at hOne
        exact count_next () hk (by rw [wrap_succ hk (by omega), e, hOne]; simp only [List.map_append]; rfl) trivial
  · intro _ _
    have hbk := hB 6
    generalize svIt L p 6 = a at *
    obtain ⟨l, q⟩ := a
    simp only at hbk ⊢
    obtain ⟨h1, h2, h3, h4⟩ := hbk
    have hlm : (l.map encSv).length = l.length := List.length_map ..
    have hQ : ∀ x : Int, q ≤ x → x ≤ q + 14 → StOk L x := fun x h3 h4 => hS x (by omega) (by omega)
    have ni : 0 < (((l.map encSv).length : Nat) : Int) → 0 ≤ nextV L (q + 1) ((l.map encSv).length : Nat) ∧ nextV L (q + 1) ((l.map encSv).length : Nat) < ((l.map encSv).length : Nat) := fun h => nextV_lt _ _ _ (by omega)
    conv => whnf
    repeat' (first | ((first | refine Split.mk (fun h => ?_) (fun h => ?_) | refine CondG.mk (fun h => ?_) (fun h => ?_)) <;> (try simp only [decide_eq_true_eq, decide_eq_false_iff_not, Bool.not_eq_true', Bool.not_eq_false', beq_iff_eq, beq_eq_false_iff_ne, bne_iff_ne, bne_eq_false_iff_eq] at h) <;> (first | (exfalso; first | omega | exact h trivial | (simp [cutRows] at h; done) | (simp [cutRows] at h; omega)) | (conv => whnf))) | (refine CallX.mk _ _ (by first | exact flip_ok (hQ _ (by omega) (by omega)) _ (by omega) | exact next_ok (hQ _ (by omega) (by omega)) _ (by omega) | exact range_ok (hQ _ (by omega) (by omega)) _ _ (by omega) (small_lit (by omega)) (small_lit (by omega)) | exact odd_ok (hQ _ (by omega) (by omega)) (hQ _ (by omega) (by omega)) _ _ (small_lit (by omega)) (small_lit (by omega)) (by omega) | exact pick_ok (hQ _ (by omega) (by omega)) [_] (by simp) (by simp) | exact pick_ok (hQ _ (by omega) (by omega)) [_, _] (by simp) (by simp) | exact pick_ok (hQ _ (by omega) (by omega)) [_, _, _] (by simp) (by simp) | exact pick_ok (hQ _ (by omega) (by omega)) [_, _, _, _] (by simp) (by simp) | exact pick_ok (hQ _ (by omega) (by omega)) [_, _, _, _, _] (by simp) (by simp) | exact pick_ok (hQ _ (by omega) (by omega)) [_, _, _, _, _, _] (by simp) (by simp) | exact pick_ok (hQ _ (by omega) (by omega)) [_, _, _, _, _, _, _] (by simp) (by simp) | exact pick_ok (hQ _ (by omega) (by omega)) [_, _, _, _, _, _, _, _] (by simp) (by simp) | exact pick_ok (hQ _ (by omega) (by omega)) [_, _, _, _, _, _, _, _, _] (by simp) (by simp) | exact pick_ok (hQ _ (by omega) (by omega)) [_, _, _, _, _, _, _, _, _, _] (by simp) (by simp) | exact some_ok (hQ _ (by omega) (by omega)) [_] (by simp) (by simp) | exact some_ok (hQ _ (by omega) (by omega)) [_, _] (by simp) (by simp) | exact some_ok (hQ _ (by omega) (by omega)) [_, _, _] (by simp) (by simp) | exact some_ok (hQ _ (by omega) (by omega)) [_, _, _, _] (by simp) (by simp) | exact some_ok (hQ _ (by omega) (by omega)) [_, _, _, _, _] (by simp) (by simp) | exact some_ok (hQ _ (by omega) (by omega)) [_, _, _, _, _, _] (by simp) (by simp) | exact some_ok (hQ _ (by omega) (by omega)) [_, _, _, _, _, _, _] (by simp) (by simp) | exact some_ok (hQ _ (by omega) (by omega)) [_, _, _, _, _, _, _, _] (by simp) (by simp) | exact cloneS_pc _ (Nat.le_trans (h2 _ (List.getElem_mem _)) (by decide))) ?_; conv => whnf) | (refine CallG.mk _ _ (by first | exact flip_ok (hQ _ (by omega) (by omega)) _ (by omega) | exact next_ok (hQ _ (by omega) (by omega)) _ (by omega) | exact range_ok (hQ _ (by omega) (by omega)) _ _ (by omega) (small_lit (by omega)) (small_lit (by omega)) | exact odd_ok (hQ _ (by omega) (by omega)) (hQ _ (by omega) (by omega)) _ _ (small_lit (by omega)) (small_lit (by omega)) (by omega) | exact pick_ok (hQ _ (by omega) (by omega)) [_] (by simp) (by simp) | exact pick_ok (hQ _ (by omega) (by omega)) [_, _] (by simp) (by simp) | exact pick_ok (hQ _ (by omega) (by omega)) [_, _, _] (by simp) (by simp) | exact pick_ok (hQ _ (by omega) (by omega)) [_, _, _, _] (by simp) (by simp) | exact pick_ok (hQ _ (by omega) (by omega)) [_, _, _, _, _] (by simp) (by simp) | exact pick_ok (hQ _ (by omega) (by omega)) [_, _, _, _, _, _] (by simp) (by simp) | exact pick_ok (hQ _ (by omega) (by omega)) [_, _, _, _, _, _, _] (by simp) (by simp) | exact pick_ok (hQ _ (by omega) (by omega)) [_, _, _, _, _, _, _, _] (by simp) (by simp) | exact pick_ok (hQ _ (by omega) (by omega)) [_, _, _, _, _, _, _, _, _] (by simp) (by simp) | exact pick_ok (hQ _ (by omega) (by omega)) [_, _, _, _, _, _, _, _, _, _] (by simp) (by simp) | exact some_ok (hQ _ (by omega) (by omega)) [_] (by simp) (by simp) | exact some_ok (hQ _ (by omega) (by omega)) [_, _] (by simp) (by simp) | exact some_ok (hQ _ (by omega) (by omega)) [_, _, _] (by simp) (by simp) | exact some_ok (hQ _ (by omega) (by omega)) [_, _, _, _] (by simp) (by simp) | exact some_ok (hQ _ (by omega) (by omega)) [_, _, _, _, _] (by simp) (by simp) | exact some_ok (hQ _ (by omega) (by omega)) [_, _, _, _, _, _] (by simp) (by simp) | exact some_ok (hQ _ (by omega) (by omega)) [_, _, _, _, _, _, _] (by simp) (by simp) | exact some_ok (hQ _ (by omega) (by omega)) [_, _, _, _, _, _, _, _] (by simp) (by simp) | exact cloneS_pc _ (Nat.le_trans (h2 _ (List.getElem_mem _)) (by decide))) ?_; conv => whnf) | (refine Ask.mk (by first | omega | (unfold roomOK; simp [cutRows]; done) | (unfold roomOK; simp [cutRows]; omega) | (simp [cutRows]; done) | (simp [cutRows]; omega)) ?_; conv => whnf) | (refine AppG.mk (by first | omega | (unfold roomOK; simp [cutRows]; done) | (unfold roomOK; simp [cutRows]; omega) | (simp [cutRows]; done) | (simp [cutRows]; omega)) ?_; conv => whnf) | (refine SliceG.fr ?_; conv => whnf) | (refine BuildG.fr ?_; conv => whnf) | (refine idx_at _ (by with_reducible rfl) (by first | assumption | omega) ?_; conv => whnf) | ((with_reducible refine row_map (by first | assumption | omega) ?_); conv => whnf) | (refine row_str (by rfl) (by first | (simp [cutRows]; done) | (simp [cutRows]; omega)) ?_; intro str; conv => whnf) | ((with_reducible refine row_set (by first | assumption | omega | (simp only [List.length_set]; omega) | (simp; omega)) ?_); conv => whnf) | ((refine .mk (room_small (Nat.le_trans (Nat.add_le_add (show _ ≤ 10 by rw [List.length_map]; exact Nat.le_trans (h2 _ (List.getElem_mem _)) (by decide)) (show _ ≤ 1 from Nat.le_refl _)) (by decide)) (by decide)) ?_); conv => whnf) | fail)
    · have hp0 : 0 < l.length := by omega
      have hi : svPos L l q < l.length := by have := ni (by omega); unfold svPos; omega
      have hgd : l.getD (svPos L l q) ⟨⟨#[]⟩, [], 0⟩ = l[svPos L l q] := by simp [hi]
      have e : svEnd L ⟨l, q⟩ = (l.set (svPos L l q) ⟨someV L (q + 1 + 1 + 1) [(l[svPos L l q]).key, ⟨#[]⟩, ⟨#[115, 49]⟩, ⟨#[65]⟩], (l[svPos L l q]).els, pickV L (q + 1 + 1 + 1 + 1) [(l[svPos L l q]).cust, 0, 100001]⟩, q + 1 + 1 + 1 + 1 + 1) := by
        unfold svEnd; simp only [hgd]; rw [if_pos hp0, if_pos (by assumption), if_pos (by assumption)]
      rw [e]
      simp only [List.set_set]
      exact .frz 1 _ _ _ rfl (.weak [_] (.fro 1 _ _ (by rw [List.map_set]; rfl)) rfl (Nat.le_refl _))
    · have hp0 : 0 < l.length := by omega
      have hi : svPos L l q < l.length := by have := ni (by omega); unfold svPos; omega
      have hgd : l.getD (svPos L l q) ⟨⟨#[]⟩, [], 0⟩ = l[svPos L l q] := by simp [hi]
      have e : svEnd L ⟨l, q⟩ = (l.set (svPos L l q) ⟨(l[svPos L l q]).key, [], (l[svPos L l q]).cust⟩, q + 1 + 1 + 1) := by
        unfold svEnd; simp only [hgd]; rw [if_pos hp0, if_pos (by assumption), if_neg (by assumption), if_pos (by assumption)]
      rw [e]
      refine .frz 1 _ _ _ rfl (.weak [_] (.deep 1 _ _ _ rfl (dw_rows ?_)) rfl (Nat.le_refl _))
      rw [List.map_set]
      exact p2_set (p2_refl .refl) (P2.cons (.refl _) (P2.cons (.nils 1) (P2.cons (.refl _) P2.nil))) _
    · have hp0 : 0 < l.length := by omega
      have hi : svPos L l q < l.length := by have := ni (by omega); unfold svPos; omega
      have hgd : l.getD (svPos L l q) ⟨⟨#[]⟩, [], 0⟩ = l[svPos L l q] := by simp [hi]
      have e : svEnd L ⟨l, q⟩ = (l.set (svPos L l q) ⟨(l[svPos L l q]).key, (l[svPos L l q]).els ++ [someV L (q + 1 + 1 + 1) [⟨#[97]⟩, ⟨#[122, 122]⟩, ⟨#[]⟩, ⟨#[66]⟩]], (l[svPos L l q]).cust⟩, q + 1 + 1 + 1 + 1) := by
        unfold svEnd; simp only [hgd]; rw [if_pos hp0, if_pos (by assumption), if_neg (by assumption), if_neg (by assumption)]
      rw [e]
      exact .frz 1 _ _ _ rfl (.weak [_] (.fro 1 _ _ (by rw [List.map_set]; simp only [encSv, List.map_append]; rfl)) rfl (Nat.le_refl _))
    · have e : svEnd L ⟨l, q⟩ = (l, q + 1) := by
        unfold svEnd; rw [if_pos (show 0 < l.length by omega), if_neg (by assumption)]
      rw [e]
      exact .frz 1 _ _ _ rfl (.weak [_] (.fro 1 _ _ rfl) rfl (Nat.le_refl _))
    · have e : svEnd L ⟨l, q⟩ = (l, q) := by
        unfold svEnd; rw [if_neg (show ¬ 0 < l.length by omega)]
      rw [e]
      exact .frz 1 _ _ _ rfl (.weak [_] (.fro 1 _ _ rfl) rfl (Nat.le_refl _))
def rightSv (L : List Int) : Nat → Int → List Sv × Int
  | 0, p => ([], p)
  | k + 1, p => if svFault (svV L p).1 = 0 then svV L p else rightSv L k (svV L p).2
theorem rightSv_bd (L : List Int) : ∀ (k : Nat) (p : Int), svFault (rightSv L k p).1 = 0 ∧ (rightSv L k p).1.length ≤ 6 ∧ p ≤ (rightSv L k p).2 ∧ (rightSv L k p).2 ≤ p + 100 * k
  | 0, p => ⟨show svFault [] = 0 by decide, by simp [rightSv], Int.le_refl _, by simp [rightSv]⟩
  | k + 1, p => by
    have b := svV_bd L p
    have ih := rightSv_bd L k (svV L p).2
    rw [rightSv]
    split
    · rename_i h; exact ⟨h, b.1, b.2.2.1, by omega⟩
    · exact ⟨ih.1, ih.2.1, by omega, by omega⟩
set_option maxRecDepth 100000 in
set_option maxHeartbeats 4000000 in
theorem rRightSF_pc {L : List Int} {p : Int} (hst : StOk L p) (hp : p ≤ 700000000) :
    PCp 4 [.c (.ptr 0 0)] [stO L p] (.c (.lst 3 ((rightSv L 5 p).1.map encSv))) [stO L (rightSv L 5 p).2] := by
  have hS : ∀ x : Int, p ≤ x → x ≤ p + 1000 → StOk L x := fun x h3 h4 => ⟨hst.1, by have := hst.2.1; omega, by omega⟩
  refine fn_sound (mt := mts) tab_fits tab_mixed Tryz.func4 (by rfl) (by kernel_rfl) (by kernel_rfl) Tryz.results4 (Nat.le_of_ble_eq_true (by kernel_rfl)) ?_
  conv => whnf
  refine loop_for (5) [] [0, 4] (fun k (q : Int) => [(4, .c (.int .i64 (k : Int)))]) (fun k (q : Int) => [(0, stO L q)]) (fun k (q : Int) => (p ≤ q ∧ q ≤ p + 100 * k) ∧ rightSv L (5 - k) q = rightSv L 5 p) (p) ?_
  conv => whnf
  refine ⟨(by first | rfl | (simp; done) | (simp; rfl)), ?_, ?_, ?_⟩
  · exact ⟨⟨by omega, by omega⟩, rfl⟩
  · intro k q hk ⟨⟨h1, h2⟩, hi⟩
    have hb := svV_bd L q
    rw [show 5 - k = (5 - (k + 1)) + 1 by omega, rightSv] at hi
    have c1 := rServicesF_pc (hS q (by omega) (by omega)) (by omega)
    have c2 := rServicesFault_pc (svV L q).1 (fun x hx => Nat.le_trans (hb.2.1 x hx) (by decide))
    conv => whnf
    repeat' (first | ((first | refine Split.mk (fun h => ?_) (fun h => ?_) | refine CondG.mk (fun h => ?_) (fun h => ?_)) <;> (try simp only [decide_eq_true_eq, decide_eq_false_iff_not, Bool.not_eq_true', Bool.not_eq_false', beq_iff_eq, beq_eq_false_iff_ne, bne_iff_ne, bne_eq_false_iff_eq] at h) <;> (first | (exfalso; first | omega | exact h trivial) | (conv => whnf))) | (refine CallX.mk _ _ (by first | exact c1 | exact c2) ?_; conv => whnf) | (refine CallG.mk _ _ (by first | exact c1 | exact c2) ?_; conv => whnf) | (refine Ask.mk (by first | omega | (unfold roomOK; simp [cutRows]; done) | (unfold roomOK; simp [cutRows]; omega) | (simp [cutRows]; done) | (simp [cutRows]; omega)) ?_; conv => whnf) | (refine AppG.mk (by first | omega | (unfold roomOK; simp [cutRows]; done) | (unfold roomOK; simp [cutRows]; omega) | (simp [cutRows]; done) | (simp [cutRows]; omega)) ?_; conv => whnf) | (refine SliceG.fr ?_; conv => whnf) | (refine BuildG.fr ?_; conv => whnf) | (refine idx_at _ (by with_reducible rfl) (by first | assumption | omega) ?_; conv => whnf) | ((with_reducible refine row_map (by first | assumption | omega) ?_); conv => whnf) | ((with_reducible refine row_set (by first | assumption | omega | (simp only [List.length_set]; omega) | (simp; omega)) ?_); conv => whnf) | fail)
    · rw [if_pos (by assumption)] at hi
      rw [← hi]
      exact .mk ⟨rfl, rfl⟩
    · rw [if_neg (by assumption)] at hi
      exact count_next (svV L q).2 hk (by rw [wrap_succ hk (by omega)]; rfl) ⟨⟨by omega, by omega⟩, hi⟩
  · intro q ⟨_, hi⟩
    rw [Nat.sub_self, rightSv] at hi
    rw [← hi]
    conv => whnf
    repeat' (first | ((first | refine Split.mk (fun h => ?_) (fun h => ?_) | refine CondG.mk (fun h => ?_) (fun h => ?_)) <;> (try simp only [decide_eq_true_eq, decide_eq_false_iff_not, Bool.not_eq_true', Bool.not_eq_false', beq_iff_eq, beq_eq_false_iff_ne, bne_iff_ne, bne_eq_false_iff_eq] at h) <;> (first | (exfalso; first | omega | exact h trivial) | (conv => whnf))) | (refine Ask.mk (by first | omega | (unfold roomOK; simp [cutRows]; done) | (unfold roomOK; simp [cutRows]; omega) | (simp [cutRows]; done) | (simp [cutRows]; omega)) ?_; conv => whnf) | (refine AppG.mk (by first | omega | (unfold roomOK; simp [cutRows]; done) | (unfold roomOK; simp [cutRows]; omega) | (simp [cutRows]; done) | (simp [cutRows]; omega)) ?_; conv => whnf) | (refine SliceG.fr ?_; conv => whnf) | (refine BuildG.fr ?_; conv => whnf) | (refine idx_at _ (by with_reducible rfl) (by first | assumption | omega) ?_; conv => whnf) | ((with_reducible refine row_map (by first | assumption | omega) ?_); conv => whnf) | ((with_reducible refine row_set (by first | assumption | omega | (simp only [List.length_set]; omega) | (simp; omega)) ?_); conv => whnf) | fail)
    all_goals exact .weak [] (.nil 3) rfl (Nat.le_refl _)
end Go.Proofs.YtjflmenfinohcaaGreat

/- Lists that are overwritten from the begin. -/
namespace Go.Proofs.YtjflmenfinohcaaGreat
set_option linter.unusedVariables false
set_option linter.unusedSimpArgs false
open Abs

def spK {α : Type} (z : α) (l : List α) (k : Nat) : List α := List.replicate k z ++ l.drop k
theorem spK_len {α : Type} (z : α) (l : List α) (k : Nat) (h : k ≤ l.length) : (spK z l k).length = l.length := by unfold spK; simp; omega
theorem spK_set {α : Type} (z : α) (l : List α) (k : Nat) (h : k < l.length) : (spK z l k).set k z = spK z l (k + 1) := by
  unfold spK
  rw [List.set_append, if_neg (by simp), List.length_replicate, Nat.sub_self, List.drop_eq_getElem_cons h, List.set_cons_zero, List.replicate_succ', List.append_assoc]
  rfl
end Go.Proofs.YtjflmenfinohcaaGreat

/- What is down and up, and many services: made. -/
namespace Go.Proofs.YtjflmenfinohcaaGreat
set_option linter.unusedVariables false
set_option linter.unusedSimpArgs false
open Abs

def Few (d u : List ByteArray) : Prop := d.length ≤ 6 ∧ u.length ≤ 6
set_option maxRecDepth 100000 in
set_option maxHeartbeats 4000000 in
theorem rDownUp_pc {L : List Int} {p : Int} (hst : StOk L p) (hp : p ≤ 800000000) (s : List Sv) (hs : s.length ≤ 6) :
    PCq 6 [.c (.ptr 0 0), .c (.lst 3 (s.map encSv))] [stO L p] fun r os => ∃ (down up : List ByteArray) (p' : Int), r = .tup [.c (.lst 1 (down.map encS)), .c (.lst 1 (up.map encS))] ∧ os = [stO L p'] ∧ down.length ≤ 20 ∧ up.length ≤ 20 ∧ p ≤ p' ∧ p' ≤ p + 100 := by
  have hS : ∀ x : Int, p ≤ x → x ≤ p + 100 → StOk L x := fun x h3 h4 => ⟨hst.1, by have := hst.2.1; omega, by omega⟩
  have hsm : (s.map encSv).length = s.length := List.length_map ..
  have hfin : ∀ (d u : List ByteArray) (q : Int), d.length ≤ 20 → u.length ≤ 20 → p ≤ q → q ≤ p + 100 → ∀ (r : S) (os : List Ob), r = .tup [.c (.row 1), .c (.row 2)] → (∃ e1 e2, os = [stO L q, .row e1 1 (d.map encS), .row e2 1 (u.map encS)]) → FinX (fun r os => ∃ (down up : List ByteArray) (p' : Int), r = .tup [.c (.lst 1 (down.map encS)), .c (.lst 1 (up.map encS))] ∧ os = [stO L p'] ∧ down.length ≤ 20 ∧ up.length ≤ 20 ∧ p ≤ p' ∧ p' ≤ p + 100) 1 r os := by
    rintro d u q h1 h2 h3 h4 _ _ rfl ⟨e1, e2, rfl⟩
    refine .mk _ _ ⟨d, u, q, rfl, rfl, h1, h2, h3, h4⟩ (.frz 1 _ _ _ rfl (.frz 2 _ _ _ rfl (.weak [_, _] (.tup _ _ rfl ?_) rfl (Nat.le_refl _))))
    intro i a b ha hb
    match i with
    | 0 => cases ha; cases hb; exact .fro 1 _ _ rfl
    | 1 => cases ha; cases hb; exact .fro 2 _ _ rfl
  refine fn_soundX (mt := mts) tab_fits tab_mixed Tryz.func6 (by rfl) (by kernel_rfl) (by kernel_rfl) Tryz.results6 (Nat.le_of_ble_eq_true (by kernel_rfl)) ?_
  conv => whnf
  refine loop_for3 (s.length) [.sl 6 9 1, .sl 7 9 1] [0, 6, 7, 10, 11, 12] (fun k (q : Int) (d : List ByteArray) (u : List ByteArray) => [(12, .c (.int .i64 (k : Int)))]) (fun k (q : Int) (d : List ByteArray) (u : List ByteArray) => [(0, stO L q), (1, .row 9 1 (d.map encS)), (2, .row 9 1 (u.map encS))]) (fun k (q : Int) (d : List ByteArray) (u : List ByteArray) => d.length ≤ k ∧ u.length ≤ k ∧ q = p + k) (p) ([]) ([]) ?_
  conv => whnf
  refine ⟨(by first | rfl | (simp; done) | (simp; rfl)), ?_, ?_, ?_⟩
  · exact ⟨by simp, by simp, by omega⟩
  · intro k q d u hk ⟨h1, h2, h3⟩
    have hdm : (d.map encS).length = d.length := List.length_map ..
    have hum : (u.map encS).length = u.length := List.length_map ..
    have hQ : ∀ x : Int, q ≤ x → x ≤ q + 14 → StOk L x := fun x h3 h4 => hS x (by omega) (by omega)
    conv => whnf
    repeat' (first | ((first | refine Split.mk (fun h => ?_) (fun h => ?_) | refine CondG.mk (fun h => ?_) (fun h => ?_)) <;> (try simp only [decide_eq_true_eq, decide_eq_false_iff_not, Bool.not_eq_true', Bool.not_eq_false', beq_iff_eq, beq_eq_false_iff_ne, bne_iff_ne, bne_eq_false_iff_eq] at h) <;> (first | (exfalso; first | omega | exact h trivial | (simp [cutRows] at h; done) | (simp [cutRows] at h; omega)) | (conv => whnf))) | (refine CallX.mk _ _ (by first | exact flip_ok (hQ _ (by omega) (by omega)) _ (by omega) | exact next_ok (hQ _ (by omega) (by omega)) _ (by omega) | exact range_ok (hQ _ (by omega) (by omega)) _ _ (by omega) (small_lit (by omega)) (small_lit (by omega)) | exact odd_ok (hQ _ (by omega) (by omega)) (hQ _ (by omega) (by omega)) _ _ (small_lit (by omega)) (small_lit (by omega)) (by omega) | exact pick_ok (hQ _ (by omega) (by omega)) [_] (by simp) (by simp) | exact pick_ok (hQ _ (by omega) (by omega)) [_, _] (by simp) (by simp) | exact pick_ok (hQ _ (by omega) (by omega)) [_, _, _] (by simp) (by simp) | exact pick_ok (hQ _ (by omega) (by omega)) [_, _, _, _] (by simp) (by simp) | exact pick_ok (hQ _ (by omega) (by omega)) [_, _, _, _, _] (by simp) (by simp) | exact pick_ok (hQ _ (by omega) (by omega)) [_, _, _, _, _, _] (by simp) (by simp) | exact pick_ok (hQ _ (by omega) (by omega)) [_, _, _, _, _, _, _] (by simp) (by simp) | exact pick_ok (hQ _ (by omega) (by omega)) [_, _, _, _, _, _, _, _] (by simp) (by simp) | exact pick_ok (hQ _ (by omega) (by omega)) [_, _, _, _, _, _, _, _, _] (by simp) (by simp) | exact pick_ok (hQ _ (by omega) (by omega)) [_, _, _, _, _, _, _, _, _, _] (by simp) (by simp) | exact some_ok (hQ _ (by omega) (by omega)) [_] (by simp) (by simp) | exact some_ok (hQ _ (by omega) (by omega)) [_, _] (by simp) (by simp) | exact some_ok (hQ _ (by omega) (by omega)) [_, _, _] (by simp) (by simp) | exact some_ok (hQ _ (by omega) (by omega)) [_, _, _, _] (by simp) (by simp) | exact some_ok (hQ _ (by omega) (by omega)) [_, _, _, _, _] (by simp) (by simp) | exact some_ok (hQ _ (by omega) (by omega)) [_, _, _, _, _, _] (by simp) (by simp) | exact some_ok (hQ _ (by omega) (by omega)) [_, _, _, _, _, _, _] (by simp) (by simp) | exact some_ok (hQ _ (by omega) (by omega)) [_, _, _, _, _, _, _, _] (by simp) (by simp)) ?_; conv => whnf) | (refine CallG.mk _ _ (by first | exact flip_ok (hQ _ (by omega) (by omega)) _ (by omega) | exact next_ok (hQ _ (by omega) (by omega)) _ (by omega) | exact range_ok (hQ _ (by omega) (by omega)) _ _ (by omega) (small_lit (by omega)) (small_lit (by omega)) | exact odd_ok (hQ _ (by omega) (by omega)) (hQ _ (by omega) (by omega)) _ _ (small_lit (by omega)) (small_lit (by omega)) (by omega) | exact pick_ok (hQ _ (by omega) (by omega)) [_] (by simp) (by simp) | exact pick_ok (hQ _ (by omega) (by omega)) [_, _] (by simp) (by simp) | exact pick_ok (hQ _ (by omega) (by omega)) [_, _, _] (by simp) (by simp) | exact pick_ok (hQ _ (by omega) (by omega)) [_, _, _, _] (by simp) (by simp) | exact pick_ok (hQ _ (by omega) (by omega)) [_, _, _, _, _] (by simp) (by simp) | exact pick_ok (hQ _ (by omega) (by omega)) [_, _, _, _, _, _] (by simp) (by simp) | exact pick_ok (hQ _ (by omega) (by omega)) [_, _, _, _, _, _, _] (by simp) (by simp) | exact pick_ok (hQ _ (by omega) (by omega)) [_, _, _, _, _, _, _, _] (by simp) (by simp) | exact pick_ok (hQ _ (by omega) (by omega)) [_, _, _, _, _, _, _, _, _] (by simp) (by simp) | exact pick_ok (hQ _ (by omega) (by omega)) [_, _, _, _, _, _, _, _, _, _] (by simp) (by simp) | exact some_ok (hQ _ (by omega) (by omega)) [_] (by simp) (by simp) | exact some_ok (hQ _ (by omega) (by omega)) [_, _] (by simp) (by simp) | exact some_ok (hQ _ (by omega) (by omega)) [_, _, _] (by simp) (by simp) | exact some_ok (hQ _ (by omega) (by omega)) [_, _, _, _] (by simp) (by simp) | exact some_ok (hQ _ (by omega) (by omega)) [_, _, _, _, _] (by simp) (by simp) | exact some_ok (hQ _ (by omega) (by omega)) [_, _, _, _, _, _] (by simp) (by simp) | exact some_ok (hQ _ (by omega) (by omega)) [_, _, _, _, _, _, _] (by simp) (by simp) | exact some_ok (hQ _ (by omega) (by omega)) [_, _, _, _, _, _, _, _] (by simp) (by simp)) ?_; conv => whnf) | (refine Ask.mk (by first | omega | (unfold roomOK; simp [cutRows]; done) | (unfold roomOK; simp [cutRows]; omega) | (simp [cutRows]; done) | (simp [cutRows]; omega)) ?_; conv => whnf) | (refine AppG.mk (by first | omega | (unfold roomOK; simp [cutRows]; done) | (unfold roomOK; simp [cutRows]; omega) | (simp [cutRows]; done) | (simp [cutRows]; omega)) ?_; conv => whnf) | (refine SliceG.fr ?_; conv => whnf) | (refine BuildG.fr ?_; conv => whnf) | (refine idx_at _ (by with_reducible rfl) (by first | assumption | omega) ?_; conv => whnf) | ((with_reducible refine row_map (by first | assumption | omega) ?_); conv => whnf) | (refine row_str (by rfl) (by first | (simp [cutRows]; done) | (simp [cutRows]; omega)) ?_; intro str; conv => whnf) | ((with_reducible refine row_set (by first | assumption | omega | (simp only [List.length_set]; omega) | (simp; omega)) ?_); conv => whnf) | fail)
    · exact count_next (q + 1, d ++ [_], u) hk (by rw [wrap_succ hk (by omega), List.map_append]; rfl) ⟨by simp; omega, by simp only; omega, by simp only; omega⟩
    · exact count_next (q + 1, d, u ++ [_]) hk (by rw [wrap_succ hk (by omega), List.map_append]; rfl) ⟨by simp only; omega, by simp; omega, by simp only; omega⟩
    · exact count_next (q + 1, d, u) hk (by rw [wrap_succ hk (by omega)]; rfl) ⟨by simp only; omega, by simp only; omega, by simp only; omega⟩
  · intro q d u ⟨h1, h2, h3⟩
    have hdm : (d.map encS).length = d.length := List.length_map ..
    have hum : (u.map encS).length = u.length := List.length_map ..
    have hQ : ∀ x : Int, q ≤ x → x ≤ q + 14 → StOk L x := fun x h3 h4 => hS x (by omega) (by omega)
    have hb : Few d u := ⟨by omega, by omega⟩
    have hq : p ≤ q ∧ q ≤ p + 10 := by omega
    clear h1 h2 h3
    conv => whnf
    repeat' (first | ((first | refine Split.mk (fun h => ?_) (fun h => ?_) | refine CondG.mk (fun h => ?_) (fun h => ?_)) <;> (try simp only [decide_eq_true_eq, decide_eq_false_iff_not, Bool.not_eq_true', Bool.not_eq_false', beq_iff_eq, beq_eq_false_iff_ne, bne_iff_ne, bne_eq_false_iff_eq] at h) <;> (first | (exfalso; first | omega | exact h trivial | (simp [cutRows] at h; done) | (simp [cutRows] at h; omega)) | (conv => whnf))) | (refine CallX.mk _ _ (by first | exact flip_ok (hQ _ (by omega) (by omega)) _ (by omega) | exact next_ok (hQ _ (by omega) (by omega)) _ (by omega) | exact range_ok (hQ _ (by omega) (by omega)) _ _ (by omega) (small_lit (by omega)) (small_lit (by omega)) | exact odd_ok (hQ _ (by omega) (by omega)) (hQ _ (by omega) (by omega)) _ _ (small_lit (by omega)) (small_lit (by omega)) (by omega) | exact pick_ok (hQ _ (by omega) (by omega)) [_] (by simp) (by simp) | exact pick_ok (hQ _ (by omega) (by omega)) [_, _] (by simp) (by simp) | exact pick_ok (hQ _ (by omega) (by omega)) [_, _, _] (by simp) (by simp) | exact pick_ok (hQ _ (by omega) (by omega)) [_, _, _, _] (by simp) (by simp) | exact pick_ok (hQ _ (by omega) (by omega)) [_, _, _, _, _] (by simp) (by simp) | exact pick_ok (hQ _ (by omega) (by omega)) [_, _, _, _, _, _] (by simp) (by simp) | exact pick_ok (hQ _ (by omega) (by omega)) [_, _, _, _, _, _, _] (by simp) (by simp) | exact pick_ok (hQ _ (by omega) (by omega)) [_, _, _, _, _, _, _, _] (by simp) (by simp) | exact pick_ok (hQ _ (by omega) (by omega)) [_, _, _, _, _, _, _, _, _] (by simp) (by simp) | exact pick_ok (hQ _ (by omega) (by omega)) [_, _, _, _, _, _, _, _, _, _] (by simp) (by simp) | exact some_ok (hQ _ (by omega) (by omega)) [_] (by simp) (by simp) | exact some_ok (hQ _ (by omega) (by omega)) [_, _] (by simp) (by simp) | exact some_ok (hQ _ (by omega) (by omega)) [_, _, _] (by simp) (by simp) | exact some_ok (hQ _ (by omega) (by omega)) [_, _, _, _] (by simp) (by simp) | exact some_ok (hQ _ (by omega) (by omega)) [_, _, _, _, _] (by simp) (by simp) | exact some_ok (hQ _ (by omega) (by omega)) [_, _, _, _, _, _] (by simp) (by simp) | exact some_ok (hQ _ (by omega) (by omega)) [_, _, _, _, _, _, _] (by simp) (by simp) | exact some_ok (hQ _ (by omega) (by omega)) [_, _, _, _, _, _, _, _] (by simp) (by simp)) ?_; conv => whnf) | (refine CallG.mk _ _ (by first | exact flip_ok (hQ _ (by omega) (by omega)) _ (by omega) | exact next_ok (hQ _ (by omega) (by omega)) _ (by omega) | exact range_ok (hQ _ (by omega) (by omega)) _ _ (by omega) (small_lit (by omega)) (small_lit (by omega)) | exact odd_ok (hQ _ (by omega) (by omega)) (hQ _ (by omega) (by omega)) _ _ (small_lit (by omega)) (small_lit (by omega)) (by omega) | exact pick_ok (hQ _ (by omega) (by omega)) [_] (by simp) (by simp) | exact pick_ok (hQ _ (by omega) (by omega)) [_, _] (by simp) (by simp) | exact pick_ok (hQ _ (by omega) (by omega)) [_, _, _] (by simp) (by simp) | exact pick_ok (hQ _ (by omega) (by omega)) [_, _, _, _] (by simp) (by simp) | exact pick_ok (hQ _ (by omega) (by omega)) [_, _, _, _, _] (by simp) (by simp) | exact pick_ok (hQ _ (by omega) (by omega)) [_, _, _, _, _, _] (by simp) (by simp) | exact pick_ok (hQ _ (by omega) (by omega)) [_, _, _, _, _, _, _] (by simp) (by simp) | exact pick_ok (hQ _ (by omega) (by omega)) [_, _, _, _, _, _, _, _] (by simp) (by simp) | exact pick_ok (hQ _ (by omega) (by omega)) [_, _, _, _, _, _, _, _, _] (by simp) (by simp) | exact pick_ok (hQ _ (by omega) (by omega)) [_, _, _, _, _, _, _, _, _, _] (by simp) (by simp) | exact some_ok (hQ _ (by omega) (by omega)) [_] (by simp) (by simp) | exact some_ok (hQ _ (by omega) (by omega)) [_, _] (by simp) (by simp) | exact some_ok (hQ _ (by omega) (by omega)) [_, _, _] (by simp) (by simp) | exact some_ok (hQ _ (by omega) (by omega)) [_, _, _, _] (by simp) (by simp) | exact some_ok (hQ _ (by omega) (by omega)) [_, _, _, _, _] (by simp) (by simp) | exact some_ok (hQ _ (by omega) (by omega)) [_, _, _, _, _, _] (by simp) (by simp) | exact some_ok (hQ _ (by omega) (by omega)) [_, _, _, _, _, _, _] (by simp) (by simp) | exact some_ok (hQ _ (by omega) (by omega)) [_, _, _, _, _, _, _, _] (by simp) (by simp)) ?_; conv => whnf) | (refine Ask.mk (by first | omega | (unfold roomOK; simp [cutRows]; done) | (unfold roomOK; simp [cutRows]; omega) | (simp [cutRows]; done) | (simp [cutRows]; omega)) ?_; conv => whnf) | (refine AppG.mk (by first | omega | (unfold roomOK; simp [cutRows]; done) | (unfold roomOK; simp [cutRows]; omega) | (simp [cutRows]; done) | (simp [cutRows]; omega)) ?_; conv => whnf) | (refine SliceG.fr ?_; conv => whnf) | (refine BuildG.fr ?_; conv => whnf) | (refine idx_at _ (by with_reducible rfl) (by first | assumption | omega) ?_; conv => whnf) | ((with_reducible refine row_map (by first | assumption | omega) ?_); conv => whnf) | (refine row_str (by rfl) (by first | (simp [cutRows]; done) | (simp [cutRows]; omega)) ?_; intro str; conv => whnf) | ((with_reducible refine row_set (by first | assumption | omega | (simp only [List.length_set]; omega) | (simp; omega)) ?_); conv => whnf) | fail)
    all_goals obtain ⟨h1, h2⟩ := hb
    · repeat' (first
        | (refine Split.mk (fun h => ?_) (fun h => ?_) <;> (try simp only [decide_eq_true_eq, decide_eq_false_iff_not, Bool.not_eq_true', Bool.not_eq_false', beq_iff_eq, beq_eq_false_iff_ne, bne_iff_ne, bne_eq_false_iff_eq] at h) <;> (first | (exfalso; first | omega | exact h trivial) | (conv => whnf)))
        | (refine CondG.mk (fun h => ?_) (fun h => ?_) <;> (try simp only [decide_eq_true_eq, decide_eq_false_iff_not, Bool.not_eq_true', Bool.not_eq_false', beq_iff_eq, beq_eq_false_iff_ne, bne_iff_ne, bne_eq_false_iff_eq] at h) <;> (first | (exfalso; first | omega | exact h trivial) | (conv => whnf)))
        | (refine Ask.mk (by first | omega | (unfold roomOK; simp [cutRows]; done) | (unfold roomOK; simp [cutRows]; omega) | (simp [cutRows]; done) | (simp [cutRows]; omega)) ?_; conv => whnf)
        | (refine AppG.mk (by first | omega | (unfold roomOK; simp [cutRows]; done) | (unfold roomOK; simp [cutRows]; omega) | (simp [cutRows]; done) | (simp [cutRows]; omega)) ?_; conv => whnf)
        | (refine SliceG.fr ?_; conv => whnf)
        | (refine BuildG.fr ?_; conv => whnf)
        | (refine idx_at _ (by with_reducible rfl) (by first | assumption | omega) ?_; conv => whnf)
        | ((with_reducible refine row_map (by first | assumption | omega) ?_); conv => whnf)
        | ((with_reducible refine row_set (by first | assumption | omega | (simp only [List.length_set]; omega) | (simp; omega)) ?_); conv => whnf)
        | fail)
      exact hfin (d ++ [_]) u (q + 1 + 1 + 1) (by simp; omega) (by omega) (by omega) (by omega) _ _ rfl ⟨_, _, by rw [List.map_append]; rfl⟩
    · repeat' (first
        | (refine Split.mk (fun h => ?_) (fun h => ?_) <;> (try simp only [decide_eq_true_eq, decide_eq_false_iff_not, Bool.not_eq_true', Bool.not_eq_false', beq_iff_eq, beq_eq_false_iff_ne, bne_iff_ne, bne_eq_false_iff_eq] at h) <;> (first | (exfalso; first | omega | exact h trivial) | (conv => whnf)))
        | (refine CondG.mk (fun h => ?_) (fun h => ?_) <;> (try simp only [decide_eq_true_eq, decide_eq_false_iff_not, Bool.not_eq_true', Bool.not_eq_false', beq_iff_eq, beq_eq_false_iff_ne, bne_iff_ne, bne_eq_false_iff_eq] at h) <;> (first | (exfalso; first | omega | exact h trivial) | (conv => whnf)))
        | (refine Ask.mk (by first | omega | (unfold roomOK; simp [cutRows]; done) | (unfold roomOK; simp [cutRows]; omega) | (simp [cutRows]; done) | (simp [cutRows]; omega)) ?_; conv => whnf)
        | (refine AppG.mk (by first | omega | (unfold roomOK; simp [cutRows]; done) | (unfold roomOK; simp [cutRows]; omega) | (simp [cutRows]; done) | (simp [cutRows]; omega)) ?_; conv => whnf)
        | (refine SliceG.fr ?_; conv => whnf)
        | (refine BuildG.fr ?_; conv => whnf)
        | (refine idx_at _ (by with_reducible rfl) (by first | assumption | omega) ?_; conv => whnf)
        | ((with_reducible refine row_map (by first | assumption | omega) ?_); conv => whnf)
        | ((with_reducible refine row_set (by first | assumption | omega | (simp only [List.length_set]; omega) | (simp; omega)) ?_); conv => whnf)
        | fail)
      exact hfin d (u ++ [_]) (q + 1 + 1 + 1) (by omega) (by simp; omega) (by omega) (by omega) _ _ rfl ⟨_, _, by rw [List.map_append]; rfl⟩
    · refine .fr (by unfold roomOK; simp; omega) ?_
      conv => whnf
      repeat' (first | ((first | refine Split.mk (fun h => ?_) (fun h => ?_) | refine CondG.mk (fun h => ?_) (fun h => ?_)) <;> (try simp only [decide_eq_true_eq, decide_eq_false_iff_not, Bool.not_eq_true', Bool.not_eq_false', beq_iff_eq, beq_eq_false_iff_ne, bne_iff_ne, bne_eq_false_iff_eq] at h) <;> (first | (exfalso; first | omega | exact h trivial) | (conv => whnf))) | (refine Ask.mk (by first | omega | (unfold roomOK; simp [cutRows]; done) | (unfold roomOK; simp [cutRows]; omega) | (simp [cutRows]; done) | (simp [cutRows]; omega)) ?_; conv => whnf) | (refine AppG.mk (by first | omega | (unfold roomOK; simp [cutRows]; done) | (unfold roomOK; simp [cutRows]; omega) | (simp [cutRows]; done) | (simp [cutRows]; omega)) ?_; conv => whnf) | (refine SliceG.fr ?_; conv => whnf) | (refine BuildG.fr ?_; conv => whnf) | (refine idx_at _ (by with_reducible rfl) (by first | assumption | omega) ?_; conv => whnf) | ((with_reducible refine row_map (by first | assumption | omega) ?_); conv => whnf) | ((with_reducible refine row_set (by first | assumption | omega | (simp only [List.length_set]; omega) | (simp; omega)) ?_); conv => whnf) | fail)
      refine .mk _ _ ⟨d ++ u, u ++ d, q + 1 + 1, rfl, rfl, by simp; omega, by simp; omega, by omega, by omega⟩ (.frz 2 _ _ _ rfl (.weak [_, _] (.tup _ _ rfl ?_) rfl (Nat.le_refl _)))
      intro i a b ha hb
      match i with
      | 0 => cases ha; cases hb; exact .fro 1 _ _ (by rw [List.map_append]; rfl)
      | 1 => cases ha; cases hb; exact .fro 2 _ _ (by rw [List.map_append]; rfl)
    · exact hfin d u _ (by omega) (by omega) (by omega) (by omega) _ _ rfl ⟨_, _, rfl⟩
end Go.Proofs.YtjflmenfinohcaaGreat

/- Ducts are found; cables are checked. -/
namespace Go.Proofs.YtjflmenfinohcaaGreat
set_option linter.unusedVariables false
set_option linter.unusedSimpArgs false
open Abs

set_option maxRecDepth 100000 in
set_option maxHeartbeats 4000000 in
theorem find1_pc (x : Du) (k : ByteArray) : PCp 139 [.agg (encDu x), .c (.str k)] [] (.c (.int .i64 (cmpS x.key k))) [] := by
  refine fn_sound (mt := mts) tab_fits tab_mixed Tryz.func139 (by rfl) (by kernel_rfl) (by kernel_rfl) Tryz.results139 (Nat.le_of_ble_eq_true (by kernel_rfl)) ?_
  conv => whnf
  repeat' (first | ((first | refine Split.mk (fun h => ?_) (fun h => ?_) | refine CondG.mk (fun h => ?_) (fun h => ?_)) <;> (try simp only [decide_eq_true_eq, decide_eq_false_iff_not, Bool.not_eq_true', Bool.not_eq_false', beq_iff_eq, beq_eq_false_iff_ne, bne_iff_ne, bne_eq_false_iff_eq] at h) <;> (first | (exfalso; first | omega | exact h trivial) | (conv => whnf))) | (refine CallX.mk _ _ (by first | exact sCompare_pc _ _) ?_; conv => whnf) | (refine CallG.mk _ _ (by first | exact sCompare_pc _ _) ?_; conv => whnf) | (refine Ask.mk (by first | omega | (unfold roomOK; simp [cutRows]; done) | (unfold roomOK; simp [cutRows]; omega) | (simp [cutRows]; done) | (simp [cutRows]; omega)) ?_; conv => whnf) | (refine AppG.mk (by first | omega | (unfold roomOK; simp [cutRows]; done) | (unfold roomOK; simp [cutRows]; omega) | (simp [cutRows]; done) | (simp [cutRows]; omega)) ?_; conv => whnf) | (refine SliceG.fr ?_; conv => whnf) | (refine BuildG.fr ?_; conv => whnf) | (refine idx_at _ (by with_reducible rfl) (by first | assumption | omega) ?_; conv => whnf) | ((with_reducible refine row_map (by first | assumption | omega) ?_); conv => whnf) | ((with_reducible refine row_set (by first | assumption | omega | (simp only [List.length_set]; omega) | (simp; omega)) ?_); conv => whnf) | fail)
  exact fini rfl
set_option maxRecDepth 100000 in
set_option maxHeartbeats 4000000 in
theorem find_pc (d : List Du) (hd : DuOk d) (k : ByteArray) : PCp 103 [.c (.lst 5 (d.map encDu)), .c (.str k)] [] (.tup [.agg (encDu (duG d k)), .c (.bool (hasD d k))]) [] := by
  have hlm : (d.map encDu).length = d.length := List.length_map ..
  have hc : ∀ x : Du, (cmpS x.key k < 0 ↔ ltB x.key k = true) ∧ (cmpS x.key k = 0 ↔ x.key = k) := fun x => ⟨cmp_lt, cmp_zero⟩
  have hf := find_rise (c := fun x : Du => cmpS x.key k) hc hd.rise
  have hl := hd.len
  refine fn_sound (mt := mts) tab_fits tab_mixed Tryz.func103 (by rfl) (by kernel_rfl) (by kernel_rfl) Tryz.results103 (Nat.le_of_ble_eq_true (by kernel_rfl)) ?_
  conv => whnf
  repeat' (first | ((first | refine Split.mk (fun h => ?_) (fun h => ?_) | refine CondG.mk (fun h => ?_) (fun h => ?_)) <;> (try simp only [decide_eq_true_eq, decide_eq_false_iff_not, Bool.not_eq_true', Bool.not_eq_false', beq_iff_eq, beq_eq_false_iff_ne, bne_iff_ne, bne_eq_false_iff_eq] at h) <;> (first | (exfalso; first | omega | exact h trivial) | (conv => whnf))) | (refine CallX.mk _ _ (by first | exact bsDu_pc 139 (fun x => cmpS x.key k) (.c (.str k)) d (by omega) (rise_mono (fun x => cmp_lt) hd.rise) ⟨_, rfl⟩ (fun x _ => find1_pc x k)) ?_; conv => whnf) | (refine CallG.mk _ _ (by first | exact bsDu_pc 139 (fun x => cmpS x.key k) (.c (.str k)) d (by omega) (rise_mono (fun x => cmp_lt) hd.rise) ⟨_, rfl⟩ (fun x _ => find1_pc x k)) ?_; conv => whnf) | (refine Ask.mk (by first | omega | (unfold roomOK; simp [cutRows]; done) | (unfold roomOK; simp [cutRows]; omega) | (simp [cutRows]; done) | (simp [cutRows]; omega)) ?_; conv => whnf) | (refine AppG.mk (by first | omega | (unfold roomOK; simp [cutRows]; done) | (unfold roomOK; simp [cutRows]; omega) | (simp [cutRows]; done) | (simp [cutRows]; omega)) ?_; conv => whnf) | (refine SliceG.fr ?_; conv => whnf) | (refine BuildG.fr ?_; conv => whnf) | (refine idx_at _ (by with_reducible rfl) (by first | assumption | omega) ?_; conv => whnf) | ((with_reducible refine row_map (by first | assumption | omega) ?_); conv => whnf) | ((with_reducible refine row_set (by first | assumption | omega | (simp only [List.length_set]; omega) | (simp; omega)) ?_); conv => whnf) | fail)
  · have hn : duAt d k = none := by unfold duAt; rw [hf, h]; rfl
    exact .mk ⟨by unfold duG hasD; rw [hn]; rfl, rfl⟩
  · have hlt : cntL (fun x : Du => cmpS x.key k) d < d.length := by
      rcases Nat.lt_or_ge (cntL (fun x : Du => cmpS x.key k) d) d.length with h1 | h1
      · exact h1
      · unfold hitL at h; rw [List.getElem?_eq_none h1] at h; cases h
    have hn : duAt d k = some (d[cntL (fun x : Du => cmpS x.key k) d]) := by unfold duAt; rw [hf, if_pos h, List.getElem?_eq_getElem hlt]
    refine idx_map _ hlt rfl ?_
    conv => whnf
    exact .mk ⟨by unfold duG hasD; rw [hn]; rfl, rfl⟩
set_option maxRecDepth 100000 in
set_option maxHeartbeats 4000000 in
theorem cableFault_pc (d : List Du) (hd : DuOk d) (x : Ly) (hx : x.ducts.length ≤ 1000000) : PCp 137 [.c (.lst 5 (d.map encDu)), .agg (encLy x)] [] (.c (.int .i64 (cabErr d x))) [] := by
  have hlm : (x.ducts.map encS).length = x.ducts.length := List.length_map ..
  refine fn_sound (mt := mts) tab_fits tab_mixed Tryz.func137 (by rfl) (by kernel_rfl) (by kernel_rfl) Tryz.results137 (Nat.le_of_ble_eq_true (by kernel_rfl)) ?_
  conv => whnf
  repeat' (first | ((first | refine Split.mk (fun h => ?_) (fun h => ?_) | refine CondG.mk (fun h => ?_) (fun h => ?_)) <;> (try simp only [decide_eq_true_eq, decide_eq_false_iff_not, Bool.not_eq_true', Bool.not_eq_false', beq_iff_eq, beq_eq_false_iff_ne, bne_iff_ne, bne_eq_false_iff_eq] at h) <;> (first | (exfalso; first | omega | exact h trivial) | (conv => whnf))) | (refine CallX.mk _ _ (by first | exact bOut_pc _ _ _) ?_; conv => whnf) | (refine CallG.mk _ _ (by first | exact bOut_pc _ _ _) ?_; conv => whnf) | (refine Ask.mk (by first | omega | (unfold roomOK; simp [cutRows]; done) | (unfold roomOK; simp [cutRows]; omega) | (simp [cutRows]; done) | (simp [cutRows]; omega)) ?_; conv => whnf) | (refine AppG.mk (by first | omega | (unfold roomOK; simp [cutRows]; done) | (unfold roomOK; simp [cutRows]; omega) | (simp [cutRows]; done) | (simp [cutRows]; omega)) ?_; conv => whnf) | (refine SliceG.fr ?_; conv => whnf) | (refine BuildG.fr ?_; conv => whnf) | (refine idx_at _ (by with_reducible rfl) (by first | assumption | omega) ?_; conv => whnf) | ((with_reducible refine row_map (by first | assumption | omega) ?_); conv => whnf) | ((with_reducible refine row_set (by first | assumption | omega | (simp only [List.length_set]; omega) | (simp; omega)) ?_); conv => whnf) | fail)
  · exact fini (by rw [cabErr, if_pos h])
  · exact fini (by rw [cabErr, if_neg (by assumption), if_pos (by omega)])
  · exact fini (by rw [cabErr, if_neg (by assumption), if_neg (by omega), if_pos (by omega)])
  have hF : cabErr d x = seqErr (keyErr (hasD d)) id true ⟨#[]⟩ x.ducts := by rw [cabErr, if_neg (by assumption), if_neg (by omega), if_neg (by omega)]
  refine loop_for (x.ducts.length) [] [0, 3, 24, 25, 26] (fun k (_ : Unit) => [(26, .c (.int .i64 (k : Int)))]) (fun k (_ : Unit) => []) (fun k (_ : Unit) => seqErr (keyErr (hasD d)) id (decide (k = 0)) (befK id x.ducts k) (x.ducts.drop k) = cabErr d x) (()) ?_
  conv => whnf
  refine ⟨(by first | rfl | (simp; done) | (simp; rfl)), ?_, ?_, ?_⟩
  · exact hF.symm
  · intro k _ hk hi
    conv => whnf
    repeat' (first | ((first | refine Split.mk (fun h => ?_) (fun h => ?_) | refine CondG.mk (fun h => ?_) (fun h => ?_)) <;> (try simp only [decide_eq_true_eq, decide_eq_false_iff_not, Bool.not_eq_true', Bool.not_eq_false', beq_iff_eq, beq_eq_false_iff_ne, bne_iff_ne, bne_eq_false_iff_eq] at h) <;> (first | (exfalso; first | omega | exact h trivial) | (conv => whnf))) | (refine CallX.mk _ _ (by first | exact find_pc d hd _) ?_; conv => whnf) | (refine CallG.mk _ _ (by first | exact find_pc d hd _) ?_; conv => whnf) | (refine Ask.mk (by first | omega | (unfold roomOK; simp [cutRows]; done) | (unfold roomOK; simp [cutRows]; omega) | (simp [cutRows]; done) | (simp [cutRows]; omega)) ?_; conv => whnf) | (refine AppG.mk (by first | omega | (unfold roomOK; simp [cutRows]; done) | (unfold roomOK; simp [cutRows]; omega) | (simp [cutRows]; done) | (simp [cutRows]; omega)) ?_; conv => whnf) | (refine SliceG.fr ?_; conv => whnf) | (refine BuildG.fr ?_; conv => whnf) | (refine idx_at _ (by with_reducible rfl) (by first | assumption | omega) ?_; conv => whnf) | ((with_reducible refine row_map (by first | assumption | omega) ?_); conv => whnf) | ((with_reducible refine row_set (by first | assumption | omega | (simp only [List.length_set]; omega) | (simp; omega)) ?_); conv => whnf) | ((refine idx_map (k - 1) (by omega) (by rw [wrap_in (by omega) (by omega)]; omega) ?_); conv => whnf) | fail)
    all_goals try simp only [toList_eq'] at *
    all_goals have hb := befK_pos (key := id) (l := x.ducts) (Nat.le_of_lt hk)
    all_goals first
      | (refine fini (seq_hit hk hi ?_ (by decide)); clear hi hF; unfold keyErr; (try rw [hb (by omega)]); (repeat' split) <;> first | rfl | (exfalso; first | omega | (simp_all [leB, toList_eq']; done) | (simp_all [leB, toList_eq']; omega)))
      | (refine count_next () hk (by rw [wrap_succ hk (by omega)]; rfl) (seq_next' hk hi ?_); clear hi hF; unfold keyErr; (try rw [hb (by omega)]); (repeat' split) <;> first | rfl | (exfalso; first | omega | (simp_all [leB, toList_eq']; done) | (simp_all [leB, toList_eq']; omega)))
  · intro _ hi
    conv => whnf
    repeat' (first | ((first | refine Split.mk (fun h => ?_) (fun h => ?_) | refine CondG.mk (fun h => ?_) (fun h => ?_)) <;> (try simp only [decide_eq_true_eq, decide_eq_false_iff_not, Bool.not_eq_true', Bool.not_eq_false', beq_iff_eq, beq_eq_false_iff_ne, bne_iff_ne, bne_eq_false_iff_eq] at h) <;> (first | (exfalso; first | omega | exact h trivial) | (conv => whnf))) | (refine Ask.mk (by first | omega | (unfold roomOK; simp [cutRows]; done) | (unfold roomOK; simp [cutRows]; omega) | (simp [cutRows]; done) | (simp [cutRows]; omega)) ?_; conv => whnf) | (refine AppG.mk (by first | omega | (unfold roomOK; simp [cutRows]; done) | (unfold roomOK; simp [cutRows]; omega) | (simp [cutRows]; done) | (simp [cutRows]; omega)) ?_; conv => whnf) | (refine SliceG.fr ?_; conv => whnf) | (refine BuildG.fr ?_; conv => whnf) | (refine idx_at _ (by with_reducible rfl) (by first | assumption | omega) ?_; conv => whnf) | ((with_reducible refine row_map (by first | assumption | omega) ?_); conv => whnf) | ((with_reducible refine row_set (by first | assumption | omega | (simp only [List.length_set]; omega) | (simp; omega)) ?_); conv => whnf) | fail)
    exact fini (seq_end hi).symm
end Go.Proofs.YtjflmenfinohcaaGreat
