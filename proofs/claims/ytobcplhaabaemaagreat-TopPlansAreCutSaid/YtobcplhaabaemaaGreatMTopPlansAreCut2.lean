/- Parts of the proof, in order. -/
import Derived.Test.YtobcplhaabaemaaGreatMTopPlansAreCut1

/- Acts in a store, by the abstract walk. -/
namespace Go.Proofs.YtobcplhaabaemaaGreat
set_option linter.unusedVariables false
set_option linter.unusedSimpArgs false
open Abs

structure Ac where
  mo : Int
  kd : Int
  drum : ByteArray
  ty : ByteArray
  of : ByteArray
  long : Int
def encAc (x : Ac) : List V := [.int .i64 x.mo, .int .i64 x.kd, .str x.drum, .str x.ty, .str x.of, .int .i64 x.long]
def momB (n : Int) : Bool := decide (0 ≤ n ∧ n ≤ 345686399999)
set_option maxRecDepth 100000 in
set_option maxHeartbeats 4000000 in
theorem bMoment_pc (n : Int) : PCp 86 [.c (.int .i64 n)] [] (.c (.bool (momB n))) [] := by
  refine fn_sound (mt := mts) tab_fits tab_mixed Tryz.func86 (by rfl) (by kernel_rfl) (by kernel_rfl) Tryz.results86 (Nat.le_of_ble_eq_true (by kernel_rfl)) ?_
  conv => whnf
  repeat' (first | ((first | refine Split.mk (fun h => ?_) (fun h => ?_) | refine CondG.mk (fun h => ?_) (fun h => ?_)) <;> (try simp only [decide_eq_true_eq, decide_eq_false_iff_not, Bool.not_eq_true', Bool.not_eq_false', beq_iff_eq, beq_eq_false_iff_ne] at h) <;> (first | (exfalso; first | omega | exact h trivial) | (conv => whnf))) | (refine CallX.mk _ _ (by first | exact bOut_pc _ _ _) ?_; conv => whnf) | (refine CallG.mk _ _ (by first | exact bOut_pc _ _ _) ?_; conv => whnf) | (refine Ask.mk (by first | omega | (unfold roomOK; simp [cutRows]; done) | (unfold roomOK; simp [cutRows]; omega)) ?_; conv => whnf) | (refine AppG.mk (by first | omega | (unfold roomOK; simp [cutRows]; done) | (unfold roomOK; simp [cutRows]; omega)) ?_; conv => whnf) | (refine SliceG.fr ?_; conv => whnf) | fail)
  exact finb (by unfold momB; rw [Bool.eq_iff_iff]; simp; try omega)
def actErr (x : Ac) : Int :=
  if !momB x.mo then 1 else if x.kd < 1 ∨ 4 < x.kd then 4
  else if !keyB x.drum || (x.kd == 1 && !keyB x.ty) || (x.kd == 3 && !keyB x.of) then 5
  else if x.kd ≠ 4 ∧ (x.long < 1 ∨ 200000 < x.long) then 1
  else if (x.kd ≠ 1 ∧ x.ty.toList ≠ (⟨#[]⟩ : ByteArray).toList) ∨ (x.kd ≠ 3 ∧ x.of.toList ≠ (⟨#[]⟩ : ByteArray).toList) ∨ (x.kd = 4 ∧ x.long ≠ 0) then 3 else 0
set_option maxRecDepth 100000 in
set_option maxHeartbeats 4000000 in
theorem dActFault_pc (x : Ac) : PCp 81 [.agg (encAc x)] [] (.c (.int .i64 (actErr x))) [] := by
  refine fn_sound (mt := mts) tab_fits tab_mixed Tryz.func81 (by rfl) (by kernel_rfl) (by kernel_rfl) Tryz.results81 (Nat.le_of_ble_eq_true (by kernel_rfl)) ?_
  conv => whnf
  repeat' (first | ((first | refine Split.mk (fun h => ?_) (fun h => ?_) | refine CondG.mk (fun h => ?_) (fun h => ?_)) <;> (try simp only [decide_eq_true_eq, decide_eq_false_iff_not, Bool.not_eq_true', Bool.not_eq_false', beq_iff_eq, beq_eq_false_iff_ne] at h) <;> (first | (exfalso; first | omega | exact h trivial) | (conv => whnf))) | (refine CallX.mk _ _ (by first | exact bMoment_pc _ | exact bOut_pc _ _ _ | exact bKey_pc _) ?_; conv => whnf) | (refine CallG.mk _ _ (by first | exact bMoment_pc _ | exact bOut_pc _ _ _ | exact bKey_pc _) ?_; conv => whnf) | (refine Ask.mk (by first | omega | (unfold roomOK; simp [cutRows]; done) | (unfold roomOK; simp [cutRows]; omega)) ?_; conv => whnf) | (refine AppG.mk (by first | omega | (unfold roomOK; simp [cutRows]; done) | (unfold roomOK; simp [cutRows]; omega)) ?_; conv => whnf) | (refine SliceG.fr ?_; conv => whnf) | fail)
  all_goals refine fini ?_
  all_goals unfold actErr
  all_goals generalize (⟨#[]⟩ : ByteArray).toList = nl at *
  all_goals simp_all
  all_goals omega
def cmpI (a b : Int) : Int := if a < b then -1 else if b < a then 1 else 0
set_option maxRecDepth 100000 in
set_option maxHeartbeats 4000000 in
theorem isNaNI_pc (a : Int) : PCp 118 [.c (.int .i64 a)] [] (.c (.bool false)) [] := by
  refine fn_sound (mt := mts) tab_fits tab_mixed Tryz.func118 (by rfl) (by kernel_rfl) (by kernel_rfl) Tryz.results118 (Nat.le_of_ble_eq_true (by kernel_rfl)) ?_
  conv => whnf
  exact finb (by simp)
set_option maxRecDepth 100000 in
set_option maxHeartbeats 4000000 in
theorem cmpI_pc (a b : Int) : PCp 85 [.c (.int .i64 a), .c (.int .i64 b)] [] (.c (.int .i64 (cmpI a b))) [] := by
  refine fn_sound (mt := mts) tab_fits tab_mixed Tryz.func85 (by rfl) (by kernel_rfl) (by kernel_rfl) Tryz.results85 (Nat.le_of_ble_eq_true (by kernel_rfl)) ?_
  conv => whnf
  repeat' (first | ((first | refine Split.mk (fun h => ?_) (fun h => ?_) | refine CondG.mk (fun h => ?_) (fun h => ?_)) <;> (try simp only [decide_eq_true_eq, decide_eq_false_iff_not, Bool.not_eq_true', Bool.not_eq_false', beq_iff_eq, beq_eq_false_iff_ne] at h) <;> (first | (exfalso; first | omega | exact h trivial) | (conv => whnf))) | (refine CallX.mk _ _ (by first | exact isNaNI_pc _) ?_; conv => whnf) | (refine CallG.mk _ _ (by first | exact isNaNI_pc _) ?_; conv => whnf) | (refine Ask.mk (by first | omega | (unfold roomOK; simp [cutRows]; done) | (unfold roomOK; simp [cutRows]; omega)) ?_; conv => whnf) | (refine AppG.mk (by first | omega | (unfold roomOK; simp [cutRows]; done) | (unfold roomOK; simp [cutRows]; omega)) ?_; conv => whnf) | (refine SliceG.fr ?_; conv => whnf) | fail)
  all_goals exact fini (by simp_all [cmpI] <;> omega)
set_option maxRecDepth 100000 in
set_option maxHeartbeats 4000000 in
theorem orI_pc (l : List Int) (hl : l.length ≤ 1000000) : PCp 84 [.c (.lst 1 (l.map encI))] [] (.c (.int .i64 (firstErr l))) [] := by
  have hlm : (l.map encI).length = l.length := List.length_map ..
  refine fn_sound (mt := mts) tab_fits tab_mixed Tryz.func84 (by rfl) (by kernel_rfl) (by kernel_rfl) Tryz.results84 (Nat.le_of_ble_eq_true (by kernel_rfl)) ?_
  conv => whnf
  refine loop_count (l.length) [] [3, 6, 7, 8] (fun k (_ : Unit) => ⟨[(3, .c (.int .i64 0)), (6, .c (.lst 1 (l.map encI))), (7, .c (.int .i64 (l.map encI).length)), (8, .c (.int .i64 k))], [], 0⟩) (fun k (_ : Unit) => firstErr (l.drop k) = firstErr l) (()) ?_ ?_ ?_
  · conv => whnf
    exact ⟨rfl, rfl⟩
  · intro k _ hk hi
    rw [drop_cons hk, firstErr] at hi
    conv => whnf
    repeat' (first | ((first | refine Split.mk (fun h => ?_) (fun h => ?_) | refine CondG.mk (fun h => ?_) (fun h => ?_)) <;> (try simp only [decide_eq_true_eq, decide_eq_false_iff_not, Bool.not_eq_true', Bool.not_eq_false', beq_iff_eq, beq_eq_false_iff_ne] at h) <;> (first | (exfalso; first | omega | exact h trivial) | (conv => whnf))) | (refine Ask.mk (by first | omega | (unfold roomOK; simp [cutRows]; done) | (unfold roomOK; simp [cutRows]; omega)) ?_; conv => whnf) | (refine AppG.mk (by first | omega | (unfold roomOK; simp [cutRows]; done) | (unfold roomOK; simp [cutRows]; omega)) ?_; conv => whnf) | (refine SliceG.fr ?_; conv => whnf) | fail)
    refine idx_map k hk rfl ?_
    conv => whnf
    repeat' (first | ((first | refine Split.mk (fun h => ?_) (fun h => ?_) | refine CondG.mk (fun h => ?_) (fun h => ?_)) <;> (try simp only [decide_eq_true_eq, decide_eq_false_iff_not, Bool.not_eq_true', Bool.not_eq_false', beq_iff_eq, beq_eq_false_iff_ne] at h) <;> (first | (exfalso; first | omega | exact h trivial) | (conv => whnf))) | (refine Ask.mk (by first | omega | (unfold roomOK; simp [cutRows]; done) | (unfold roomOK; simp [cutRows]; omega)) ?_; conv => whnf) | (refine AppG.mk (by first | omega | (unfold roomOK; simp [cutRows]; done) | (unfold roomOK; simp [cutRows]; omega)) ?_; conv => whnf) | (refine SliceG.fr ?_; conv => whnf) | fail)
    · exact fini (by rw [← hi, if_neg (by simpa using h)])
    · refine count_next () hk (by rw [wrap_succ hk (by omega)]; rfl) ?_
      rw [← hi, if_pos (by simpa using h)]
  · intro _ hi
    rw [List.drop_of_length_le (Nat.le_refl _)] at hi
    conv => whnf
    repeat' (first | ((first | refine Split.mk (fun h => ?_) (fun h => ?_) | refine CondG.mk (fun h => ?_) (fun h => ?_)) <;> (try simp only [decide_eq_true_eq, decide_eq_false_iff_not, Bool.not_eq_true', Bool.not_eq_false', beq_iff_eq, beq_eq_false_iff_ne] at h) <;> (first | (exfalso; first | omega | exact h trivial) | (conv => whnf))) | (refine Ask.mk (by first | omega | (unfold roomOK; simp [cutRows]; done) | (unfold roomOK; simp [cutRows]; omega)) ?_; conv => whnf) | (refine AppG.mk (by first | omega | (unfold roomOK; simp [cutRows]; done) | (unfold roomOK; simp [cutRows]; omega)) ?_; conv => whnf) | (refine SliceG.fr ?_; conv => whnf) | fail)
    exact fini (by rw [← hi]; rfl)
def timeC (a b : Ac) : Int := firstErr [cmpI a.mo b.mo, cmpS a.drum b.drum, cmpI a.kd b.kd, cmpS a.ty b.ty, cmpS a.of b.of, cmpI a.long b.long]
set_option maxRecDepth 100000 in
set_option maxHeartbeats 4000000 in
theorem byTime_pc (a b : Ac) : PCp 51 [.agg (encAc a), .agg (encAc b)] [] (.c (.int .i64 (timeC a b))) [] := by
  refine fn_sound (mt := mts) tab_fits tab_mixed Tryz.func51 (by rfl) (by kernel_rfl) (by kernel_rfl) Tryz.results51 (Nat.le_of_ble_eq_true (by kernel_rfl)) ?_
  conv => whnf
  repeat' (first | ((first | refine Split.mk (fun h => ?_) (fun h => ?_) | refine CondG.mk (fun h => ?_) (fun h => ?_)) <;> (try simp only [decide_eq_true_eq, decide_eq_false_iff_not, Bool.not_eq_true', Bool.not_eq_false', beq_iff_eq, beq_eq_false_iff_ne] at h) <;> (first | (exfalso; first | omega | exact h trivial) | (conv => whnf))) | (refine CallX.mk _ _ (by first | exact cmpI_pc _ _ | exact sCompare_pc _ _ | exact orI_pc [cmpI a.mo b.mo, cmpS a.drum b.drum, cmpI a.kd b.kd, cmpS a.ty b.ty, cmpS a.of b.of, cmpI a.long b.long] (by simp)) ?_; conv => whnf) | (refine CallG.mk _ _ (by first | exact cmpI_pc _ _ | exact sCompare_pc _ _ | exact orI_pc [cmpI a.mo b.mo, cmpS a.drum b.drum, cmpI a.kd b.kd, cmpS a.ty b.ty, cmpS a.of b.of, cmpI a.long b.long] (by simp)) ?_; conv => whnf) | (refine Ask.mk (by first | omega | (unfold roomOK; simp [cutRows]; done) | (unfold roomOK; simp [cutRows]; omega)) ?_; conv => whnf) | (refine AppG.mk (by first | omega | (unfold roomOK; simp [cutRows]; done) | (unfold roomOK; simp [cutRows]; omega)) ?_; conv => whnf) | (refine SliceG.fr ?_; conv => whnf) | fail)
  exact fini rfl
def badPrev (p : Option Ac) (x : Ac) : Bool := match p with | none => false | some y => decide (timeC x y ≤ 0)
def actsErr : Option Ac → List Ac → Int
  | _, [] => 0
  | p, x :: r => if actErr x ≠ 0 then actErr x else if badPrev p x = true then 7 else actsErr (some x) r
def prevAt (l : List Ac) (k : Nat) : Option Ac := if k = 0 then none else l[k - 1]?
def actsFault (l : List Ac) : Int := if 2000 < l.length then 2 else actsErr none l
set_option maxRecDepth 100000 in
set_option maxHeartbeats 4000000 in
theorem checkActs_pc (l : List Ac) : PCp 48 [.c (.lst 6 (l.map encAc))] [] (.c (.int .i64 (actsFault l))) [] := by
  have hlm : (l.map encAc).length = l.length := List.length_map ..
  refine fn_sound (mt := mts) tab_fits tab_mixed Tryz.func48 (by rfl) (by kernel_rfl) (by kernel_rfl) Tryz.results48 (Nat.le_of_ble_eq_true (by kernel_rfl)) ?_
  conv => whnf
  repeat' (first | ((first | refine Split.mk (fun h => ?_) (fun h => ?_) | refine CondG.mk (fun h => ?_) (fun h => ?_)) <;> (try simp only [decide_eq_true_eq, decide_eq_false_iff_not, Bool.not_eq_true', Bool.not_eq_false', beq_iff_eq, beq_eq_false_iff_ne] at h) <;> (first | (exfalso; first | omega | exact h trivial) | (conv => whnf))) | (refine Ask.mk (by first | omega | (unfold roomOK; simp [cutRows]; done) | (unfold roomOK; simp [cutRows]; omega)) ?_; conv => whnf) | (refine AppG.mk (by first | omega | (unfold roomOK; simp [cutRows]; done) | (unfold roomOK; simp [cutRows]; omega)) ?_; conv => whnf) | (refine SliceG.fr ?_; conv => whnf) | fail)
  · exact fini (by rw [actsFault, if_pos (by omega)])
  have hF : actsFault l = actsErr none l := by rw [actsFault, if_neg (by omega)]
  refine loop_count (l.length) [] [0, 9, 10, 11] (fun k (_ : Unit) => ⟨[(0, .c (.lst 6 (l.map encAc))), (9, .c (.lst 6 (l.map encAc))), (10, .c (.int .i64 (l.map encAc).length)), (11, .c (.int .i64 k))], [], 0⟩) (fun k (_ : Unit) => actsErr (prevAt l k) (l.drop k) = actsErr none l) (()) ?_ ?_ ?_
  · conv => whnf
    exact ⟨rfl, rfl⟩
  · intro k _ hk hi
    rw [drop_cons hk, actsErr] at hi
    have hp1 : prevAt l (k + 1) = some l[k] := by simp [prevAt, hk]
    conv => whnf
    repeat' (first | ((first | refine Split.mk (fun h => ?_) (fun h => ?_) | refine CondG.mk (fun h => ?_) (fun h => ?_)) <;> (try simp only [decide_eq_true_eq, decide_eq_false_iff_not, Bool.not_eq_true', Bool.not_eq_false', beq_iff_eq, beq_eq_false_iff_ne] at h) <;> (first | (exfalso; first | omega | exact h trivial) | (conv => whnf))) | (refine Ask.mk (by first | omega | (unfold roomOK; simp [cutRows]; done) | (unfold roomOK; simp [cutRows]; omega)) ?_; conv => whnf) | (refine AppG.mk (by first | omega | (unfold roomOK; simp [cutRows]; done) | (unfold roomOK; simp [cutRows]; omega)) ?_; conv => whnf) | (refine SliceG.fr ?_; conv => whnf) | fail)
    refine idx_map k hk rfl ?_
    conv => whnf
    repeat' (first | ((first | refine Split.mk (fun h => ?_) (fun h => ?_) | refine CondG.mk (fun h => ?_) (fun h => ?_)) <;> (try simp only [decide_eq_true_eq, decide_eq_false_iff_not, Bool.not_eq_true', Bool.not_eq_false', beq_iff_eq, beq_eq_false_iff_ne] at h) <;> (first | (exfalso; first | omega | exact h trivial) | (conv => whnf))) | (refine CallX.mk _ _ (by first | exact dActFault_pc _) ?_; conv => whnf) | (refine CallG.mk _ _ (by first | exact dActFault_pc _) ?_; conv => whnf) | (refine Ask.mk (by first | omega | (unfold roomOK; simp [cutRows]; done) | (unfold roomOK; simp [cutRows]; omega)) ?_; conv => whnf) | (refine AppG.mk (by first | omega | (unfold roomOK; simp [cutRows]; done) | (unfold roomOK; simp [cutRows]; omega)) ?_; conv => whnf) | (refine SliceG.fr ?_; conv => whnf) | fail)
    · have h' : actErr l[k] ≠ 0 := by simpa using h
      rw [if_pos h'] at hi
      exact fini (by rw [hF, ← hi])
    · rename_i h0
      have h' : ¬ actErr l[k] ≠ 0 := by simpa using h0
      rw [if_neg h'] at hi
      have hk1 : IntKind.i64.wrap ((k : Int) - 1) = ((k - 1 : Nat) : Int) := by rw [wrap_in (by omega) (by omega)]; omega
      have hp : prevAt l k = some (l[k - 1]'(by omega)) := by rw [prevAt, if_neg (by omega)]; exact List.getElem?_eq_getElem (by omega)
      rw [hp] at hi
      refine idx_map (k - 1) (by omega) hk1 ?_
      conv => whnf
      repeat' (first | ((first | refine Split.mk (fun h => ?_) (fun h => ?_) | refine CondG.mk (fun h => ?_) (fun h => ?_)) <;> (try simp only [decide_eq_true_eq, decide_eq_false_iff_not, Bool.not_eq_true', Bool.not_eq_false', beq_iff_eq, beq_eq_false_iff_ne] at h) <;> (first | (exfalso; first | omega | exact h trivial) | (conv => whnf))) | (refine CallX.mk _ _ (by first | exact byTime_pc _ _) ?_; conv => whnf) | (refine CallG.mk _ _ (by first | exact byTime_pc _ _) ?_; conv => whnf) | (refine Ask.mk (by first | omega | (unfold roomOK; simp [cutRows]; done) | (unfold roomOK; simp [cutRows]; omega)) ?_; conv => whnf) | (refine AppG.mk (by first | omega | (unfold roomOK; simp [cutRows]; done) | (unfold roomOK; simp [cutRows]; omega)) ?_; conv => whnf) | (refine SliceG.fr ?_; conv => whnf) | fail)
      · skip
        rw [if_pos (by simpa [badPrev] using h)] at hi
        exact fini (by rw [hF, ← hi])
      · skip
        rw [if_neg (by simpa [badPrev] using h)] at hi
        refine count_next () hk (by rw [wrap_succ hk (by omega)]; rfl) ?_
        rw [hp1]; exact hi
    · have h' : ¬ actErr l[k] ≠ 0 := by simp_all
      have h0 : k = 0 := by omega
      subst h0
      rw [if_neg h', if_neg (by simp [badPrev, prevAt])] at hi
      refine count_next () hk (by rw [wrap_succ hk (by omega)]; rfl) ?_
      rw [hp1]; exact hi
  · intro _ hi
    rw [List.drop_of_length_le (Nat.le_refl _)] at hi
    conv => whnf
    repeat' (first | ((first | refine Split.mk (fun h => ?_) (fun h => ?_) | refine CondG.mk (fun h => ?_) (fun h => ?_)) <;> (try simp only [decide_eq_true_eq, decide_eq_false_iff_not, Bool.not_eq_true', Bool.not_eq_false', beq_iff_eq, beq_eq_false_iff_ne] at h) <;> (first | (exfalso; first | omega | exact h trivial) | (conv => whnf))) | (refine Ask.mk (by first | omega | (unfold roomOK; simp [cutRows]; done) | (unfold roomOK; simp [cutRows]; omega)) ?_; conv => whnf) | (refine AppG.mk (by first | omega | (unfold roomOK; simp [cutRows]; done) | (unfold roomOK; simp [cutRows]; omega)) ?_; conv => whnf) | (refine SliceG.fr ?_; conv => whnf) | fail)
    exact fini (by rw [hF, ← hi]; rfl)

end Go.Proofs.YtobcplhaabaemaaGreat

/- A store with one drum, by the abstract walk. -/
namespace Go.Proofs.YtobcplhaabaemaaGreat
set_option linter.unusedVariables false
set_option linter.unusedSimpArgs false
open Abs

/-- a first drum comes -/
abbrev stBox : Ob := .box [.mp 1, .mp 2]
end Go.Proofs.YtobcplhaabaemaaGreat

/- A list of one drum is sorted. -/
namespace Go.Proofs.YtobcplhaabaemaaGreat
set_option linter.unusedVariables false
set_option linter.unusedSimpArgs false
open Abs

end Go.Proofs.YtobcplhaabaemaaGreat

/- The law PlansWeighed, by the abstract walk. -/
namespace Go.Proofs.YtobcplhaabaemaaGreat
set_option linter.unusedVariables false
set_option linter.unusedSimpArgs false
open Abs

theorem drumsV_in (L : List Int) (p most : Int) (h0 : 0 ≤ most) : p ≤ (drumsV L p most).2 ∧ (drumsV L p most).2 ≤ p + 2 * most + 6 ∧ ((drumsV L p most).1.length : Int) ≤ most := by
  have hr := rangeV_in L p 0 most h0
  have hs := pcIter_snd L (p + 1) ⟨#[100]⟩ dLongs (rangeV L p 0 most).toNat
  have hl := pcIter_len L (p + 1) ⟨#[100]⟩ dLongs (rangeV L p 0 most).toNat
  unfold drumsV
  simp only
  generalize pcIter L (p + 1) ⟨#[100]⟩ dLongs (rangeV L p 0 most).toNat = A at *
  split
  · split
    · simp only [dSpoil, List.length_set]; omega
    · simp only; omega
  · omega
theorem sectsV_in (L : List Int) (p most : Int) (h0 : 0 ≤ most) : p ≤ (sectsV L p most).2 ∧ (sectsV L p most).2 ≤ p + 2 * most + 6 ∧ ((sectsV L p most).1.length : Int) ≤ most := by
  have hr := rangeV_in L p 0 most h0
  have hs := pcIter_snd L (p + 1) ⟨#[115]⟩ sLongs (rangeV L p 0 most).toNat
  have hl := pcIter_len L (p + 1) ⟨#[115]⟩ sLongs (rangeV L p 0 most).toNat
  unfold sectsV
  simp only
  generalize pcIter L (p + 1) ⟨#[115]⟩ sLongs (rangeV L p 0 most).toNat = A at *
  split
  · split
    · simp only [sSpoil, List.length_set]; omega
    · simp only; omega
  · omega
end Go.Proofs.YtobcplhaabaemaaGreat

/- Lists of acts are sorted. -/
namespace Go.Proofs.YtobcplhaabaemaaGreat
set_option linter.unusedVariables false
set_option linter.unusedSimpArgs false
open Abs

/-! the length of a small number -/
deriving instance DecidableEq for Ac
end Go.Proofs.YtobcplhaabaemaaGreat

/- The plan by the rule of thumb. -/
namespace Go.Proofs.YtobcplhaabaemaaGreat
set_option linter.unusedVariables false
set_option linter.unusedSimpArgs false
open Abs

/-! what it does, section by section -/
end Go.Proofs.YtobcplhaabaemaaGreat

/- The plan by the rule of thumb is possible; whole plans (plain). -/
namespace Go.Proofs.YtobcplhaabaemaaGreat
set_option linter.unusedVariables false
set_option linter.unusedSimpArgs false
open Abs

end Go.Proofs.YtobcplhaabaemaaGreat

/- Acts are made. -/
namespace Go.Proofs.YtobcplhaabaemaaGreat
set_option linter.unusedVariables false
set_option linter.unusedSimpArgs false
open Abs

end Go.Proofs.YtobcplhaabaemaaGreat

/- A store, as the program follows it. -/
namespace Go.Proofs.YtobcplhaabaemaaGreat
set_option linter.unusedVariables false
set_option linter.unusedSimpArgs false
open Abs

abbrev bE : ByteArray := ⟨#[]⟩
abbrev evD : ByteArray × Int → S := fun v => .agg [.str v.1, .int .i64 v.2]
abbrev evK : ByteArray → S := fun v => .c (.str v)
structure Sto where
  d : SM ByteArray (ByteArray × Int)
  k : SM ByteArray ByteArray
structure Sto.ok (s : Sto) : Prop where
  d : s.d.ok
  k : s.k.ok
abbrev stoD (s : Sto) : Ob := smO ekS evD s.d
abbrev stoK (s : Sto) : Ob := smO ekS evK s.k
def takeS (s : Sto) (x : Ac) : Sto × ByteArray × Int :=
  if x.kd = 1 ∨ x.kd = 3 then
    if (s.k.get x.drum).isSome then (s, bE, 6)
    else if x.kd = 1 then (⟨s.d.put x.drum (x.ty, x.long), s.k.put x.drum x.ty⟩, x.ty, 0)
    else if (s.k.get x.of).isSome then (⟨s.d.put x.drum ((s.k.get x.of).getD bE, x.long), s.k.put x.drum ((s.k.get x.of).getD bE)⟩, (s.k.get x.of).getD bE, 0)
    else (s, bE, 8)
  else if (s.d.get x.drum).isSome then
    if x.kd = 2 ∧ ((s.d.get x.drum).getD (bE, 0)).2 < x.long then (s, bE, 12)
    else if x.kd = 4 ∨ IntKind.i64.wrap (((s.d.get x.drum).getD (bE, 0)).2 - x.long) = 0 then (⟨s.d.del x.drum, s.k⟩, ((s.d.get x.drum).getD (bE, 0)).1, 0)
    else (⟨s.d.put x.drum (((s.d.get x.drum).getD (bE, 0)).1, IntKind.i64.wrap (((s.d.get x.drum).getD (bE, 0)).2 - x.long)), s.k⟩, ((s.d.get x.drum).getD (bE, 0)).1, 0)
  else (s, bE, 8)
set_option maxRecDepth 100000 in
set_option maxHeartbeats 4000000 in
theorem take_pc (s : Sto) (hs : s.ok) (x : Ac) :
    PCp 119 [.c (.ptr 0 0), .agg (encAc x)] [stBox, stoD s, stoK s] (.tup [.c (.str (takeS s x).2.1), .c (.int .i64 (takeS s x).2.2)]) [stBox, stoD (takeS s x).1, stoK (takeS s x).1] := by
  refine fn_sound (mt := mts) tab_fits tab_mixed Tryz.func119 (by rfl) (by kernel_rfl) (by kernel_rfl) Tryz.results119 (Nat.le_of_ble_eq_true (by kernel_rfl)) ?_
  conv => whnf
  repeat' (first | ((first | refine Split.mk (fun h => ?_) (fun h => ?_) | refine CondG.mk (fun h => ?_) (fun h => ?_)) <;> (try simp only [decide_eq_true_eq, decide_eq_false_iff_not, Bool.not_eq_true', Bool.not_eq_false', beq_iff_eq, beq_eq_false_iff_ne] at h) <;> (first | (exfalso; first | omega | exact h trivial) | (conv => whnf))) | (refine Ask.mk (by first | omega | (unfold roomOK; simp [cutRows]; done) | (unfold roomOK; simp [cutRows]; omega)) ?_; conv => whnf) | (refine AppG.mk (by first | omega | (unfold roomOK; simp [cutRows]; done) | (unfold roomOK; simp [cutRows]; omega)) ?_; conv => whnf) | (refine SliceG.fr ?_; conv => whnf) | ((with_reducible refine sm_look (ek := ekS) (ev := evD) keyStr s.d x.drum (bE, 0) ?_ ?_); exact rfl; conv => whnf) | ((with_reducible refine sm_look (ek := ekS) (ev := evK) keyStr s.k _ bE ?_ ?_); exact rfl; conv => whnf) | ((with_reducible refine sm_del (ek := ekS) (ev := evD) keyStr s.d x.drum ?_); conv => whnf) | ((with_reducible refine sm_upd (ek := ekS) (ev := evD) keyStr s.d x.drum (_, _) ?_); conv => whnf) | ((with_reducible refine sm_entry (ek := ekS) (ev := evD) keyStr s.d x.drum (bE, 0) ?_ ?_); exact rfl; conv => whnf) | ((with_reducible refine sm_entry (ek := ekS) (ev := evK) keyStr s.k x.drum bE ?_ ?_); exact rfl; conv => whnf) | ((with_reducible refine sm_stamp (ek := ekS) (ev := evD) hs.d x.drum _ (_, _) ?_ ?_); exact rfl; conv => whnf) | ((with_reducible refine sm_stamp (ek := ekS) (ev := evK) hs.k x.drum _ _ ?_ ?_); exact rfl; conv => whnf) | fail)
  all_goals try ((with_reducible refine sm_upd (ek := ekS) (ev := evD) keyStr s.d x.drum (((s.d.get x.drum).getD (bE, 0)).1, IntKind.i64.wrap (((s.d.get x.drum).getD (bE, 0)).2 - x.long)) ?_); conv => whnf)
  all_goals first
    | (have hT : takeS s x = (s, bE, 6) := by (unfold takeS; simp_all; done)
       rw [hT]; exact .mk ⟨rfl, rfl⟩)
    | (have hT : takeS s x = (s, bE, 8) := by (unfold takeS; simp_all; done)
       rw [hT]; exact .mk ⟨rfl, rfl⟩)
    | (have hT : takeS s x = (s, bE, 12) := by (unfold takeS; simp_all; done)
       rw [hT]; exact .mk ⟨rfl, rfl⟩)
    | (have hT : takeS s x = (⟨s.d.put x.drum (x.ty, x.long), s.k.put x.drum x.ty⟩, x.ty, 0) := by (unfold takeS; simp_all; done)
       rw [hT]; exact .mk ⟨rfl, rfl⟩)
    | (have hT : takeS s x = (⟨s.d.put x.drum ((s.k.get x.of).getD bE, x.long), s.k.put x.drum ((s.k.get x.of).getD bE)⟩, (s.k.get x.of).getD bE, 0) := by (unfold takeS; simp_all; done)
       rw [hT]; exact .mk ⟨rfl, rfl⟩)
    | (have hT : takeS s x = (⟨s.d.del x.drum, s.k⟩, ((s.d.get x.drum).getD (bE, 0)).1, 0) := by (unfold takeS; simp_all; done)
       rw [hT]; exact .mk ⟨rfl, rfl⟩)
    | (have hT : takeS s x = (⟨s.d.put x.drum (((s.d.get x.drum).getD (bE, 0)).1, IntKind.i64.wrap (((s.d.get x.drum).getD (bE, 0)).2 - x.long)), s.k⟩, ((s.d.get x.drum).getD (bE, 0)).1, 0) := by (unfold takeS; simp_all; done)
       rw [hT]; exact .mk ⟨rfl, rfl⟩)
end Go.Proofs.YtobcplhaabaemaaGreat

/- What was used, as the program counts it. -/
namespace Go.Proofs.YtobcplhaabaemaaGreat
set_option linter.unusedVariables false
set_option linter.unusedSimpArgs false
open Abs

/-- the store behind the first acts -/
def stoNil : Sto := ⟨SM.nil, SM.nil⟩
def stoAt (l : List Ac) : Nat → Sto
  | 0 => stoNil
  | k + 1 => (takeS (stoAt l k) (l.getD k ⟨0, 0, bE, bE, bE, 0⟩)).1
theorem takeS_ok {s : Sto} (hs : s.ok) (x : Ac) : (takeS s x).1.ok := by
  unfold takeS
  repeat' split
  all_goals first
    | exact hs
    | exact ⟨hs.d.put _ _, hs.k.put _ _⟩
    | exact ⟨hs.d.del _, hs.k⟩
    | exact ⟨hs.d.put _ _, hs.k⟩
theorem stoAt_ok (l : List Ac) : ∀ k, (stoAt l k).ok
  | 0 => ⟨SM.ok_nil, SM.ok_nil⟩
  | k + 1 => takeS_ok (stoAt_ok l k) _
end Go.Proofs.YtobcplhaabaemaaGreat

/- The least stock, as the program finds it. -/
namespace Go.Proofs.YtobcplhaabaemaaGreat
set_option linter.unusedVariables false
set_option linter.unusedSimpArgs false
open Abs

abbrev DE := Nat × ByteArray × (ByteArray × Int)
def LongOk (s : Sto) : Prop := (∀ e ∈ s.d.es, 0 < e.2.2.2 ∧ e.2.2.2 ≤ 200000) ∧ s.d.es.length ≤ 1000000
end Go.Proofs.YtobcplhaabaemaaGreat

/- The least stock, as the program finds it: all acts. -/
namespace Go.Proofs.YtobcplhaabaemaaGreat
set_option linter.unusedVariables false
set_option linter.unusedSimpArgs false
open Abs

abbrev acD : Ac := ⟨0, 0, bE, bE, bE, 0⟩
end Go.Proofs.YtobcplhaabaemaaGreat

/- The document's store. -/
namespace Go.Proofs.YtobcplhaabaemaaGreat
set_option linter.unusedVariables false
set_option linter.unusedSimpArgs false
open Abs

structure Rto where
  l : SM ByteArray Int
  k : SM ByteArray ByteArray
structure Rto.ok (s : Rto) : Prop where
  l : s.l.ok
  k : s.k.ok
/-- the store behind an act, what was cut, the error -/
def doR (s : Rto) (x : Ac) : Rto × Int × Int :=
  if x.kd = 1 then
    if (s.k.get x.drum).isSome then (s, 0, 6) else (⟨s.l.put x.drum x.long, s.k.put x.drum x.ty⟩, 0, 0)
  else if x.kd = 2 then
    if (s.l.get x.drum).getD 0 = 0 then (s, 0, 8)
    else if (s.l.get x.drum).getD 0 < x.long then (s, 0, 12)
    else (⟨s.l.put x.drum (IntKind.i64.wrap ((s.l.get x.drum).getD 0 - x.long)), s.k⟩, x.long, 0)
  else if x.kd = 3 then
    if (s.k.get x.drum).isSome then (s, 0, 6)
    else if (s.k.get x.of).isSome then (⟨s.l.put x.drum x.long, s.k.put x.drum ((s.k.get x.of).getD bE)⟩, IntKind.i64.wrap (0 - x.long), 0)
    else (s, 0, 8)
  else if (s.l.get x.drum).getD 0 = 0 then (s, 0, 8)
  else (⟨s.l.put x.drum 0, s.k⟩, 0, 0)
end Go.Proofs.YtobcplhaabaemaaGreat

/- What was used, by the document. -/
namespace Go.Proofs.YtobcplhaabaemaaGreat
set_option linter.unusedVariables false
set_option linter.unusedSimpArgs false
open Abs

def rtoNil : Rto := ⟨SM.nil, SM.nil⟩
def rtoAt (l : List Ac) : Nat → Rto
  | 0 => rtoNil
  | k + 1 => (doR (rtoAt l k) (l.getD k acD)).1
theorem doR_ok {s : Rto} (hs : s.ok) (x : Ac) : (doR s x).1.ok := by
  unfold doR
  repeat' split
  all_goals first
    | exact hs
    | exact ⟨hs.l.put _ _, hs.k.put _ _⟩
    | exact ⟨hs.l.put _ _, hs.k⟩
theorem rtoAt_ok (l : List Ac) : ∀ k, (rtoAt l k).ok
  | 0 => ⟨SM.ok_nil, SM.ok_nil⟩
  | k + 1 => doR_ok (rtoAt_ok l k) _
end Go.Proofs.YtobcplhaabaemaaGreat

/- Stock at a moment, by the document. -/
namespace Go.Proofs.YtobcplhaabaemaaGreat
set_option linter.unusedVariables false
set_option linter.unusedSimpArgs false
open Abs

def cntAt (l : List Ac) (t : Int) : Nat := (l.takeWhile fun x => decide (x.mo ≤ t)).length
theorem cntAt_le (l : List Ac) (t : Int) : cntAt l t ≤ l.length := (List.takeWhile_prefix _).length_le
theorem cntAt_in {l : List Ac} {t : Int} {k : Nat} (h : k < cntAt l t) : (l[k]'(by have := cntAt_le l t; omega)).mo ≤ t := by
  have key : ∀ (l : List Ac) (k : Nat) (hk : k < l.length), k < (l.takeWhile fun x => decide (x.mo ≤ t)).length → l[k].mo ≤ t := by
    intro l
    induction l with
    | nil => intro k hk; simp at hk
    | cons a r ih =>
      intro k hk h
      by_cases ha : a.mo ≤ t
      · simp only [List.takeWhile_cons, ha, decide_true, if_true, List.length_cons] at h
        cases k with
        | zero => simpa using ha
        | succ k => simpa using ih k (by simpa using hk) (by omega)
      · simp [List.takeWhile_cons, ha] at h
  exact key l k _ h
theorem cntAt_out {l : List Ac} {t : Int} (h : cntAt l t < l.length) : t < (l[cntAt l t]).mo := by
  unfold cntAt at h ⊢
  induction l with
  | nil => simp at h
  | cons a r ih =>
    by_cases ha : a.mo ≤ t
    · simp only [List.takeWhile_cons, ha, decide_true, if_true, List.length_cons] at h ⊢
      simpa using ih (by simpa using h)
    · simp only [List.takeWhile_cons, ha, decide_false, Bool.false_eq_true, if_false, List.length_nil] at h ⊢
      simp; omega
end Go.Proofs.YtobcplhaabaemaaGreat

/- Sorted lists: sorting by insertion sorts; lists that rise by keys are told by what they hold. -/
namespace Go.Proofs.YtobcplhaabaemaaGreat
set_option linter.unusedVariables false
set_option linter.unusedSimpArgs false
open Abs

/-- in order up to m, but for the one at j, which is not greater than any behind it -/
def InsInv {α : Type} (c : α → α → Int) (m j : Nat) (l : List α) : Prop :=
  (∀ i k x y, i < k → k ≤ m → i ≠ j → k ≠ j → l[i]? = some x → l[k]? = some y → ¬ c y x < 0) ∧ ∀ k x y, j < k → k ≤ m → l[j]? = some x → l[k]? = some y → ¬ c y x < 0
def SrtTo {α : Type} (c : α → α → Int) (n : Nat) (l : List α) : Prop := ∀ i k x y, i < k → k < n → l[i]? = some x → l[k]? = some y → ¬ c y x < 0
theorem insDown_srt {α : Type} {c : α → α → Int} (hc : SWOc c) (m : Nat) : ∀ (j : Nat) (l : List α), j ≤ m → m < l.length → InsInv c m j l → SrtTo c (m + 1) (insDown c 0 j l)
  | 0, l, _, hm, ⟨h1, h2⟩ => by
    intro i k x y hik hk hx hy
    rw [insDown] at hx hy
    by_cases e : i = 0
    · subst e; exact h2 k x y hik (by omega) hx hy
    · exact h1 i k x y hik (by omega) e (by omega) hx hy
  | j + 1, l, hj, hm, ⟨h1, h2⟩ => by
    by_cases hlt : c (l[j + 1]'(by omega)) (l[j]'(by omega)) < 0
    · rw [insDown_step (by omega) (by omega) hlt]
      refine insDown_srt hc m j _ (by omega) (by simpa using hm) ⟨?_, ?_⟩
      · intro i k x y hik hk hij hkj hx hy
        rw [List.getElem?_set_ne (Ne.symm hij)] at hx
        rw [List.getElem?_set_ne (Ne.symm hkj)] at hy
        by_cases e1 : k = j + 1
        · subst e1
          rw [List.getElem?_set_ne (by omega)] at hx
          rw [List.getElem?_set_self (by omega)] at hy
          cases hy
          exact h1 i j x _ (by omega) (by omega) (by omega) (by omega) hx (List.getElem?_eq_getElem (by omega))
        · by_cases e2 : i = j + 1
          · subst e2
            rw [List.getElem?_set_self (by omega)] at hx
            rw [List.getElem?_set_ne (by omega)] at hy
            cases hx
            exact h1 j k _ y (by omega) hk (by omega) e1 (List.getElem?_eq_getElem (by omega)) hy
          · rw [List.getElem?_set_ne (by omega)] at hx hy
            exact h1 i k x y hik hk e2 e1 hx hy
      · intro k x y hjk hk hx hy
        rw [List.getElem?_set_self (by simp; omega)] at hx
        cases hx
        rw [List.getElem?_set_ne (by omega)] at hy
        by_cases e1 : k = j + 1
        · subst e1
          rw [List.getElem?_set_self (by omega)] at hy
          cases hy
          intro h6
          exact hc.irrefl _ (hc.trans _ _ _ hlt h6)
        · rw [List.getElem?_set_ne (by omega)] at hy
          exact h2 k _ y (by omega) hk (List.getElem?_eq_getElem (by omega)) hy
    · rw [insDown_stop (by omega) hlt]
      intro i k x y hik hk hx hy
      by_cases e1 : k = j + 1
      · subst e1
        rw [List.getElem?_eq_getElem (by omega)] at hy
        cases hy
        by_cases e2 : i = j
        · subst e2
          rw [List.getElem?_eq_getElem (by omega)] at hx
          cases hx
          exact hlt
        · exact hc.ntrans _ _ _ hlt (h1 i j x _ (by omega) (by omega) (by omega) (by omega) hx (List.getElem?_eq_getElem (by omega)))
      · by_cases e2 : i = j + 1
        · subst e2; exact h2 k x y hik (by omega) hx hy
        · exact h1 i k x y hik (by omega) e2 e1 hx hy
theorem insTo_srt {α : Type} {c : α → α → Int} (hc : SWOc c) (l : List α) : ∀ m, m < l.length → SrtTo c (m + 1) (insTo c 0 m l)
  | 0, _ => fun i k x y h1 h2 => by omega
  | m + 1, h => by
    have ih := insTo_srt hc l m (by omega)
    rw [insTo, show 0 + 1 + m = m + 1 by omega]
    refine insDown_srt hc (m + 1) (m + 1) _ (Nat.le_refl _) (by rw [insTo_len]; exact h) ⟨?_, ?_⟩
    · intro i k x y hik hk _ hk2 hx hy
      exact ih i k x y hik (by omega) hx hy
    · intro k x y h1 h2; omega
theorem insSort_srt {α : Type} {c : α → α → Int} (hc : SWOc c) (l : List α) : (insSort c l).Pairwise fun x y => ¬ c y x < 0 := by
  unfold insSort
  cases h : l with
  | nil => exact List.Pairwise.nil
  | cons a r =>
    rw [← h]
    have h0 : 0 < l.length := by rw [h]; simp
    have := insTo_srt hc l (l.length - 1) (by omega)
    rw [List.pairwise_iff_getElem]
    intro i k hi hk hik
    have hlen := insTo_len c 0 (l.length - 1) l
    exact this i k _ _ hik (by omega) (List.getElem?_eq_getElem hi) (List.getElem?_eq_getElem hk)
theorem swo_key {α : Type} (key : α → ByteArray) : SWOc fun a b : α => cmpS (key a) (key b) where
  irrefl x := by rw [cmp_lt, ltB_irr]; simp
  trans x y z h1 h2 := cmp_lt.2 (ltB_trans (cmp_lt.1 h1) (cmp_lt.1 h2))
  ntrans x y z h1 h2 := by
    rw [cmp_lt] at h1 h2 ⊢
    intro h3
    rcases ltB_tri (key x) (key y) with h | h | h
    · exact h1 h
    · rw [h] at h3; exact h2 h3
    · exact h2 (ltB_trans h h3)
theorem rise_of {α : Type} {key : α → ByteArray} {l : List α} (h : l.Pairwise fun x y => ¬ cmpS (key y) (key x) < 0) (hn : (l.map key).Nodup) : Rise key l := by
  unfold Rise
  have hn' : l.Pairwise fun x y => key x ≠ key y := List.pairwise_map.1 hn
  refine (h.and hn').imp ?_
  rintro x y ⟨h1, h2⟩
  rw [cmp_lt] at h1
  rcases ltB_tri (key x) (key y) with h | h | h
  · exact h
  · exact (h2 h).elim
  · exact (h1 h).elim
end Go.Proofs.YtobcplhaabaemaaGreat

/- Strings sorted (a few), and what numbers look like: Itoa by the kit's contract. -/
namespace Go.Proofs.YtobcplhaabaemaaGreat
set_option linter.unusedVariables false
set_option linter.unusedSimpArgs false
open Abs

/-! what a function of the library gives that makes new memory of its own -/
theorem Nx.grown {F : Nat → Prop} {φ : Nat → Option Value} {w : World} {N : Nat → Prop} {h : Nat → Option Ob} (k : Nat) (os : Array Obj) : Nx F φ w h N [] F φ (Sort.grow (w.drewN k) os) where
  hF _ h := h
  hφ _ _ h := h
  nφ _ _ h := .inl h
  os := rfl
  tape := rfl
  output := rfl
  drawn _ := Nat.le_add_right _ _
  size := by simp [Sort.grow, World.drewN]
  keep b hb hne := (hne (by simp only [Sort.grow, World.drewN]; rw [Array.getElem?_append_left hb])).elim
  nF b h := .inl h
  objs l o h := by simp [chGet] at h
  own l o b h := by simp [chGet] at h
  inj l l' o o' b h := by simp [chGet] at h
end Go.Proofs.YtobcplhaabaemaaGreat

/- Lists of acts joined: slices.Grow by the kit's contract, slices.Concat. -/
namespace Go.Proofs.YtobcplhaabaemaaGreat
set_option linter.unusedVariables false
set_option linter.unusedSimpArgs false
open Abs

end Go.Proofs.YtobcplhaabaemaaGreat

/- Stock at a moment, by the document: the list. -/
namespace Go.Proofs.YtobcplhaabaemaaGreat
set_option linter.unusedVariables false
set_option linter.unusedSimpArgs false
open Abs

abbrev LE := Nat × ByteArray × Int
def stE (s : Rto) (e : LE) : Pc := ⟨e.2.1, (s.k.get e.2.1).getD bE, e.2.2⟩
def stL (s : Rto) (es : List LE) : List Pc := (es.filter fun e => decide (0 < e.2.2)).map (stE s)
theorem stL_len (s : Rto) (es : List LE) : (stL s es).length ≤ es.length := by
  unfold stL; rw [List.length_map]; exact List.length_filter_le _ _
end Go.Proofs.YtobcplhaabaemaaGreat

/- Errors of acts and windows, by the document. -/
namespace Go.Proofs.YtobcplhaabaemaaGreat
set_option linter.unusedVariables false
set_option linter.unusedSimpArgs false
open Abs
theorem actErr_in {x : Ac} (h : actErr x = 0) : 0 ≤ x.mo ∧ x.mo ≤ 345686399999 ∧ 1 ≤ x.kd ∧ x.kd ≤ 4 ∧ 0 ≤ x.long ∧ x.long ≤ 200000 ∧ (x.kd ≠ 4 → 1 ≤ x.long) ∧ keyB x.drum = true ∧ (x.kd = 1 → keyB x.ty = true) ∧ (x.kd = 3 → keyB x.of = true) := by
  unfold actErr at h
  split at h
  · cases h
  split at h
  · cases h
  split at h
  · cases h
  split at h
  · cases h
  split at h
  · cases h
  rename_i h1 h2 h3 h4 h5
  have h1 : momB x.mo = true := by simpa using h1
  have h1 := of_decide_eq_true h1
  simp only [Bool.or_eq_true, not_or, Bool.not_eq_true', Bool.not_eq_false, Bool.and_eq_true, beq_iff_eq, not_and] at h3
  refine ⟨h1.1, h1.2, by omega, by omega, by omega, by omega, by omega, h3.1.1, ?_, ?_⟩
  · intro e; simpa using h3.1.2 e
  · intro e; simpa using h3.2 e
end Go.Proofs.YtobcplhaabaemaaGreat

/- The two stores are one. -/
namespace Go.Proofs.YtobcplhaabaemaaGreat
set_option linter.unusedVariables false
set_option linter.unusedSimpArgs false
open Abs

section
variable {κ β : Type} [DecidableEq κ]
theorem get_of_mem {s : SM κ β} (h : s.ok) {e : Nat × κ × β} (he : e ∈ s.es) : s.get e.2.1 = some e.2.2 := by
  have hk := h.kn
  unfold SM.get SM.m at *
  generalize s.es = es at he hk
  clear h
  induction es with
  | nil => cases he
  | cons a r ih =>
    simp only [List.map_cons, List.nodup_cons] at hk
    rcases List.mem_cons.1 he with rfl | he
    · simp [mget]
    · have hne : ¬ a.2.1 = e.2.1 := by
        intro h2
        exact hk.1 (by rw [h2]; exact List.mem_map.2 ⟨e.2, List.mem_map.2 ⟨e, he, rfl⟩, rfl⟩)
      have := ih he hk.2
      simpa [mget, List.find?_cons, hne] using this
theorem mem_of_get {s : SM κ β} {x : κ} {y : β} (h : s.get x = some y) : ∃ n, (n, x, y) ∈ s.es := by
  unfold SM.get SM.m at h
  generalize s.es = es at h
  induction es with
  | nil => simp [mget] at h
  | cons a r ih =>
    by_cases hx : a.2.1 = x
    · have hy : a.2.2 = y := by simpa [mget, List.find?_cons, hx] using h
      exact ⟨a.1, by rw [← hx, ← hy]; simp⟩
    · obtain ⟨n, hn⟩ := ih (by simpa [mget, List.find?_cons, hx] using h)
      exact ⟨n, by simp [hn]⟩
end
/-- what the program's store has, by the document's -/
def seen (r : Rto) (d : ByteArray) : Option (ByteArray × Int) := if 0 < (r.l.get d).getD 0 then some ((r.k.get d).getD bE, (r.l.get d).getD 0) else none
structure Rel (s : Sto) (r : Rto) : Prop where
  k : ∀ d, s.k.get d = r.k.get d
  d : ∀ d, s.d.get d = seen r d
  n : ∀ d, 0 ≤ (r.l.get d).getD 0 ∧ (r.l.get d).getD 0 ≤ 200000
  h : ∀ d, 0 < (r.l.get d).getD 0 → (r.k.get d).isSome = true
theorem rel_nil : Rel stoNil rtoNil := ⟨fun _ => rfl, fun _ => rfl, fun _ => ⟨by show (0 : Int) ≤ 0; decide, by show (0 : Int) ≤ 200000; decide⟩, fun d h => by have : (0 : Int) < 0 := h; omega⟩
theorem rel_step {s : Sto} {r : Rto} (hs : s.ok) (h : Rel s r) {x : Ac} (hx : actErr x = 0) :
    Rel (takeS s x).1 (doR r x).1 ∧ (takeS s x).2.2 = (doR r x).2.2 ∧ ((doR r x).2.2 = 0 → (takeS s x).2.1 = ((doR r x).1.k.get x.drum).getD bE ∧ (doR r x).2.1 = if x.kd = 2 then x.long else if x.kd = 3 then - x.long else 0) := by
  have a := actErr_in hx
  have hk := h.k x.drum
  have ho := h.k x.of
  have hd := h.d x.drum
  have hn := h.n x.drum
  have hh := h.h x.drum
  have hwn : IntKind.i64.wrap (0 - x.long) = - x.long := by rw [wrap_in (by omega) (by omega)]; omega
  have hput : ∀ (t : ByteArray) (n : Int), 0 < n → n ≤ 200000 → Rel ⟨s.d.put x.drum (t, n), s.k.put x.drum t⟩ ⟨r.l.put x.drum n, r.k.put x.drum t⟩ := by
    intro t n h1 h2
    refine ⟨fun d => ?_, fun d => ?_, fun d => ?_, fun d => ?_⟩
    · rw [SM.get_put, SM.get_put, h.k d]
    · simp only [seen, SM.get_put]
      split
      · simp [h1]
      · rw [h.d d]; rfl
    · simp only [SM.get_put]
      split
      · simp; omega
      · exact h.n d
    · simp only [SM.get_put]
      split
      · simp
      · exact h.h d
  by_cases k1 : x.kd = 1
  · have hne : takeS s x = if (s.k.get x.drum).isSome then (s, bE, 6) else (⟨s.d.put x.drum (x.ty, x.long), s.k.put x.drum x.ty⟩, x.ty, 0) := by
      unfold takeS; rw [if_pos (.inl k1)]; simp only [k1, if_true]
    have hre : doR r x = if (r.k.get x.drum).isSome then (r, 0, 6) else (⟨r.l.put x.drum x.long, r.k.put x.drum x.ty⟩, 0, 0) := by
      unfold doR; rw [if_pos k1]
    rw [hne, hre, hk]
    split
    · exact ⟨h, rfl, fun e => by cases e⟩
    · exact ⟨hput _ _ (by omega) (by omega), rfl, fun _ => ⟨by simp [SM.get_put], by simp [k1]⟩⟩
  by_cases k3 : x.kd = 3
  · have hne : takeS s x = if (s.k.get x.drum).isSome then (s, bE, 6) else if (s.k.get x.of).isSome then (⟨s.d.put x.drum ((s.k.get x.of).getD bE, x.long), s.k.put x.drum ((s.k.get x.of).getD bE)⟩, (s.k.get x.of).getD bE, 0) else (s, bE, 8) := by
      unfold takeS; rw [if_pos (.inr k3)]; simp only [k1, if_false]
    have hre : doR r x = if (r.k.get x.drum).isSome then (r, 0, 6) else if (r.k.get x.of).isSome then (⟨r.l.put x.drum x.long, r.k.put x.drum ((r.k.get x.of).getD bE)⟩, IntKind.i64.wrap (0 - x.long), 0) else (r, 0, 8) := by
      unfold doR; rw [if_neg k1, if_neg (by omega), if_pos k3]
    rw [hne, hre, hk, ho]
    split
    · exact ⟨h, rfl, fun e => by cases e⟩
    · split
      · exact ⟨hput _ _ (by omega) (by omega), rfl, fun _ => ⟨by simp [SM.get_put], by rw [hwn]; simp [k3]⟩⟩
      · exact ⟨h, rfl, fun e => by cases e⟩
  have hin : (s.d.get x.drum).isSome = decide (0 < (r.l.get x.drum).getD 0) := by
    rw [hd]; unfold seen; split <;> simp_all
  have hne : takeS s x = if (s.d.get x.drum).isSome then (if x.kd = 2 ∧ ((s.d.get x.drum).getD (bE, 0)).2 < x.long then (s, bE, 12)
    else if x.kd = 4 ∨ IntKind.i64.wrap (((s.d.get x.drum).getD (bE, 0)).2 - x.long) = 0 then (⟨s.d.del x.drum, s.k⟩, ((s.d.get x.drum).getD (bE, 0)).1, 0)
    else (⟨s.d.put x.drum (((s.d.get x.drum).getD (bE, 0)).1, IntKind.i64.wrap (((s.d.get x.drum).getD (bE, 0)).2 - x.long)), s.k⟩, ((s.d.get x.drum).getD (bE, 0)).1, 0)) else (s, bE, 8) := by
    unfold takeS; rw [if_neg (by omega)]
  rw [hne, hin]
  by_cases h0 : 0 < (r.l.get x.drum).getD 0
  · have hv : (s.d.get x.drum).getD (bE, 0) = ((r.k.get x.drum).getD bE, (r.l.get x.drum).getD 0) := by rw [hd, seen, if_pos h0]; rfl
    rw [hv]
    generalize hg : (r.l.get x.drum).getD 0 = n at *
    have hw : IntKind.i64.wrap (n - x.long) = n - x.long := wrap_in (by omega) (by omega)
    simp only [h0, decide_true, if_true, hw]
    -- what is left of a drum
    have hres : ∀ m : Int, 0 ≤ m → m ≤ 200000 → Rel ⟨if m = 0 then s.d.del x.drum else s.d.put x.drum ((r.k.get x.drum).getD bE, m), s.k⟩ ⟨r.l.put x.drum m, r.k⟩ := by
      intro m m0 m1
      refine ⟨fun d => h.k d, fun d => ?_, fun d => ?_, fun d => ?_⟩
      · simp only [seen, SM.get_put]
        split
        · rename_i e
          rw [SM.get_del hs.d]
          by_cases hxd : x.drum = d
          · simp [hxd, e]
          · simp only [if_neg hxd]; rw [h.d d]; rfl
        · rename_i e
          rw [SM.get_put]
          by_cases hxd : x.drum = d
          · subst hxd; simp; omega
          · simp only [if_neg hxd]; rw [h.d d]; rfl
      · simp only [SM.get_put]
        split
        · simp; omega
        · exact h.n d
      · simp only [SM.get_put]
        split
        · rename_i e; intro _; rw [← e]; exact hh h0
        · exact h.h d
    by_cases k2 : x.kd = 2
    · have hre : doR r x = if n < x.long then (r, 0, 12) else (⟨r.l.put x.drum (n - x.long), r.k⟩, x.long, 0) := by
        unfold doR; rw [if_neg k1, if_pos k2, hg, if_neg (by omega), hw]
      rw [hre]
      by_cases hlt : n < x.long
      · rw [if_pos ⟨k2, hlt⟩, if_pos hlt]; exact ⟨h, rfl, fun e => by cases e⟩
      · rw [if_neg (fun e => hlt e.2), if_neg hlt]
        have hr := hres (n - x.long) (by omega) (by omega)
        by_cases hz : n - x.long = 0
        · rw [if_pos (.inr hz)]; rw [if_pos hz] at hr; exact ⟨hr, rfl, fun _ => ⟨rfl, by simp [k2]⟩⟩
        · rw [if_neg (by omega)]; rw [if_neg hz] at hr; exact ⟨hr, rfl, fun _ => ⟨rfl, by simp [k2]⟩⟩
    · have k4 : x.kd = 4 := by omega
      have hre : doR r x = (⟨r.l.put x.drum 0, r.k⟩, 0, 0) := by
        unfold doR; rw [if_neg k1, if_neg k2, if_neg k3, hg, if_neg (by omega)]
      rw [hre, if_neg (fun e => k2 e.1), if_pos (.inl k4)]
      have hr := hres 0 (by omega) (by omega)
      rw [if_pos rfl] at hr
      exact ⟨hr, rfl, fun _ => ⟨rfl, by simp [k4]⟩⟩
  · have hz : (r.l.get x.drum).getD 0 = 0 := by omega
    have hre : doR r x = (r, 0, 8) := by
      unfold doR; rw [if_neg k1]
      by_cases k2 : x.kd = 2
      · rw [if_pos k2, if_pos hz]
      · rw [if_neg k2, if_neg k3, if_pos hz]
    rw [hre]
    rw [show decide (0 < (r.l.get x.drum).getD 0) = false from decide_eq_false h0]
    exact ⟨h, rfl, fun e => by cases e⟩
theorem actsErr_all : ∀ (l : List Ac) (p : Option Ac), actsErr p l = 0 → ∀ x ∈ l, actErr x = 0
  | [], _, _, x, hx => by cases hx
  | y :: r, p, h, x, hx => by
    unfold actsErr at h
    split at h
    · rename_i h1; exact absurd h h1
    · split at h
      · cases h
      · rename_i h1 h2
        rcases List.mem_cons.1 hx with rfl | hx
        · simpa using h1
        · exact actsErr_all r _ h x hx
theorem actsFault_all {l : List Ac} (h : actsFault l = 0) : l.length ≤ 2000 ∧ ∀ x ∈ l, actErr x = 0 := by
  unfold actsFault at h
  split at h
  · cases h
  · exact ⟨by omega, actsErr_all l _ h⟩
theorem rel_at {l : List Ac} (h : actsFault l = 0) : ∀ k, k ≤ l.length → Rel (stoAt l k) (rtoAt l k)
  | 0, _ => rel_nil
  | k + 1, hk => by
    have hg : l.getD k acD = l[k]'(by omega) := by simp [show k < l.length by omega]
    have := (rel_step (stoAt_ok l k) (rel_at h k (by omega)) ((actsFault_all h).2 _ (List.getElem_mem (show k < l.length by omega)))).1
    rw [stoAt, rtoAt, hg]
    exact this
end Go.Proofs.YtobcplhaabaemaaGreat

/- Sums over both stores. -/
namespace Go.Proofs.YtobcplhaabaemaaGreat
set_option linter.unusedVariables false
set_option linter.unusedSimpArgs false
open Abs

def dPc (e : DE) : Pc := ⟨e.2.1, e.2.2.1, e.2.2.2⟩
theorem keys_nd {α : Type} [DecidableEq α] {β : Type} {s : SM α β} (h : s.ok) : (s.es.map (·.2.1)).Nodup := by
  have := h.kn
  rw [SM.m, List.map_map] at this
  exact this
theorem sto_perm {s : Sto} {r : Rto} (hs : s.ok) (hr : r.ok) (h : Rel s r) : (s.d.es.map dPc).Perm (stL r r.l.es) := by
  have n1 : (s.d.es.map dPc).Nodup := by
    refine nodup_of_map (f := Pc.key) ?_
    rw [List.map_map]
    exact keys_nd hs.d
  have n2 : (stL r r.l.es).Nodup := by
    refine nodup_of_map (f := Pc.key) ?_
    unfold stL
    rw [List.map_map]
    exact ((List.filter_sublist).map _).nodup (keys_nd hr.l)
  refine perm_of_nodup n1 n2 fun p => ?_
  have e1 : p ∈ s.d.es.map dPc ↔ s.d.get p.key = some (p.kind, p.long) := by
    constructor
    · intro hp
      obtain ⟨e, he, rfl⟩ := List.mem_map.1 hp
      exact get_of_mem hs.d he
    · intro hp
      obtain ⟨n, hn⟩ := mem_of_get hp
      exact List.mem_map.2 ⟨_, hn, rfl⟩
  have e2 : p ∈ stL r r.l.es ↔ seen r p.key = some (p.kind, p.long) := by
    unfold stL seen
    constructor
    · intro hp
      obtain ⟨e, he, rfl⟩ := List.mem_map.1 hp
      obtain ⟨he1, he2⟩ := List.mem_filter.1 he
      have hg := get_of_mem hr.l he1
      have he2 : 0 < e.2.2 := by simpa using he2
      show (if 0 < (r.l.get e.2.1).getD 0 then some ((r.k.get e.2.1).getD bE, (r.l.get e.2.1).getD 0) else none) = _
      rw [hg]
      simp only [Option.getD_some, if_pos he2]
      rfl
    · intro hp
      split at hp
      · rename_i h0
        cases hg : r.l.get p.key with
        | none => rw [hg] at h0; simp at h0
        | some n =>
          rw [hg] at hp h0
          simp only [Option.getD_some, Option.some.injEq, Prod.mk.injEq] at hp h0
          obtain ⟨m, hm⟩ := mem_of_get hg
          refine List.mem_map.2 ⟨_, List.mem_filter.2 ⟨hm, by simpa using h0⟩, ?_⟩
          obtain ⟨a, b, c⟩ := p
          simp only at hp
          simp only [stE, Pc.mk.injEq, true_and]
          exact hp
      · cases hp
  rw [e1, e2, h.d]
theorem eput_len {κ β : Type} [DecidableEq κ] (c : Nat) : ∀ (es : List (Nat × κ × β)) (x : κ) (y : β), (eput c es x y).length ≤ es.length + 1
  | [], _, _ => by simp [eput]
  | e :: r, x, y => by
    unfold eput
    split
    · simp
    · have := eput_len c r x y; simp; omega
theorem rto_len (l : List Ac) : ∀ k, (rtoAt l k).l.es.length ≤ k
  | 0 => Nat.le_refl _
  | k + 1 => by
    have ih := rto_len l k
    rw [rtoAt]
    unfold doR
    repeat' split
    all_goals first
      | (simp only; omega)
      | (have := fun y => eput_len (rtoAt l k).l.clock (rtoAt l k).l.es (l.getD k acD).drum y
         exact Nat.le_trans (this _) (by omega))
theorem longOk_at {l : List Ac} (hf : actsFault l = 0) (k : Nat) (hk : k ≤ l.length) : LongOk (stoAt l k) := by
  have hr := rel_at hf k hk
  refine ⟨fun e he => ?_, ?_⟩
  · have h1 := get_of_mem (stoAt_ok l k).d he
    rw [hr.d] at h1
    unfold seen at h1
    split at h1
    · rename_i h0
      have h2 := hr.n e.2.1
      simp only [Option.some.injEq] at h1
      rw [← h1]
      exact ⟨h0, h2.2⟩
    · cases h1
  · have h1 := (sto_perm (stoAt_ok l k) (rtoAt_ok l k) hr).length_eq
    have h2 := stL_len (rtoAt l k) (rtoAt l k).l.es
    have h3 := rto_len l k
    have h4 := (actsFault_all hf).1
    rw [List.length_map] at h1
    omega
end Go.Proofs.YtobcplhaabaemaaGreat

/- The least stock: both say the same. -/
namespace Go.Proofs.YtobcplhaabaemaaGreat
set_option linter.unusedVariables false
set_option linter.unusedSimpArgs false
open Abs

abbrev moN (l : List Ac) (k : Nat) : Int := (l.getD k acD).mo
theorem moN_at {l : List Ac} {k : Nat} (h : k < l.length) : moN l k = l[k].mo := by simp [moN, h]
theorem acts_adj : ∀ (l : List Ac) (p : Option Ac), actsErr p l = 0 → ∀ k (h : k + 1 < l.length), l[k].mo ≤ l[k + 1].mo
  | [], _, _, k, h => by simp at h
  | [a], _, _, k, h => by simp at h
  | a :: b :: r, p, he, k, h => by
    unfold actsErr at he
    split at he
    · rename_i h1; exact absurd he h1
    · split at he
      · cases he
      · cases k with
        | zero =>
          unfold actsErr at he
          split at he
          · rename_i h1; exact absurd he h1
          · split at he
            · cases he
            · rename_i h2
              simp only [badPrev, decide_eq_true_eq] at h2
              show a.mo ≤ b.mo
              rcases Int.lt_or_le b.mo a.mo with h3 | h3
              · exfalso
                apply h2
                have h4 : cmpI b.mo a.mo = -1 := by unfold cmpI; rw [if_pos h3]
                unfold timeC firstErr
                rw [h4, if_neg (by decide)]; decide
              · exact h3
        | succ k => exact acts_adj (b :: r) _ he k (by simpa using h)
theorem acts_sorted {l : List Ac} (hf : actsFault l = 0) (i : Nat) : ∀ j, i ≤ j → j < l.length → moN l i ≤ moN l j := by
  have ha : actsErr none l = 0 := by
    have := hf; unfold actsFault at this; split at this
    · cases this
    · exact this
  intro j
  induction j with
  | zero => intro h1 h2; have : i = 0 := by omega
            subst this; exact Int.le_refl _
  | succ j ih =>
    intro h1 h2
    rcases Nat.lt_or_ge i (j + 1) with h3 | h3
    · have h4 := acts_adj l none ha j h2
      have h5 := ih (by omega) (by omega)
      rw [moN_at (show j < l.length by omega)] at h5
      rw [moN_at h2]; omega
    · have : i = j + 1 := by omega
      subst this; exact Int.le_refl _
theorem cnt_iff {l : List Ac} (hf : actsFault l = 0) {k : Nat} (hk : k < l.length) (t : Int) : moN l k ≤ t ↔ k < cntAt l t := by
  constructor
  · intro h
    rcases Nat.lt_or_ge k (cntAt l t) with h1 | h1
    · exact h1
    · exfalso
      have h2 : cntAt l t < l.length := by omega
      have h3 := cntAt_out h2
      have h4 := acts_sorted hf (cntAt l t) k h1 hk
      rw [moN_at h2] at h4
      omega
  · intro h
    rw [moN_at hk]; exact cntAt_in h
end Go.Proofs.YtobcplhaabaemaaGreat

/- The store at a moment, by the program. -/
namespace Go.Proofs.YtobcplhaabaemaaGreat
set_option linter.unusedVariables false
set_option linter.unusedSimpArgs false
open Abs

set_option maxRecDepth 100000 in
set_option maxHeartbeats 4000000 in
theorem at1N_pc (s : Sto) (a b : Int) (of : ByteArray) : PCp 88 [.c (.ptr 0 0), .c (.int .i64 a), .c (.str of), .c (.int .i64 b)] [stBox, stoD s, stoK s] (.tup []) [stBox, stoD s, stoK s] := by
  refine fn_sound (mt := mts) tab_fits tab_mixed Tryz.func88 (by rfl) (by kernel_rfl) (by kernel_rfl) Tryz.results88 (Nat.le_of_ble_eq_true (by kernel_rfl)) ?_
  conv => whnf
  exact .mk ⟨rfl, rfl⟩
set_option maxRecDepth 100000 in
set_option maxHeartbeats 4000000 in
theorem followA_pc (l : List Ac) (hl : l.length ≤ 100000) :
    PCp 87 [.c (.lst 6 (l.map encAc)), .c (.fn 88 [])] [] (.c (.ptr 0 0)) [stBox, stoD (stoAt l l.length), stoK (stoAt l l.length)] := by
  have hlm : (l.map encAc).length = l.length := List.length_map ..
  refine fn_sound (mt := mts) tab_fits tab_mixed Tryz.func87 (by rfl) (by kernel_rfl) (by kernel_rfl) Tryz.results87 (Nat.le_of_ble_eq_true (by kernel_rfl)) ?_
  conv => whnf
  refine loop_count (l.length) [] [1, 5, 14, 15, 16] (fun k (_ : Unit) => ⟨[(1, .c (.fn 88 [])), (5, .c (.ptr 0 0)), (14, .c (.lst 6 (l.map encAc))), (15, .c (.int .i64 (l.map encAc).length)), (16, .c (.int .i64 k))], [(0, .box [.mp 1, .mp 2]), (1, stoD (stoAt l k)), (2, stoK (stoAt l k))], 3⟩) (fun k (_ : Unit) => True) (()) ?_ ?_ ?_
  · conv => whnf
    exact ⟨rfl, trivial⟩
  · intro k _ hk _
    have hg : l.getD k ⟨0, 0, bE, bE, bE, 0⟩ = l[k] := by simp [hk]
    conv => whnf
    repeat' (first | ((first | refine Split.mk (fun h => ?_) (fun h => ?_) | refine CondG.mk (fun h => ?_) (fun h => ?_)) <;> (try simp only [decide_eq_true_eq, decide_eq_false_iff_not, Bool.not_eq_true', Bool.not_eq_false', beq_iff_eq, beq_eq_false_iff_ne, bne_iff_ne, bne_eq_false_iff_eq] at h) <;> (first | (exfalso; first | omega | exact h trivial) | (conv => whnf))) | (refine CallX.mk _ _ (by first | exact take_pc (stoAt l k) (stoAt_ok l k) l[k] | exact at1N_pc _ _ _ _) ?_; conv => whnf) | (refine CallG.mk _ _ (by first | exact take_pc (stoAt l k) (stoAt_ok l k) l[k] | exact at1N_pc _ _ _ _) ?_; conv => whnf) | (refine Ask.mk (by first | omega | (unfold roomOK; simp [cutRows]; done) | (unfold roomOK; simp [cutRows]; omega) | (simp [cutRows]; done) | (simp [cutRows]; omega)) ?_; conv => whnf) | (refine AppG.mk (by first | omega | (unfold roomOK; simp [cutRows]; done) | (unfold roomOK; simp [cutRows]; omega) | (simp [cutRows]; done) | (simp [cutRows]; omega)) ?_; conv => whnf) | (refine SliceG.fr ?_; conv => whnf) | (refine idx_at _ (by with_reducible rfl) (by first | assumption | omega) ?_; conv => whnf) | ((with_reducible refine row_map (by first | assumption | omega) ?_); conv => whnf) | ((with_reducible refine row_set (by first | assumption | omega | (simp only [List.length_set]; omega) | (simp; omega)) ?_); conv => whnf) | fail)
    refine count_next () hk (by rw [wrap_succ hk (by omega)]; simp only [stoAt, hg]; rfl) trivial
  · intro _ _
    conv => whnf
    repeat' (first | ((first | refine Split.mk (fun h => ?_) (fun h => ?_) | refine CondG.mk (fun h => ?_) (fun h => ?_)) <;> (try simp only [decide_eq_true_eq, decide_eq_false_iff_not, Bool.not_eq_true', Bool.not_eq_false', beq_iff_eq, beq_eq_false_iff_ne] at h) <;> (first | (exfalso; first | omega | exact h trivial) | (conv => whnf))) | (refine Ask.mk (by first | omega | (unfold roomOK; simp [cutRows]; done) | (unfold roomOK; simp [cutRows]; omega)) ?_; conv => whnf) | (refine AppG.mk (by first | omega | (unfold roomOK; simp [cutRows]; done) | (unfold roomOK; simp [cutRows]; omega)) ?_; conv => whnf) | (refine SliceG.fr ?_; conv => whnf) | fail)
    exact .mk ⟨rfl, rfl⟩
def atE (l : List Ac) (t : Int) : Int := if actsFault l ≠ 0 then actsFault l else if momB t = true then 0 else 1
theorem stoAt_take (l : List Ac) (n : Nat) (hn : n ≤ l.length) : ∀ k, k ≤ n → stoAt (l.take n) k = stoAt l k
  | 0, _ => rfl
  | k + 1, h => by
    unfold stoAt
    rw [stoAt_take l n hn k (by omega)]
    have e : (l.take n).getD k ⟨0, 0, bE, bE, bE, 0⟩ = l.getD k ⟨0, 0, bE, bE, bE, 0⟩ := by
      simp only [List.getD_eq_getElem?_getD, List.getElem?_take, if_pos (show k < n by omega)]
    rw [e]
set_option maxRecDepth 100000 in
set_option maxHeartbeats 4000000 in
theorem at_ok (l : List Ac) (t : Int) (h : atE l t = 0) : PCp 53 [.c (.lst 6 (l.map encAc)), .c (.int .i64 t)] [] (.tup [.c (.ptr 0 0), .c (.int .i64 0)]) [stBox, stoD (stoAt l (cntAt l t)), stoK (stoAt l (cntAt l t))] := by
  have hf : actsFault l = 0 := by
    unfold atE at h
    split at h
    · exact h
    · rename_i h1; omega
  have hm : momB t = true := by
    unfold atE at h
    rw [if_neg (by omega)] at h
    split at h
    · assumption
    · cases h
  have hl := (actsFault_all hf).1
  have hlm : (l.map encAc).length = l.length := List.length_map ..
  have c1 := bMoment_pc t
  rw [hm] at c1
  have c2 := checkActs_pc l
  rw [hf] at c2
  have c3 := followA_pc (l.take (cntAt l t)) (by simp; omega)
  have hcl := cntAt_le l t
  rw [show (l.take (cntAt l t)).length = cntAt l t by simp; omega, stoAt_take l _ hcl _ (Nat.le_refl _), List.map_take] at c3
  refine fn_sound (mt := mts) tab_fits tab_mixed Tryz.func53 (by rfl) (by kernel_rfl) (by kernel_rfl) Tryz.results53 (Nat.le_of_ble_eq_true (by kernel_rfl)) ?_
  conv => whnf
  repeat' (first | ((first | refine Split.mk (fun h => ?_) (fun h => ?_) | refine CondG.mk (fun h => ?_) (fun h => ?_)) <;> (try simp only [decide_eq_true_eq, decide_eq_false_iff_not, Bool.not_eq_true', Bool.not_eq_false', beq_iff_eq, beq_eq_false_iff_ne, bne_iff_ne, bne_eq_false_iff_eq] at h) <;> (first | (exfalso; first | omega | exact h trivial | contradiction | (simp_all [eqRes]; done)) | (conv => whnf))) | (refine CallX.mk _ _ (by first | exact c2 | exact c1) ?_; conv => whnf) | (refine CallG.mk _ _ (by first | exact c2 | exact c1) ?_; conv => whnf) | (refine Ask.mk (by first | omega | (unfold roomOK; simp [cutRows]; done) | (unfold roomOK; simp [cutRows]; omega) | (simp [cutRows]; done) | (simp [cutRows]; omega)) ?_; conv => whnf) | (refine AppG.mk (by first | omega | (unfold roomOK; simp [cutRows]; done) | (unfold roomOK; simp [cutRows]; omega) | (simp [cutRows]; done) | (simp [cutRows]; omega)) ?_; conv => whnf) | (refine SliceG.fr ?_; conv => whnf) | (refine idx_at _ (by with_reducible rfl) (by first | assumption | omega) ?_; conv => whnf) | ((with_reducible refine row_map (by first | assumption | omega) ?_); conv => whnf) | ((with_reducible refine row_set (by first | assumption | omega | (simp only [List.length_set]; omega) | (simp; omega)) ?_); conv => whnf) | fail)
  refine loop_while (fun (n : Nat) => n) [] [0, 1, 7] (fun (n : Nat) => [(7, .c (.int .i64 (n : Int)))]) (fun (n : Nat) => []) (fun (n : Nat) => n ≤ l.length ∧ cntAt l t ≤ n) (l.length) ?_
  conv => whnf
  refine ⟨(by first | rfl | (simp; done) | (simp; rfl)), ?_, ?_⟩
  · exact ⟨Nat.le_refl _, hcl⟩
  · intro n ⟨h1, h2⟩
    have hmem : ∀ k (hk : k < l.length), l[k].mo ≤ t ↔ k < cntAt l t := fun k hk => by
      have := cnt_iff hf hk t
      rwa [moN_at hk] at this
    cases n with
    | zero =>
      have e0 : cntAt l t = 0 := by omega
      rw [e0] at c3 ⊢
      conv => whnf
      repeat' (first | ((first | refine Split.mk (fun h => ?_) (fun h => ?_) | refine CondG.mk (fun h => ?_) (fun h => ?_)) <;> (try simp only [decide_eq_true_eq, decide_eq_false_iff_not, Bool.not_eq_true', Bool.not_eq_false', beq_iff_eq, beq_eq_false_iff_ne, bne_iff_ne, bne_eq_false_iff_eq] at h) <;> (first | (exfalso; first | omega | exact h trivial | contradiction | (simp_all [eqRes]; done)) | (conv => whnf))) | (refine CallX.mk _ _ (by first | exact c3) ?_; conv => whnf) | (refine CallG.mk _ _ (by first | exact c3) ?_; conv => whnf) | (refine Ask.mk (by first | omega | (unfold roomOK; simp [cutRows]; done) | (unfold roomOK; simp [cutRows]; omega) | (simp [cutRows]; done) | (simp [cutRows]; omega)) ?_; conv => whnf) | (refine AppG.mk (by first | omega | (unfold roomOK; simp [cutRows]; done) | (unfold roomOK; simp [cutRows]; omega) | (simp [cutRows]; done) | (simp [cutRows]; omega)) ?_; conv => whnf) | (refine SliceG.fr ?_; conv => whnf) | (refine idx_at _ (by with_reducible rfl) (by first | assumption | omega) ?_; conv => whnf) | ((with_reducible refine row_map (by first | assumption | omega) ?_); conv => whnf) | ((with_reducible refine row_set (by first | assumption | omega | (simp only [List.length_set]; omega) | (simp; omega)) ?_); conv => whnf) | fail)
      exact .mk ⟨rfl, rfl⟩
    | succ m =>
      have hk : m < l.length := by omega
      have hw : IntKind.i64.wrap (((m + 1 : Nat) : Int) - 1) = ((m : Nat) : Int) := by rw [wrap_in (by omega) (by omega)]; omega
      have h6 := hmem m hk
      by_cases h7 : m < cntAt l t
      · have h8 := h6.2 h7
        have e0 : cntAt l t = m + 1 := by omega
        rw [e0] at c3 ⊢
        conv => whnf
        repeat' (first | ((first | refine Split.mk (fun h => ?_) (fun h => ?_) | refine CondG.mk (fun h => ?_) (fun h => ?_)) <;> (try simp only [decide_eq_true_eq, decide_eq_false_iff_not, Bool.not_eq_true', Bool.not_eq_false', beq_iff_eq, beq_eq_false_iff_ne, bne_iff_ne, bne_eq_false_iff_eq] at h) <;> (first | (exfalso; first | omega | exact h trivial | contradiction | (simp_all [eqRes]; done)) | (conv => whnf))) | (refine Ask.mk (by first | omega | (unfold roomOK; simp [cutRows]; done) | (unfold roomOK; simp [cutRows]; omega) | (simp [cutRows]; done) | (simp [cutRows]; omega)) ?_; conv => whnf) | (refine AppG.mk (by first | omega | (unfold roomOK; simp [cutRows]; done) | (unfold roomOK; simp [cutRows]; omega) | (simp [cutRows]; done) | (simp [cutRows]; omega)) ?_; conv => whnf) | (refine SliceG.fr ?_; conv => whnf) | (refine idx_at _ (by with_reducible rfl) (by first | assumption | omega) ?_; conv => whnf) | ((with_reducible refine row_map (by first | assumption | omega) ?_); conv => whnf) | ((with_reducible refine row_set (by first | assumption | omega | (simp only [List.length_set]; omega) | (simp; omega)) ?_); conv => whnf) | fail)
        rw [hw]
        repeat' (first | ((first | refine Split.mk (fun h => ?_) (fun h => ?_) | refine CondG.mk (fun h => ?_) (fun h => ?_)) <;> (try simp only [decide_eq_true_eq, decide_eq_false_iff_not, Bool.not_eq_true', Bool.not_eq_false', beq_iff_eq, beq_eq_false_iff_ne, bne_iff_ne, bne_eq_false_iff_eq] at h) <;> (first | (exfalso; first | omega | exact h trivial | contradiction | (simp_all [eqRes]; done)) | (conv => whnf))) | (refine CallX.mk _ _ (by first | exact c3) ?_; conv => whnf) | (refine CallG.mk _ _ (by first | exact c3) ?_; conv => whnf) | (refine Ask.mk (by first | omega | (unfold roomOK; simp [cutRows]; done) | (unfold roomOK; simp [cutRows]; omega) | (simp [cutRows]; done) | (simp [cutRows]; omega)) ?_; conv => whnf) | (refine AppG.mk (by first | omega | (unfold roomOK; simp [cutRows]; done) | (unfold roomOK; simp [cutRows]; omega) | (simp [cutRows]; done) | (simp [cutRows]; omega)) ?_; conv => whnf) | (refine SliceG.fr ?_; conv => whnf) | (refine idx_at _ (by with_reducible rfl) (by first | assumption | omega) ?_; conv => whnf) | ((with_reducible refine row_map (by first | assumption | omega) ?_); conv => whnf) | ((with_reducible refine row_set (by first | assumption | omega | (simp only [List.length_set]; omega) | (simp; omega)) ?_); conv => whnf) | fail)
        exact .mk ⟨rfl, rfl⟩
      · have h8 : t < l[m].mo := by
          rcases Int.lt_or_le t l[m].mo with h9 | h9
          · exact h9
          · exact (h7 (h6.1 h9)).elim
        conv => whnf
        repeat' (first | ((first | refine Split.mk (fun h => ?_) (fun h => ?_) | refine CondG.mk (fun h => ?_) (fun h => ?_)) <;> (try simp only [decide_eq_true_eq, decide_eq_false_iff_not, Bool.not_eq_true', Bool.not_eq_false', beq_iff_eq, beq_eq_false_iff_ne, bne_iff_ne, bne_eq_false_iff_eq] at h) <;> (first | (exfalso; first | omega | exact h trivial | contradiction | (simp_all [eqRes]; done)) | (conv => whnf))) | (refine Ask.mk (by first | omega | (unfold roomOK; simp [cutRows]; done) | (unfold roomOK; simp [cutRows]; omega) | (simp [cutRows]; done) | (simp [cutRows]; omega)) ?_; conv => whnf) | (refine AppG.mk (by first | omega | (unfold roomOK; simp [cutRows]; done) | (unfold roomOK; simp [cutRows]; omega) | (simp [cutRows]; done) | (simp [cutRows]; omega)) ?_; conv => whnf) | (refine SliceG.fr ?_; conv => whnf) | (refine idx_at _ (by with_reducible rfl) (by first | assumption | omega) ?_; conv => whnf) | ((with_reducible refine row_map (by first | assumption | omega) ?_); conv => whnf) | ((with_reducible refine row_set (by first | assumption | omega | (simp only [List.length_set]; omega) | (simp; omega)) ?_); conv => whnf) | fail)
        rw [hw]
        repeat' (first | ((first | refine Split.mk (fun h => ?_) (fun h => ?_) | refine CondG.mk (fun h => ?_) (fun h => ?_)) <;> (try simp only [decide_eq_true_eq, decide_eq_false_iff_not, Bool.not_eq_true', Bool.not_eq_false', beq_iff_eq, beq_eq_false_iff_ne, bne_iff_ne, bne_eq_false_iff_eq] at h) <;> (first | (exfalso; first | omega | exact h trivial | contradiction | (simp_all [eqRes]; done)) | (conv => whnf))) | (refine Ask.mk (by first | omega | (unfold roomOK; simp [cutRows]; done) | (unfold roomOK; simp [cutRows]; omega) | (simp [cutRows]; done) | (simp [cutRows]; omega)) ?_; conv => whnf) | (refine AppG.mk (by first | omega | (unfold roomOK; simp [cutRows]; done) | (unfold roomOK; simp [cutRows]; omega) | (simp [cutRows]; done) | (simp [cutRows]; omega)) ?_; conv => whnf) | (refine SliceG.fr ?_; conv => whnf) | (refine idx_at _ (by with_reducible rfl) (by first | assumption | omega) ?_; conv => whnf) | ((with_reducible refine row_map (by first | assumption | omega) ?_); conv => whnf) | ((with_reducible refine row_set (by first | assumption | omega | (simp only [List.length_set]; omega) | (simp; omega)) ?_); conv => whnf) | fail)
        rw [hw]
        exact meas_next m (by omega) rfl ⟨by omega, by omega⟩
end Go.Proofs.YtobcplhaabaemaaGreat

/- What is in the store at a moment: the lists. -/
namespace Go.Proofs.YtobcplhaabaemaaGreat
set_option linter.unusedVariables false
set_option linter.unusedSimpArgs false
open Abs

set_option maxRecDepth 100000 in
set_option maxHeartbeats 4000000 in
theorem stockC_pc (a b : Pc) : PCp 55 [.agg (encPc a), .agg (encPc b)] [] (.c (.int .i64 (cmpS a.key b.key))) [] := by
  refine fn_sound (mt := mts) tab_fits tab_mixed Tryz.func55 (by rfl) (by kernel_rfl) (by kernel_rfl) Tryz.results55 (Nat.le_of_ble_eq_true (by kernel_rfl)) ?_
  conv => whnf
  repeat' (first | ((first | refine Split.mk (fun h => ?_) (fun h => ?_) | refine CondG.mk (fun h => ?_) (fun h => ?_)) <;> (try simp only [decide_eq_true_eq, decide_eq_false_iff_not, Bool.not_eq_true', Bool.not_eq_false', beq_iff_eq, beq_eq_false_iff_ne] at h) <;> (first | (exfalso; first | omega | exact h trivial) | (conv => whnf))) | (refine CallX.mk _ _ (by first | exact sCompare_pc _ _) ?_; conv => whnf) | (refine CallG.mk _ _ (by first | exact sCompare_pc _ _) ?_; conv => whnf) | (refine Ask.mk (by first | omega | (unfold roomOK; simp [cutRows]; done) | (unfold roomOK; simp [cutRows]; omega)) ?_; conv => whnf) | (refine AppG.mk (by first | omega | (unfold roomOK; simp [cutRows]; done) | (unfold roomOK; simp [cutRows]; omega)) ?_; conv => whnf) | (refine SliceG.fr ?_; conv => whnf) | fail)
  exact fini rfl
theorem PCx.mono {P : Program} {f : Nat} {args : List S} {objs : List Ob} {Q Q' : S → List Ob → Prop} (h : PCx P f args objs Q) (hi : ∀ r os, Q r os → Q' r os) : PCx P f args objs Q' :=
  ⟨h.fn, fun F φ w cs a b c => (h.calls F φ w cs a b c).mono (by rintro e w' ⟨c, F', φ', r, os, hQ, rest⟩; exact ⟨c, F', φ', r, os, hi _ _ hQ, rest⟩)⟩
theorem sortDrums_pc {g : Nat} (hg : ∀ a b : Pc, PCp g [.agg (encPc a), .agg (encPc b)] [] (.c (.int .i64 (cmpS a.key b.key))) []) (l : List Pc) (hl : l.length ≤ 1000000) (hn : (l.map Pc.key).Nodup) :
    PCq 54 [.c (.row 0), .c (.fn g [])] [.row 52 3 (l.map encPc)] fun r os => ∃ l', (Rise Pc.key l' ∧ l'.Perm l) ∧ r = .tup [] ∧ os = [.row 52 3 (l'.map encPc)] := by
  have h := sort_pcx layDrum (encA := encPc) (c := fun a b : Pc => cmpS a.key b.key) (by decide) (fun w => (tab_fits 52 _ rfl).isAgg w) (fun w => (tab_fits 52 _ rfl).sizeOf w) (fun x => rfl) (swo_key Pc.key) hg 52 l (by omega)
  refine PCx.mono h ?_
  rintro r os ⟨l', hs, h1, h2⟩
  exact ⟨l', ⟨rise_of hs.2 ((hs.1.map _).nodup_iff.2 hn), hs.1⟩, h1, h2⟩
def dL (vis : List DE) : List Pc := vis.map dPc
set_option maxRecDepth 100000 in
set_option maxHeartbeats 4000000 in
theorem dStock_pc (l : List Ac) (t : Int) (h0 : atE l t = 0) :
    PCq 17 [.c (.lst 6 (l.map encAc)), .c (.int .i64 t)] [] fun r os => ∃ ds : List Pc, (Rise Pc.key ds ∧ ds.Perm (dL (stoAt l (cntAt l t)).d.es)) ∧ r = .tup [.c (.row 0), .c (.int .i64 0)] ∧ os = [.row 52 3 (ds.map encPc)] := by
  have hok := stoAt_ok l (cntAt l t)
  have hf : actsFault l = 0 := by
    unfold atE at h0
    split at h0
    · exact h0
    · rename_i h1; omega
  have hlen : (stoAt l (cntAt l t)).d.es.length ≤ 1000000 := (longOk_at hf (cntAt l t) (cntAt_le l t)).2
  have hc := at_ok l t h0
  generalize hs : stoAt l (cntAt l t) = s at hok hc hlen
  refine fn_soundX (mt := mts) tab_fits tab_mixed Tryz.func17 (by rfl) (by kernel_rfl) (by kernel_rfl) Tryz.results17 (Nat.le_of_ble_eq_true (by kernel_rfl)) ?_
  conv => whnf
  repeat' (first | ((first | refine Split.mk (fun h => ?_) (fun h => ?_) | refine CondG.mk (fun h => ?_) (fun h => ?_)) <;> (try simp only [decide_eq_true_eq, decide_eq_false_iff_not, Bool.not_eq_true', Bool.not_eq_false', beq_iff_eq, beq_eq_false_iff_ne, bne_iff_ne, bne_eq_false_iff_eq] at h) <;> (first | (exfalso; first | omega | exact h trivial | contradiction | (simp_all [eqRes]; done)) | (conv => whnf))) | (refine CallX.mk _ _ (by first | exact hc) ?_; conv => whnf) | (refine CallG.mk _ _ (by first | exact hc) ?_; conv => whnf) | (refine Ask.mk (by first | omega | (unfold roomOK; simp [cutRows]; done) | (unfold roomOK; simp [cutRows]; omega) | (simp [cutRows]; done) | (simp [cutRows]; omega)) ?_; conv => whnf) | (refine AppG.mk (by first | omega | (unfold roomOK; simp [cutRows]; done) | (unfold roomOK; simp [cutRows]; omega) | (simp [cutRows]; done) | (simp [cutRows]; omega)) ?_; conv => whnf) | (refine SliceG.fr ?_; conv => whnf) | (refine idx_at _ (by with_reducible rfl) (by first | assumption | omega) ?_; conv => whnf) | ((with_reducible refine row_map (by first | assumption | omega) ?_); conv => whnf) | ((with_reducible refine row_set (by first | assumption | omega | (simp only [List.length_set]; omega) | (simp; omega)) ?_); conv => whnf) | fail)
  refine loop_meas (fun (vis : List DE) => s.d.es.length - vis.length) [.sl 8 52 3] [8, 24] (fun (vis : List DE) => ⟨[(8, .c (.row 0)), (24, .c (.ptr 1 0))], [(0, .row 52 3 ((dL vis.reverse).map encPc)), (1, .iter 2 s.d.clock (vis.map (·.1))), (2, stoD s)], 3⟩) (fun (vis : List DE) => Vis s.d vis) ([]) ?_ ?_
  · conv => whnf
    exact ⟨rfl, Vis.nil _⟩
  · intro vis hv
    have hvl := hv.len
    have hdl : (dL vis.reverse).length = vis.length := by simp [dL]
    have hslm : ((dL vis.reverse).map encPc).length = vis.length := by simp [dL]
    conv => whnf
    refine .mk rfl ?_
    conv => whnf
    refine sm_next hok.d hv (fun hp => ?_) (fun e he hn hv' hlt => ?_)
    · conv => whnf
      have hpr : (dL vis.reverse).Perm (dL s.d.es) := ((List.reverse_perm vis).trans hp).map _
      refine .ex _ (sortDrums_pc stockC_pc (dL vis.reverse) (by simp [dL]; omega) ?_) ?_
      · refine ((hpr.map Pc.key).nodup_iff).2 ?_
        unfold dL
        rw [List.map_map]
        exact keys_nd hok.d
      rintro _ _ ⟨ds, ⟨hr, hq⟩, rfl, rfl⟩
      conv => whnf
      exact .mk _ _ ⟨ds, ⟨hr, hq.trans hpr⟩, rfl, rfl⟩ (.mk ⟨rfl, rfl⟩)
    · conv => whnf
      refine .mk rfl ?_
      conv => whnf
      refine sm_at hok.d he ?_
      conv => whnf
      repeat' (first | ((first | refine Split.mk (fun h => ?_) (fun h => ?_) | refine CondG.mk (fun h => ?_) (fun h => ?_)) <;> (try simp only [decide_eq_true_eq, decide_eq_false_iff_not, Bool.not_eq_true', Bool.not_eq_false', beq_iff_eq, beq_eq_false_iff_ne, bne_iff_ne, bne_eq_false_iff_eq] at h) <;> (first | (exfalso; first | omega | exact h trivial) | (conv => whnf))) | (refine Ask.mk (by first | omega | (unfold roomOK; simp [cutRows]; done) | (unfold roomOK; simp [cutRows]; omega) | (simp [cutRows]; done) | (simp [cutRows]; omega)) ?_; conv => whnf) | (refine AppG.mk (by first | omega | (unfold roomOK; simp [cutRows]; done) | (unfold roomOK; simp [cutRows]; omega) | (simp [cutRows]; done) | (simp [cutRows]; omega)) ?_; conv => whnf) | (refine SliceG.fr ?_; conv => whnf) | (refine idx_at _ (by with_reducible rfl) (by first | assumption | omega) ?_; conv => whnf) | ((with_reducible refine row_map (by first | assumption | omega) ?_); conv => whnf) | ((with_reducible refine row_set (by first | assumption | omega | (simp only [List.length_set]; omega) | (simp; omega)) ?_); conv => whnf) | fail)
      have h1 : dL (e :: vis).reverse = dL vis.reverse ++ [dPc e] := by simp [dL]
      exact meas_next (e :: vis) (by simp only [List.length_cons]; omega) (by rw [h1, List.map_append]; rfl) hv'
end Go.Proofs.YtobcplhaabaemaaGreat

/- The store behind the acts of a plan (plain). -/
namespace Go.Proofs.YtobcplhaabaemaaGreat
set_option linter.unusedVariables false
set_option linter.unusedSimpArgs false
open Abs

theorem pcsErr_keys : ∀ (l : List Pc) (f : Bool) (b : ByteArray), pcsErr f b l = 0 → (∀ x ∈ l, keyB x.key = true ∧ keyB x.kind = true) ∧ Rise Pc.key l ∧ (f = false → ∀ x ∈ l, ltB b x.key = true)
  | [], _, _, _ => ⟨fun x hx => (by cases hx), List.Pairwise.nil, fun _ x hx => (by cases hx)⟩
  | y :: r, f, b, h => by
    simp only [pcsErr] at h
    split at h
    · rename_i h1
      obtain ⟨g1, g2, g3⟩ := pcsErr_keys r _ _ h
      have hk : keyB y.key = true ∧ keyB y.kind = true ∧ (f = false → ltB b y.key = true) := by
        unfold pcErr at h1
        split at h1
        · omega
        · rename_i h2
          simp only [Bool.or_eq_true, Bool.not_eq_true', not_or, Bool.not_eq_false] at h2
          refine ⟨h2.1, h2.2, fun hf => ?_⟩
          split at h1
          · omega
          · rename_i h3
            rw [hf] at h3
            simp only [Bool.not_false, Bool.true_and, Bool.not_eq_true] at h3
            exact leB_not.1 h3
      refine ⟨fun x hx => ?_, List.pairwise_cons.2 ⟨g3 rfl, g2⟩, fun hf x hx => ?_⟩
      · rcases List.mem_cons.1 hx with rfl | hx
        · exact ⟨hk.1, hk.2.1⟩
        · exact g1 x hx
      · rcases List.mem_cons.1 hx with rfl | hx
        · exact hk.2.2 hf
        · exact ltB_trans (hk.2.2 hf) (g3 rfl x hx)
    · rename_i h1; exact absurd h h1
theorem pcFault_keys {l : List Pc} (h : pcFault l = 0) : (∀ x ∈ l, keyB x.key = true ∧ keyB x.kind = true) ∧ Rise Pc.key l := by
  unfold pcFault at h
  split at h
  · omega
  · exact ⟨(pcsErr_keys l _ _ h).1, (pcsErr_keys l _ _ h).2.1⟩
theorem rise_inj {d : List Pc} (h : Rise Pc.key d) {i j : Nat} (hi : i < d.length) (hj : j < d.length) (e : d[i].key = d[j].key) : i = j := by
  rcases Nat.lt_trichotomy i j with h1 | h1 | h1
  · have := h.at h1 hj
    rw [e, ltB_irr] at this; cases this
  · exact h1
  · have := h.at h1 hi
    rw [e, ltB_irr] at this; cases this
def arrA (d : List Pc) (i : Nat) : Ac := ⟨i, 1, (d.getD i default).key, (d.getD i default).kind, bE, (d.getD i default).long⟩
def cutA (d s : List Pc) (lost : Int) (p : List Nat) (i : Nat) : Ac := ⟨10 + (i : Int), 2, (d.getD (p.getD i 0) default).key, bE, bE, (s.getD i default).long + lost⟩
def arrL (d : List Pc) : List Ac := (List.range d.length).map (arrA d)
def cutL (d s : List Pc) (lost : Int) (p : List Nat) : List Ac := (List.range p.length).map (cutA d s lost p)
def actsL (d s : List Pc) (lost : Int) (p : List Nat) : List Ac := arrL d ++ cutL d s lost p
theorem actsL_len (d s : List Pc) (lost : Int) (p : List Nat) : (actsL d s lost p).length = d.length + p.length := by simp [actsL, arrL, cutL]
theorem actsL_1 (d s : List Pc) (lost : Int) (p : List Nat) {i : Nat} (h : i < d.length) (z : Ac) : (actsL d s lost p).getD i z = arrA d i := by
  unfold actsL
  rw [List.getD_eq_getElem?_getD, List.getElem?_append_left (by simp [arrL]; exact h)]
  simp [arrL, List.getElem?_map, List.getElem?_range h]
theorem actsL_2 (d s : List Pc) (lost : Int) (p : List Nat) {i : Nat} (h : i < p.length) (z : Ac) : (actsL d s lost p).getD (d.length + i) z = cutA d s lost p i := by
  unfold actsL
  rw [List.getD_eq_getElem?_getD, List.getElem?_append_right (by simp [arrL])]
  simp [arrL, cutL, List.getElem?_map, List.getElem?_range h]
theorem actsErr_zero : ∀ (l : List Ac) (p : Option Ac), (∀ x ∈ l, actErr x = 0) → l.Pairwise (fun x y => x.mo < y.mo) → (∀ y, p = some y → ∀ x ∈ l, y.mo < x.mo) → actsErr p l = 0
  | [], _, _, _, _ => rfl
  | x :: r, p, h1, h2, h3 => by
    obtain ⟨g1, g2⟩ := List.pairwise_cons.1 h2
    rw [actsErr, if_neg (by have := h1 x (by simp); omega), if_neg, actsErr_zero r (some x) (fun y hy => h1 y (by simp [hy])) g2 (fun y hy => by cases hy; exact g1)]
    cases p with
    | none => simp [badPrev]
    | some y =>
      have := h3 y rfl x (by simp)
      unfold badPrev
      simp only [decide_eq_true_eq]
      have e : cmpI x.mo y.mo = 1 := by unfold cmpI; rw [if_neg (by omega), if_pos this]
      unfold timeC
      rw [firstErr, e, if_neg (by decide)]
      decide
theorem needV_mono {s : List Pc} {lost : Int} (hs : ∀ x ∈ s, 1 ≤ x.long ∧ x.long ≤ 200000) (h0 : 0 ≤ lost) (O : List Int) (k : Nat) {a : Nat} : ∀ {b : Nat}, a ≤ b → b ≤ s.length → needV s lost O k a ≤ needV s lost O k b
  | 0, h, _ => by have : a = 0 := by omega
                  rw [this]; exact Int.le_refl _
  | b + 1, h, hb => by
    by_cases e : a = b + 1
    · rw [e]; exact Int.le_refl _
    · have ih := needV_mono hs h0 O k (a := a) (b := b) (by omega) (by omega)
      have h1 : b < s.length := by omega
      have h2 := hs _ (List.getElem_mem h1)
      have e2 : s.getD b default = s[b] := by simp [List.getD_eq_getElem?_getD, List.getElem?_eq_getElem h1]
      rw [needV, e2]; split <;> omega
structure CutIn (d s : List Pc) (r : Int × Int) (p : List Nat) : Prop where
  ha : allErr d s r = 0
  h1 : d.length ≤ 6
  h2 : s.length ≤ 10
  he : Ext d.length s.length [] p
  hl : leftE d s r (toI p) = 0
theorem cut_long {d s : List Pc} {r : Int × Int} {p : List Nat} (h : CutIn d s r p) (j : Nat) (hj : j < s.length) : (s.getD j default).long + r.1 ≤ 200000 := by
  obtain ⟨f1, f2, f3, f4, f5, f6⟩ := allErr_ok h.ha
  have hs := (pcFault_ok f2).2
  have hpl := h.he.len
  have hjp : j < p.length := by omega
  have hpk := h.he.lt _ (List.getElem_mem hjp)
  obtain ⟨g1, g2, g3, g4⟩ := leftE_ok h.hl
  rw [any_neg, leftL_len, toI_len] at g4
  have g5 := g4 p[j] hpk
  have g6 : p[j] < (leftL d s r.1 (toI p) p.length).length := by rw [leftL_len]; exact hpk
  rw [List.getD_eq_getElem?_getD, List.getElem?_eq_getElem g6, Option.getD_some, leftL_get g6] at g5
  have g7 := needV_mono hs f3 (toI p) p[j] (a := j + 1) (b := p.length) (by omega) (by omega)
  rw [needV, toI_at p hjp, if_pos rfl] at g7
  have g8 := needV_in hs f3 f4 (toI p) p[j] j (by omega)
  have g9 := (pcFault_ok f1).2 _ (List.getElem_mem hpk)
  have e3 : d.getD p[j] default = d[p[j]] := by simp [List.getD_eq_getElem?_getD, List.getElem?_eq_getElem hpk]
  rw [e3] at g5
  omega
theorem acts_fault {d s : List Pc} {r : Int × Int} {p : List Nat} (h : CutIn d s r p) : actsFault (actsL d s r.1 p) = 0 := by
  obtain ⟨f1, f2, f3, f4, f5, f6⟩ := allErr_ok h.ha
  have hk := (pcFault_keys f1).1
  have hd := (pcFault_ok f1).2
  have hs := (pcFault_ok f2).2
  have hpl := h.he.len
  have h1 := h.h1
  have h2 := h.h2
  unfold actsFault
  rw [if_neg (by rw [actsL_len]; omega)]
  refine actsErr_zero _ _ (fun x hx => ?_) ?_ (fun y hy => by cases hy)
  · rcases List.mem_append.1 hx with hx | hx
    · obtain ⟨i, hi, rfl⟩ := List.mem_map.1 hx
      have hi := List.mem_range.1 hi
      have e : d.getD i default = d[i] := by simp [List.getD_eq_getElem?_getD, List.getElem?_eq_getElem hi]
      have g := hk _ (List.getElem_mem hi)
      have g2 := hd _ (List.getElem_mem hi)
      unfold actErr arrA
      simp only [e]
      have hm : momB (i : Int) = true := by unfold momB; simp only [decide_eq_true_eq]; omega
      rw [hm, g.1, g.2]
      simp [bE]; omega
    · obtain ⟨i, hi, rfl⟩ := List.mem_map.1 hx
      have hi := List.mem_range.1 hi
      have e0 : p.getD i 0 = p[i] := by simp [List.getD_eq_getElem?_getD, List.getElem?_eq_getElem hi]
      have hpi := h.he.lt _ (List.getElem_mem hi)
      have e : d.getD p[i] default = d[p[i]] := by simp [List.getD_eq_getElem?_getD, List.getElem?_eq_getElem hpi]
      have g := hk _ (List.getElem_mem hpi)
      have his : i < s.length := by omega
      have g2 := hs _ (List.getElem_mem his)
      have e2 : s.getD i default = s[i] := by simp [List.getD_eq_getElem?_getD, List.getElem?_eq_getElem his]
      have g3 := cut_long h i his
      unfold actErr cutA
      simp only [e0, e]
      rw [e2] at g3 ⊢
      have hm : momB (10 + (i : Int)) = true := by unfold momB; simp only [decide_eq_true_eq]; omega
      rw [hm, g.1]
      simp [bE]; omega
  · unfold actsL
    rw [List.pairwise_append]
    refine ⟨?_, ?_, ?_⟩
    · unfold arrL
      rw [List.pairwise_map]
      exact List.pairwise_lt_range.imp (fun h => by simp only [arrA]; omega)
    · unfold cutL
      rw [List.pairwise_map]
      exact List.pairwise_lt_range.imp (fun h => by simp only [cutA]; omega)
    · intro a ha b hb
      obtain ⟨i, hi, rfl⟩ := List.mem_map.1 ha
      obtain ⟨j, hj, rfl⟩ := List.mem_map.1 hb
      have := List.mem_range.1 hi
      simp only [arrA, cutA]; omega
theorem takeWhile_all {α : Type} {p : α → Bool} : ∀ {l : List α}, (∀ x ∈ l, p x = true) → l.takeWhile p = l
  | [], _ => rfl
  | x :: r, h => by rw [List.takeWhile_cons, if_pos (h x (by simp)), takeWhile_all (fun y hy => h y (by simp [hy]))]
theorem acts_cnt {d s : List Pc} {r : Int × Int} {p : List Nat} (h : CutIn d s r p) : cntAt (actsL d s r.1 p) 100 = (actsL d s r.1 p).length := by
  have hpl := h.he.len
  have h1 := h.h1
  have h2 := h.h2
  unfold cntAt
  congr 1
  refine takeWhile_all fun x hx => ?_
  rw [decide_eq_true_eq]
  rcases List.mem_append.1 hx with hx | hx
  · obtain ⟨i, hi, rfl⟩ := List.mem_map.1 hx
    have := List.mem_range.1 hi
    simp only [arrA]; omega
  · obtain ⟨i, hi, rfl⟩ := List.mem_map.1 hx
    have := List.mem_range.1 hi
    simp only [cutA]; omega
/-- behind the first arrivals -/
theorem sto_arr {d s : List Pc} {r : Int × Int} {p : List Nat} (h : CutIn d s r p) : ∀ k, k ≤ d.length → ∀ i (hi : i < d.length), (stoAt (actsL d s r.1 p) k).d.get d[i].key = (if i < k then some (d[i].kind, d[i].long) else none) ∧ (stoAt (actsL d s r.1 p) k).k.get d[i].key = (if i < k then some d[i].kind else none)
  | 0, _, i, hi => ⟨rfl, rfl⟩
  | k + 1, hk, i, hi => by
    obtain ⟨f1, f2, f3, f4, f5, f6⟩ := allErr_ok h.ha
    have hR := (pcFault_keys f1).2
    have ih := sto_arr h k (by omega)
    have hkd : k < d.length := by omega
    have e : d.getD k default = d[k] := by simp [List.getD_eq_getElem?_getD, List.getElem?_eq_getElem hkd]
    rw [stoAt, actsL_1 d s r.1 p hkd]
    have h1 := ih k hkd
    rw [if_neg (by omega), if_neg (by omega)] at h1
    have h2 := ih i hi
    generalize stoAt (actsL d s r.1 p) k = st at *
    have hT : (takeS st (arrA d k)).1 = ⟨st.d.put d[k].key (d[k].kind, d[k].long), st.k.put d[k].key d[k].kind⟩ := by
      unfold takeS arrA
      simp only [e]
      rw [h1.2]
      simp
    rw [hT]
    simp only
    rw [SM.get_put, SM.get_put, h2.1, h2.2]
    by_cases e2 : i = k
    · subst e2
      rw [if_pos rfl, if_pos rfl, if_pos (by omega), if_pos (by omega)]
      exact ⟨rfl, rfl⟩
    · have hne : ¬ d[k].key = d[i].key := fun q => e2 (rise_inj hR hkd hi q).symm
      rw [if_neg hne, if_neg hne]
      have : (i < k + 1) ↔ i < k := by omega
      simp only [this]
      exact ⟨trivial, trivial⟩
/-- what is left of a drum behind the first cuts -/
def remV (d s : List Pc) (lost : Int) (p : List Nat) (i j : Nat) : Int := (d.getD i default).long - needV s lost (toI p) i j
theorem sto_cut {d s : List Pc} {r : Int × Int} {p : List Nat} (h : CutIn d s r p) : ∀ j, j ≤ p.length → ∀ i (hi : i < d.length), (stoAt (actsL d s r.1 p) (d.length + j)).d.get d[i].key = (if 0 < remV d s r.1 p i j then some (d[i].kind, remV d s r.1 p i j) else none)
  | 0, _, i, hi => by
    obtain ⟨f1, f2, f3, f4, f5, f6⟩ := allErr_ok h.ha
    have := ((pcFault_ok f1).2 _ (List.getElem_mem hi))
    have e : remV d s r.1 p i 0 = d[i].long := by unfold remV; rw [needV]; simp [List.getD_eq_getElem?_getD, List.getElem?_eq_getElem hi]
    have h1 := (sto_arr h d.length (Nat.le_refl _) i hi).1
    rw [if_pos hi] at h1
    rw [Nat.add_zero, h1, e, if_pos (by omega)]
  | j + 1, hj, i, hi => by
    obtain ⟨f1, f2, f3, f4, f5, f6⟩ := allErr_ok h.ha
    have hR := (pcFault_keys f1).2
    have hs := (pcFault_ok f2).2
    have ih := sto_cut h j (by omega)
    have hpl := h.he.len
    have hjp : j < p.length := by omega
    have hjs : j < s.length := by omega
    have e0 : p.getD j 0 = p[j] := by simp [List.getD_eq_getElem?_getD, List.getElem?_eq_getElem hjp]
    have hpk := h.he.lt _ (List.getElem_mem hjp)
    have e : d.getD p[j] default = d[p[j]] := by simp [List.getD_eq_getElem?_getD, List.getElem?_eq_getElem hpk]
    have es : s.getD j default = s[j] := by simp [List.getD_eq_getElem?_getD, List.getElem?_eq_getElem hjs]
    have hsj := hs _ (List.getElem_mem hjs)
    have hsum : ∀ q, remV d s r.1 p q (j + 1) = remV d s r.1 p q j - (if p[j] = q then s[j].long + r.1 else 0) := by
      intro q
      unfold remV
      rw [needV, toI_at p hjp, es]
      by_cases e3 : p[j] = q
      · rw [if_pos (by omega), if_pos e3]; omega
      · rw [if_neg (by omega), if_neg e3]; omega
    have hlast : 0 ≤ remV d s r.1 p p[j] (j + 1) := by
      obtain ⟨g1, g2, g3, g4⟩ := leftE_ok h.hl
      rw [any_neg, leftL_len, toI_len] at g4
      have g5 := g4 p[j] hpk
      have g6 : p[j] < (leftL d s r.1 (toI p) p.length).length := by rw [leftL_len]; exact hpk
      rw [List.getD_eq_getElem?_getD, List.getElem?_eq_getElem g6, Option.getD_some, leftL_get g6] at g5
      have := needV_mono hs f3 (toI p) p[j] (a := j + 1) (b := p.length) (by omega) (by omega)
      unfold remV; omega
    have hlb : ∀ q, q < d.length → remV d s r.1 p q j ≤ 200000 := by
      intro q hq
      have g := needV_in hs f3 f4 (toI p) q j (by omega)
      have g2 := (pcFault_ok f1).2 _ (List.getElem_mem hq)
      have e3 : d.getD q default = d[q] := by simp [List.getD_eq_getElem?_getD, List.getElem?_eq_getElem hq]
      unfold remV; rw [e3]; omega
    rw [show d.length + (j + 1) = d.length + j + 1 by omega, stoAt, actsL_2 d s r.1 p hjp]
    have h1 := ih p[j] hpk
    have h2 := ih i hi
    have h3 := hsum p[j]
    rw [if_pos rfl] at h3
    have h4 := hsum i
    have h5 := hlb p[j] hpk
    rw [if_pos (by omega)] at h1
    have hok := (stoAt_ok (actsL d s r.1 p) (d.length + j)).d
    generalize stoAt (actsL d s r.1 p) (d.length + j) = st at *
    have hw : IntKind.i64.wrap (remV d s r.1 p p[j] j - (s[j].long + r.1)) = remV d s r.1 p p[j] (j + 1) := by rw [wrap_in (by omega) (by omega), h3]
    have hT : (takeS st (cutA d s r.1 p j)).1 = if remV d s r.1 p p[j] (j + 1) = 0 then ⟨st.d.del d[p[j]].key, st.k⟩ else ⟨st.d.put d[p[j]].key (d[p[j]].kind, remV d s r.1 p p[j] (j + 1)), st.k⟩ := by
      unfold takeS cutA
      simp only [e0, e, es, h1, Option.isSome_some, Option.getD_some]
      rw [if_neg (by omega), if_pos trivial, if_neg (by omega), hw]
      by_cases e3 : remV d s r.1 p p[j] (j + 1) = 0
      · rw [if_pos (.inr e3), if_pos e3]
      · rw [if_neg (by omega), if_neg e3]
    rw [hT]
    by_cases e3 : remV d s r.1 p p[j] (j + 1) = 0
    · rw [if_pos e3]
      simp only
      rw [SM.get_del hok, h2]
      by_cases e2 : p[j] = i
      · subst e2
        rw [if_pos rfl, if_neg (by omega)]
      · have hne : ¬ d[p[j]].key = d[i].key := fun q => e2 (rise_inj hR hpk hi q)
        rw [if_neg hne]
        rw [if_neg e2, Int.sub_zero] at h4
        rw [h4]
    · rw [if_neg e3]
      simp only
      rw [SM.get_put, h2]
      by_cases e2 : p[j] = i
      · subst e2
        rw [if_pos rfl, if_pos (by omega)]
      · have hne : ¬ d[p[j]].key = d[i].key := fun q => e2 (rise_inj hR hpk hi q)
        rw [if_neg hne]
        rw [if_neg e2, Int.sub_zero] at h4
        rw [h4]
/-- what is told of the stock -/
theorem stock_has {d s : List Pc} {r : Int × Int} {p : List Nat} (h : CutIn d s r p) {ds : List Pc} (hp : ds.Perm (dL (stoAt (actsL d s r.1 p) (cntAt (actsL d s r.1 p) 100)).d.es)) (i : Nat) (hi : i < d.length) :
    (∀ y ∈ ds, y.key = d[i].key → 0 < remV d s r.1 p i p.length ∧ y.long = remV d s r.1 p i p.length) ∧ (0 < remV d s r.1 p i p.length → ∃ y ∈ ds, y.key = d[i].key) := by
  rw [acts_cnt h, actsL_len] at hp
  have hg := sto_cut h p.length (Nat.le_refl _) i hi
  have hok := (stoAt_ok (actsL d s r.1 p) (d.length + p.length)).d
  generalize stoAt (actsL d s r.1 p) (d.length + p.length) = st at *
  constructor
  · intro y hy hk
    obtain ⟨e, he, rfl⟩ := List.mem_map.1 (hp.mem_iff.1 hy)
    have h1 := SM.get_of hok he
    have h2 : e.2.1 = d[i].key := hk
    rw [h2, hg] at h1
    split at h1
    · rename_i h3
      have := Option.some.inj h1
      refine ⟨h3, ?_⟩
      show e.2.2.2 = _
      rw [← this]
    · cases h1
  · intro h1
    rw [if_pos h1] at hg
    obtain ⟨n, hn⟩ := SM.mem_of hg
    exact ⟨dPc (n, _, _), hp.mem_iff.2 (List.mem_map.2 ⟨_, hn, rfl⟩), rfl⟩
theorem sum_zero {d s : List Pc} {r : Int × Int} (hr : r.2 = 0) {M : Nat → Nat} : ∀ {n : Nat} {a : Sc}, sumV (cstF d s r) M n = some a → a.1 = 0
  | 0, a, h => by cases h; rfl
  | n + 1, a, h => by
    obtain ⟨b, x, h1, h2, rfl⟩ := sumV_succ h
    have ih := sum_zero hr h1
    have hx : x.1 = 0 := by
      unfold cstF at h2
      split at h2
      · unfold costV at h2
        split at h2
        · cases h2; rfl
        · split at h2
          · cases h2
          · split at h2
            · cases h2
            · split at h2
              · cases h2; rfl
              · omega
      · cases h2
    unfold scAdd; simp only; omega
end Go.Proofs.YtobcplhaabaemaaGreat

/- Ducts and cables in them: what is computed, as functions on lists. -/
namespace Go.Proofs.YtobcplhaabaemaaGreat
set_option linter.unusedVariables false
set_option linter.unusedSimpArgs false
open Abs

structure Du where
  key : ByteArray
  a : ByteArray
  b : ByteArray
  long : Int
  inner : Int
def encDu (x : Du) : List V := [.str x.key, .str x.a, .str x.b, .int .i64 x.long, .int .i64 x.inner]
structure Ly where
  cable : ByteArray
  outer : Int
  ducts : List ByteArray
def encLy (x : Ly) : List V := [.str x.cable, .int .i64 x.outer, .lst 1 (x.ducts.map encS)]

def keyErr (has : ByteArray → Bool) (first : Bool) (before k : ByteArray) : Int := if !has k then 8 else if !first && leB k before then 7 else 0
def duErr (first : Bool) (before : ByteArray) (x : Du) : Int :=
  if !keyB x.key || !keyB x.a || !keyB x.b then 5 else if x.a = x.b then 6 else if x.long < 1 ∨ 200000 < x.long ∨ x.inner < 1 ∨ 1000 < x.inner then 1 else if !first && leB x.key before then 7 else 0
def duFault (l : List Du) : Int := if 300 < l.length then 2 else seqErr duErr Du.key true ⟨#[]⟩ l
def duAt (d : List Du) (k : ByteArray) : Option Du := d.find? fun x => decide (x.key = k)
def du0 : Du := ⟨⟨#[]⟩, ⟨#[]⟩, ⟨#[]⟩, 0, 0⟩
def duG (d : List Du) (k : ByteArray) : Du := (duAt d k).getD du0
def hasD (d : List Du) (k : ByteArray) : Bool := (duAt d k).isSome
def cabErr (d : List Du) (x : Ly) : Int :=
  if x.outer < 1 ∨ 1000 < x.outer then 1 else if x.ducts.length = 0 then 8 else if 300 < x.ducts.length then 2 else seqErr (keyErr (hasD d)) id true ⟨#[]⟩ x.ducts
def lyErr (d : List Du) (first : Bool) (before : ByteArray) (x : Ly) : Int :=
  if !keyB x.cable then 5 else if !first && leB x.cable before then 7 else cabErr d x
def lysErr (d : List Du) (l : List Ly) : Int := seqErr (lyErr d) Ly.cable true ⟨#[]⟩ l
def inL (l : List Ly) (k : ByteArray) : List Ly := l.filter fun x => decide (k ∈ x.ducts)
def fullL (d : List Du) (l : List Ly) : Bool := d.any fun x => decide (20 < (inL l x.key).length)
def lyFault (d : List Du) (l : List Ly) : Int := if duFault d ≠ 0 then duFault d else if 300 < l.length then 2 else if lysErr d l ≠ 0 then lysErr d l else if fullL d l then 12 else 0

structure DuOk (d : List Du) : Prop where
  rise : Rise Du.key d
  len : d.length ≤ 300
  each : ∀ x ∈ d, keyB x.key = true ∧ 1 ≤ x.long ∧ x.long ≤ 200000 ∧ 1 ≤ x.inner ∧ x.inner ≤ 1000
theorem duErr_ok {f : Bool} {b : ByteArray} {x : Du} (h : duErr f b x = 0) : keyB x.key = true ∧ 1 ≤ x.long ∧ x.long ≤ 200000 ∧ 1 ≤ x.inner ∧ x.inner ≤ 1000 ∧ (f = false → ltB b x.key = true) := by
  unfold duErr at h
  split at h
  · omega
  · split at h
    · omega
    · split at h
      · omega
      · split at h
        · omega
        · rename_i h1 h2 h3 h4
          simp only [Bool.or_eq_true, Bool.not_eq_true', not_or, Bool.not_eq_false] at h1
          refine ⟨h1.1.1, by omega, by omega, by omega, by omega, fun hf => ?_⟩
          subst hf
          simp at h4
          exact leB_not.1 h4
theorem duFault_ok {d : List Du} (h : duFault d = 0) : DuOk d := by
  unfold duFault at h
  split at h
  · omega
  · refine ⟨seqErr_rise (fun b x hx => (duErr_ok hx).2.2.2.2.2 rfl) h, by omega, fun x hx => ?_⟩
    obtain ⟨f, b, h1⟩ := seqErr_all h x hx
    have := duErr_ok h1
    exact ⟨this.1, this.2.1, this.2.2.1, this.2.2.2.1, this.2.2.2.2.1⟩
theorem hasD_iff {d : List Du} {k : ByteArray} : hasD d k = true ↔ ∃ x ∈ d, x.key = k := by
  unfold hasD duAt
  rw [List.find?_isSome]; simp
theorem duAt_mem {d : List Du} (h : DuOk d) {x : Du} (hx : x ∈ d) : duAt d x.key = some x := rise_find h.rise hx
theorem duG_mem {d : List Du} (h : DuOk d) {x : Du} (hx : x ∈ d) : duG d x.key = x := by unfold duG; rw [duAt_mem h hx]; rfl
theorem keyErr_ok {has : ByteArray → Bool} {f : Bool} {b k : ByteArray} (h : keyErr has f b k = 0) : has k = true ∧ (f = false → ltB b k = true) := by
  unfold keyErr at h
  split at h
  · omega
  · split at h
    · omega
    · rename_i h1 h2
      refine ⟨by simpa using h1, fun hf => ?_⟩
      subst hf
      simp at h2
      exact leB_not.1 h2
structure LyX (d : List Du) (x : Ly) : Prop where
  out : 1 ≤ x.outer ∧ x.outer ≤ 1000
  len : x.ducts.length ≤ 300
  rise : Rise id x.ducts
  has : ∀ k ∈ x.ducts, hasD d k = true
theorem lyErr_ok {d : List Du} {f : Bool} {b : ByteArray} {x : Ly} (h : lyErr d f b x = 0) : LyX d x ∧ keyB x.cable = true ∧ (f = false → ltB b x.cable = true) := by
  unfold lyErr cabErr at h
  split at h
  · omega
  · split at h
    · omega
    · split at h
      · omega
      · split at h
        · omega
        · split at h
          · omega
          · rename_i h1 h2 h3 h4 h5
            refine ⟨⟨by omega, by omega, seqErr_rise (fun b k hk => (keyErr_ok hk).2 rfl) h, fun k hk => ?_⟩, by simpa using h1, fun hf => ?_⟩
            · obtain ⟨f, b, h1⟩ := seqErr_all h k hk
              exact (keyErr_ok h1).1
            · subst hf
              simp at h2
              exact leB_not.1 h2
structure LyOk (d : List Du) (l : List Ly) : Prop where
  du : DuOk d
  len : l.length ≤ 300
  rise : Rise Ly.cable l
  each : ∀ x ∈ l, LyX d x
  few : ∀ x ∈ d, (inL l x.key).length ≤ 20
theorem lysErr_ok {d : List Du} {l : List Ly} (h : lysErr d l = 0) : Rise Ly.cable l ∧ ∀ x ∈ l, LyX d x := by
  refine ⟨seqErr_rise (fun b x hx => (lyErr_ok hx).2.2 rfl) h, fun x hx => ?_⟩
  obtain ⟨f, b, h1⟩ := seqErr_all h x hx
  exact (lyErr_ok h1).1
theorem lyFault_ok {d : List Du} {l : List Ly} (h : lyFault d l = 0) : LyOk d l := by
  unfold lyFault at h
  split at h
  · omega
  · split at h
    · omega
    · split at h
      · omega
      · split at h
        · omega
        · rename_i h1 h2 h3 h4
          obtain ⟨h5, h6⟩ := lysErr_ok (show lysErr d l = 0 by omega)
          refine ⟨duFault_ok (by omega), by omega, h5, h6, fun x hx => ?_⟩
          unfold fullL at h4
          rw [List.any_eq_true] at h4
          rcases Nat.lt_or_ge 20 (inL l x.key).length with h7 | h7
          · exact absurd ⟨x, hx, by simpa using h7⟩ h4
          · exact h7
/-- the keys one behind another are counted -/
theorem count_nd {k : ByteArray} : ∀ {l : List ByteArray}, l.Nodup → l.count k = if k ∈ l then 1 else 0
  | [], _ => by simp
  | a :: r, h => by
    obtain ⟨h1, h2⟩ := List.nodup_cons.1 h
    rw [List.count_cons, count_nd h2]
    by_cases e : a = k
    · subst e; simp [h1]
    · have e' : ¬ k = a := fun x => e x.symm
      simp [e, e']
theorem flat_count {d : List Du} {k : ByteArray} : ∀ {l : List Ly}, (∀ x ∈ l, LyX d x) → (l.flatMap Ly.ducts).count k = (inL l k).length
  | [], _ => by simp [inL]
  | a :: r, h => by
    have ih := flat_count (k := k) (l := r) (fun x hx => h x (by simp [hx]))
    have hn : a.ducts.Nodup := by have := rise_nodup (h a (by simp)).rise; simpa using this
    rw [List.flatMap_cons, List.count_append, ih, count_nd hn]
    unfold inL
    rw [List.filter_cons]
    by_cases e : k ∈ a.ducts <;> simp [e]; omega
def manyB (ks : List ByteArray) : Bool := ks.any fun k => decide (20 < ks.count k)
theorem many_full {d : List Du} {l : List Ly} (h : ∀ x ∈ l, LyX d x) : manyB (l.flatMap Ly.ducts) = fullL d l := by
  rw [Bool.eq_iff_iff]
  unfold manyB fullL
  rw [List.any_eq_true, List.any_eq_true]
  constructor
  · rintro ⟨k, hk, h1⟩
    obtain ⟨x, hx, hkx⟩ := List.mem_flatMap.1 hk
    obtain ⟨y, hy, rfl⟩ := hasD_iff.1 ((h x hx).has k hkx)
    refine ⟨y, hy, ?_⟩
    rw [flat_count h] at h1; exact h1
  · rintro ⟨x, hx, h1⟩
    rw [← flat_count h] at h1
    have h2 : 20 < (l.flatMap Ly.ducts).count x.key := by simpa using h1
    exact ⟨x.key, List.count_pos_iff.1 (by omega), h1⟩
theorem many_push (ks : List ByteArray) (k : ByteArray) : manyB (ks ++ [k]) = (manyB ks || decide (20 < ks.count k + 1)) := by
  rw [Bool.eq_iff_iff, Bool.or_eq_true]
  unfold manyB
  rw [List.any_eq_true, List.any_eq_true]
  simp only [decide_eq_true_eq, List.count_append]
  constructor
  · rintro ⟨x, hx, h⟩
    by_cases e : x = k
    · subst e; right; simpa using h
    · left
      have : [k].count x = 0 := by rw [List.count_eq_zero]; simpa using e
      rw [this] at h
      refine ⟨x, ?_, by omega⟩
      exact List.count_pos_iff.1 (by omega)
  · rintro (⟨x, hx, h⟩ | h)
    · exact ⟨x, by simp [hx], by omega⟩
    · exact ⟨k, by simp, by simpa using h⟩

/-! sums -/
theorem sum_take {α : Type} (f : α → Int) (l : List α) (k : Nat) (h : k < l.length) : ((l.take (k + 1)).map f).sum = ((l.take k).map f).sum + f l[k] := by
  rw [List.take_succ_eq_append_getElem h, List.map_append, List.sum_append]; simp
theorem sum_in {α : Type} {f : α → Int} {B : Int} : ∀ {l : List α}, (∀ x ∈ l, 0 ≤ f x ∧ f x ≤ B) → 0 ≤ (l.map f).sum ∧ (l.map f).sum ≤ B * l.length
  | [], _ => by simp
  | x :: r, h => by
    have h1 := h x (by simp)
    have ih := sum_in (l := r) (fun y hy => h y (by simp [hy]))
    simp only [List.map_cons, List.sum_cons, List.length_cons]
    have : B * ((r.length + 1 : Nat) : Int) = B * r.length + B := by rw [Int.natCast_add, Int.mul_add]; simp
    omega
def sqV (l : List Int) : Int := (l.map fun x => x * x).sum
def partV (n : Nat) : Int := if n = 1 then 53 else if n = 2 then 31 else 40
def roomB (inner : Int) (l : List Int) : Bool := decide (100 * sqV l ≤ partV l.length * inner * inner) && !(l.any fun n => decide (inner < n))
def mostV (inner : Int) (all : List Int) (outer : Int) : Nat → Nat
  | 0 => 0
  | n + 1 => if roomB inner (all ++ List.replicate (n + 1) outer) then n + 1 else mostV inner all outer n
theorem sq_in {l : List Int} (h : ∀ x ∈ l, 0 ≤ x ∧ x ≤ 1000) : 0 ≤ sqV l ∧ sqV l ≤ 1000000 * l.length := by
  refine sum_in fun x hx => ?_
  have := h x hx
  exact ⟨Int.mul_nonneg this.1 this.1, by have := Int.mul_le_mul this.2 this.2 this.1 (by omega : (0 : Int) ≤ 1000); omega⟩
def outV (l : List Ly) (k : ByteArray) : List Int := (inL l k).map Ly.outer
end Go.Proofs.YtobcplhaabaemaaGreat

/- Ducts and cables in them: lists searched. -/
namespace Go.Proofs.YtobcplhaabaemaaGreat
set_option linter.unusedVariables false
set_option linter.unusedSimpArgs false
open Abs

def isStr (t : S) : Prop := ∃ key : ByteArray, t = .c (.str key)
set_option maxRecDepth 100000 in
set_option maxHeartbeats 4000000 in
theorem bsDu_pc (g : Nat) (c : Du → Int) (t : S) (l : List Du) (hl : l.length ≤ 1000000) (hmono : ∀ i j (hj : j < l.length) (hij : i ≤ j), c l[j] < 0 → c (l[i]'(by omega)) < 0) (ht : isStr t) (hg : ∀ x ∈ l, PCp g [.agg (encDu x), t] [] (.c (.int .i64 (c x))) []) :
    PCp 180 [.c (.lst 5 (l.map encDu)), t, .c (.fn g [])] [] (.tup [.c (.int .i64 ((cntL c l : Nat) : Int)), .c (.bool (hitL c l))]) [] := by
  have hlm : (l.map encDu).length = l.length := List.length_map ..
  obtain ⟨key, rfl⟩ := ht
  refine fn_sound (mt := mts) tab_fits tab_mixed Tryz.func180 (by rfl) (by kernel_rfl) (by kernel_rfl) Tryz.results180 (Nat.le_of_ble_eq_true (by kernel_rfl)) ?_
  conv => whnf
  refine loop_meas2 (fun (i : Nat) (j : Nat) => j - i) [] [0, 1, 2, 8, 9, 10] (fun (i : Nat) (j : Nat) => ⟨[(0, .c (.lst 5 (l.map encDu))), (1, .c (.str key)), (2, .c (.fn g [])), (8, .c (.int .i64 (l.map encDu).length)), (9, .c (.int .i64 ((i : Nat) : Int))), (10, .c (.int .i64 ((j : Nat) : Int)))], [], 0⟩) (fun (i : Nat) (j : Nat) => i ≤ j ∧ j ≤ l.length ∧ (∀ k (h : k < l.length), k < i → c l[k] < 0) ∧ (∀ k (h : k < l.length), j ≤ k → ¬ c l[k] < 0)) (0) (l.length) ?_ ?_
  · conv => whnf
    exact ⟨by rw [hlm]; rfl, Nat.zero_le _, Nat.le_refl _, by intro k h h2; omega, by intro k h h2; omega⟩
  · intro i j ⟨h1, h2, h3, h4⟩
    have hmid := mid_eq (i := i) (j := j) (by omega)
    conv => whnf
    repeat' (first | ((first | refine Split.mk (fun h => ?_) (fun h => ?_) | refine CondG.mk (fun h => ?_) (fun h => ?_)) <;> (try simp only [decide_eq_true_eq, decide_eq_false_iff_not, Bool.not_eq_true', Bool.not_eq_false', beq_iff_eq, beq_eq_false_iff_ne, bne_iff_ne, bne_eq_false_iff_eq] at h) <;> (first | (exfalso; first | omega | exact h trivial) | (conv => whnf))) | (refine Ask.mk (by first | omega | (unfold roomOK; simp [cutRows]; done) | (unfold roomOK; simp [cutRows]; omega) | (simp [cutRows]; done) | (simp [cutRows]; omega)) ?_; conv => whnf) | (refine AppG.mk (by first | omega | (unfold roomOK; simp [cutRows]; done) | (unfold roomOK; simp [cutRows]; omega) | (simp [cutRows]; done) | (simp [cutRows]; omega)) ?_; conv => whnf) | (refine SliceG.fr ?_; conv => whnf) | (refine idx_at _ (by with_reducible rfl) (by first | assumption | omega) ?_; conv => whnf) | ((with_reducible refine row_map (by first | assumption | omega) ?_); conv => whnf) | ((with_reducible refine row_set (by first | assumption | omega | (simp only [List.length_set]; omega) | (simp; omega)) ?_); conv => whnf) | fail)
    · rw [hmid]
      refine idx_map ((i + j) / 2) (by omega) rfl ?_
      conv => whnf
      repeat' (first | ((first | refine Split.mk (fun h => ?_) (fun h => ?_) | refine CondG.mk (fun h => ?_) (fun h => ?_)) <;> (try simp only [decide_eq_true_eq, decide_eq_false_iff_not, Bool.not_eq_true', Bool.not_eq_false', beq_iff_eq, beq_eq_false_iff_ne] at h) <;> (first | (exfalso; first | omega | exact h trivial) | (conv => whnf))) | (refine CallX.mk _ _ (by first | exact hg (l[(i + j) / 2]'(by omega)) (List.getElem_mem _)) ?_; conv => whnf) | (refine CallG.mk _ _ (by first | exact hg (l[(i + j) / 2]'(by omega)) (List.getElem_mem _)) ?_; conv => whnf) | (refine Ask.mk (by first | omega | (unfold roomOK; simp [cutRows]; done) | (unfold roomOK; simp [cutRows]; omega)) ?_; conv => whnf) | (refine AppG.mk (by first | omega | (unfold roomOK; simp [cutRows]; done) | (unfold roomOK; simp [cutRows]; omega)) ?_; conv => whnf) | (refine SliceG.fr ?_; conv => whnf) | fail)
      · exact meas_next ((i + j) / 2 + 1, j) (by simp only; omega) (by rw [wrap_succ (n := l.length) (by omega) (by omega)]; rfl) ⟨by simp only; omega, h2, fun k hk hki => hmono k ((i + j) / 2) (by omega) (by simp only at hki; omega) h, h4⟩
      · exact meas_next (i, (i + j) / 2) (by simp only; omega) rfl ⟨by simp only; omega, by simp only; omega, h3, fun k hk hki => fun hc => h (hmono ((i + j) / 2) k hk hki hc)⟩
    all_goals
      have hij : i = j := by omega
      subst hij
      have hci : cntL c l = i := cntL_at h2 h3 h4
    · repeat' (first
        | (refine Split.mk (fun h => ?_) (fun h => ?_) <;> (try simp only [decide_eq_true_eq, decide_eq_false_iff_not, Bool.not_eq_true', Bool.not_eq_false', beq_iff_eq, beq_eq_false_iff_ne, bne_iff_ne, bne_eq_false_iff_eq] at h) <;> (first | (exfalso; first | omega | exact h trivial) | (conv => whnf)))
        | (refine CondG.mk (fun h => ?_) (fun h => ?_) <;> (try simp only [decide_eq_true_eq, decide_eq_false_iff_not, Bool.not_eq_true', Bool.not_eq_false', beq_iff_eq, beq_eq_false_iff_ne, bne_iff_ne, bne_eq_false_iff_eq] at h) <;> (first | (exfalso; first | omega | exact h trivial) | (conv => whnf)))
        | (refine CallX.mk _ _ (by first | exact hg (l[i]'(by omega)) (List.getElem_mem _)) ?_; conv => whnf)
        | (refine CallG.mk _ _ (by first | exact hg (l[i]'(by omega)) (List.getElem_mem _)) ?_; conv => whnf)
        | (refine Ask.mk (by first | omega | (unfold roomOK; simp [cutRows]; done) | (unfold roomOK; simp [cutRows]; omega) | (simp [cutRows]; done) | (simp [cutRows]; omega)) ?_; conv => whnf)
        | (refine AppG.mk (by first | omega | (unfold roomOK; simp [cutRows]; done) | (unfold roomOK; simp [cutRows]; omega) | (simp [cutRows]; done) | (simp [cutRows]; omega)) ?_; conv => whnf)
        | (refine SliceG.fr ?_; conv => whnf)
        | (refine idx_at _ (by with_reducible rfl) (by first | assumption | omega) ?_; conv => whnf)
        | ((with_reducible refine row_map (by first | assumption | omega) ?_); conv => whnf)
        | ((with_reducible refine row_set (by first | assumption | omega | (simp only [List.length_set]; omega) | (simp; omega)) ?_); conv => whnf)
        | fail)
      exact .mk ⟨by rw [hitL, hci, List.getElem?_eq_getElem (show i < l.length by omega)]; rfl, rfl⟩
    · exact .mk ⟨by rw [hitL, hci, List.getElem?_eq_none (show l.length ≤ i by omega)]; rfl, rfl⟩
end Go.Proofs.YtobcplhaabaemaaGreat

/- Strings searched in two halves; lists copied. -/
namespace Go.Proofs.YtobcplhaabaemaaGreat
set_option linter.unusedVariables false
set_option linter.unusedSimpArgs false
open Abs

set_option maxRecDepth 100000 in
set_option maxHeartbeats 4000000 in
theorem isNaNS_pc (s : ByteArray) : PCp 203 [.c (.str s)] [] (.c (.bool false)) [] := by
  refine fn_sound (mt := mts) tab_fits tab_mixed Tryz.func203 (by rfl) (by kernel_rfl) (by kernel_rfl) Tryz.results203 (Nat.le_of_ble_eq_true (by kernel_rfl)) ?_
  conv => whnf
  exact finb (by simp)
set_option maxRecDepth 100000 in
set_option maxHeartbeats 4000000 in
theorem cisNaNS_pc (s : ByteArray) : PCp 210 [.c (.str s)] [] (.c (.bool false)) [] := by
  refine fn_sound (mt := mts) tab_fits tab_mixed Tryz.func210 (by rfl) (by kernel_rfl) (by kernel_rfl) Tryz.results210 (Nat.le_of_ble_eq_true (by kernel_rfl)) ?_
  conv => whnf
  exact finb (by simp)
set_option maxRecDepth 100000 in
set_option maxHeartbeats 4000000 in
theorem lessS_pc (a b : ByteArray) : PCp 202 [.c (.str a), .c (.str b)] [] (.c (.bool (ltB a b))) [] := by
  refine fn_sound (mt := mts) tab_fits tab_mixed Tryz.func202 (by rfl) (by kernel_rfl) (by kernel_rfl) Tryz.results202 (Nat.le_of_ble_eq_true (by kernel_rfl)) ?_
  conv => whnf
  repeat' (first | ((first | refine Split.mk (fun h => ?_) (fun h => ?_) | refine CondG.mk (fun h => ?_) (fun h => ?_)) <;> (try simp only [decide_eq_true_eq, decide_eq_false_iff_not, Bool.not_eq_true', Bool.not_eq_false', beq_iff_eq, beq_eq_false_iff_ne, bne_iff_ne, bne_eq_false_iff_eq] at h) <;> (first | (exfalso; first | omega | exact h trivial) | (conv => whnf))) | (refine CallX.mk _ _ (by first | exact cisNaNS_pc _) ?_; conv => whnf) | (refine CallG.mk _ _ (by first | exact cisNaNS_pc _) ?_; conv => whnf) | (refine Ask.mk (by first | omega | (unfold roomOK; simp [cutRows]; done) | (unfold roomOK; simp [cutRows]; omega) | (simp [cutRows]; done) | (simp [cutRows]; omega)) ?_; conv => whnf) | (refine AppG.mk (by first | omega | (unfold roomOK; simp [cutRows]; done) | (unfold roomOK; simp [cutRows]; omega) | (simp [cutRows]; done) | (simp [cutRows]; omega)) ?_; conv => whnf) | (refine SliceG.fr ?_; conv => whnf) | (refine idx_at _ (by with_reducible rfl) (by first | assumption | omega) ?_; conv => whnf) | ((with_reducible refine row_map (by first | assumption | omega) ?_); conv => whnf) | ((with_reducible refine row_set (by first | assumption | omega | (simp only [List.length_set]; omega) | (simp; omega)) ?_); conv => whnf) | fail)
  all_goals exact finb (by simp_all [ltB])
/-- how many are less, and whether the next one is it -/
def cntS (t : ByteArray) (l : List ByteArray) : Nat := cntL (fun x => if ltB x t then -1 else if x.toList = t.toList then 0 else 1) l
def hitS (t : ByteArray) (l : List ByteArray) : Bool := hitL (fun x => if ltB x t then -1 else if x.toList = t.toList then 0 else 1) l
set_option maxRecDepth 100000 in
set_option maxHeartbeats 4000000 in
theorem binS_pc (t : ByteArray) (l : List ByteArray) (hl : l.length ≤ 1000000) (hmono : ∀ i j (hj : j < l.length) (hij : i ≤ j), ltB l[j] t = true → ltB (l[i]'(by omega)) t = true) :
    PCp 174 [.c (.lst 1 (l.map encS)), .c (.str t)] [] (.tup [.c (.int .i64 ((cntS t l : Nat) : Int)), .c (.bool (hitS t l))]) [] := by
  have hlm : (l.map encS).length = l.length := List.length_map ..
  have hc : ∀ x : ByteArray, (if ltB x t then (-1 : Int) else if x.toList = t.toList then 0 else 1) < 0 ↔ ltB x t = true := by
    intro x; split
    · simp_all
    · split <;> simp_all
  refine fn_sound (mt := mts) tab_fits tab_mixed Tryz.func174 (by rfl) (by kernel_rfl) (by kernel_rfl) Tryz.results174 (Nat.le_of_ble_eq_true (by kernel_rfl)) ?_
  conv => whnf
  refine loop_meas2 (fun (i : Nat) (j : Nat) => j - i) [] [0, 1, 6, 7, 8] (fun (i : Nat) (j : Nat) => ⟨[(0, .c (.lst 1 (l.map encS))), (1, .c (.str t)), (6, .c (.int .i64 (l.map encS).length)), (7, .c (.int .i64 ((i : Nat) : Int))), (8, .c (.int .i64 ((j : Nat) : Int)))], [], 0⟩) (fun (i : Nat) (j : Nat) => i ≤ j ∧ j ≤ l.length ∧ (∀ k (h : k < l.length), k < i → ltB l[k] t = true) ∧ (∀ k (h : k < l.length), j ≤ k → ¬ ltB l[k] t = true)) (0) (l.length) ?_ ?_
  · conv => whnf
    exact ⟨by rw [hlm]; rfl, Nat.zero_le _, Nat.le_refl _, by intro k h h2; omega, by intro k h h2; omega⟩
  · intro i j ⟨h1, h2, h3, h4⟩
    have hmid := mid_eq (i := i) (j := j) (by omega)
    conv => whnf
    repeat' (first | ((first | refine Split.mk (fun h => ?_) (fun h => ?_) | refine CondG.mk (fun h => ?_) (fun h => ?_)) <;> (try simp only [decide_eq_true_eq, decide_eq_false_iff_not, Bool.not_eq_true', Bool.not_eq_false', beq_iff_eq, beq_eq_false_iff_ne, bne_iff_ne, bne_eq_false_iff_eq] at h) <;> (first | (exfalso; first | omega | exact h trivial) | (conv => whnf))) | (refine Ask.mk (by first | omega | (unfold roomOK; simp [cutRows]; done) | (unfold roomOK; simp [cutRows]; omega) | (simp [cutRows]; done) | (simp [cutRows]; omega)) ?_; conv => whnf) | (refine AppG.mk (by first | omega | (unfold roomOK; simp [cutRows]; done) | (unfold roomOK; simp [cutRows]; omega) | (simp [cutRows]; done) | (simp [cutRows]; omega)) ?_; conv => whnf) | (refine SliceG.fr ?_; conv => whnf) | (refine idx_at _ (by with_reducible rfl) (by first | assumption | omega) ?_; conv => whnf) | ((with_reducible refine row_map (by first | assumption | omega) ?_); conv => whnf) | ((with_reducible refine row_set (by first | assumption | omega | (simp only [List.length_set]; omega) | (simp; omega)) ?_); conv => whnf) | fail)
    · rw [hmid]
      refine idx_map ((i + j) / 2) (by omega) rfl ?_
      conv => whnf
      repeat' (first | ((first | refine Split.mk (fun h => ?_) (fun h => ?_) | refine CondG.mk (fun h => ?_) (fun h => ?_)) <;> (try simp only [decide_eq_true_eq, decide_eq_false_iff_not, Bool.not_eq_true', Bool.not_eq_false', beq_iff_eq, beq_eq_false_iff_ne] at h) <;> (first | (exfalso; first | omega | exact h trivial) | (conv => whnf))) | (refine CallX.mk _ _ (by first | exact lessS_pc _ _) ?_; conv => whnf) | (refine CallG.mk _ _ (by first | exact lessS_pc _ _) ?_; conv => whnf) | (refine Ask.mk (by first | omega | (unfold roomOK; simp [cutRows]; done) | (unfold roomOK; simp [cutRows]; omega)) ?_; conv => whnf) | (refine AppG.mk (by first | omega | (unfold roomOK; simp [cutRows]; done) | (unfold roomOK; simp [cutRows]; omega)) ?_; conv => whnf) | (refine SliceG.fr ?_; conv => whnf) | fail)
      · exact meas_next ((i + j) / 2 + 1, j) (by simp only; omega) (by rw [wrap_succ (n := l.length) (by omega) (by omega)]; rfl) ⟨by simp only; omega, h2, fun k hk hki => hmono k ((i + j) / 2) (by omega) (by simp only at hki; omega) h, h4⟩
      · exact meas_next (i, (i + j) / 2) (by simp only; omega) rfl ⟨by simp only; omega, by simp only; omega, h3, fun k hk hki => fun hc => (by rw [hmono ((i + j) / 2) k hk hki hc] at h; cases h)⟩
    all_goals
      have hij : i = j := by omega
      subst hij
      have hci : cntS t l = i := cntL_at h2 (fun k hk hki => (hc _).2 (h3 k hk hki)) (fun k hk hki => fun e => h4 k hk hki ((hc _).1 e))
    · have hh : hitS t l = true := by
        unfold hitS hitL
        unfold cntS at hci
        rw [hci, List.getElem?_eq_getElem (show i < l.length by omega)]
        have h5 : ltB (l[i]'(by omega)) t = false := by simpa using h4 i (by omega) (Nat.le_refl _)
        have h6 : (l[i]'(by omega)).toList = t.toList := by assumption
        simp [h5, h6]
      exact .mk ⟨by rw [hci, hh]; rfl, rfl⟩
    · have hh : hitS t l = false := by
        unfold hitS hitL
        unfold cntS at hci
        rw [hci, List.getElem?_eq_getElem (show i < l.length by omega)]
        have h5 : ltB (l[i]'(by omega)) t = false := by simpa using h4 i (by omega) (Nat.le_refl _)
        have h6 : ¬ (l[i]'(by omega)).toList = t.toList := by assumption
        simp [h5, h6]
      repeat' (first | ((first | refine Split.mk (fun h => ?_) (fun h => ?_) | refine CondG.mk (fun h => ?_) (fun h => ?_)) <;> (try simp only [decide_eq_true_eq, decide_eq_false_iff_not, Bool.not_eq_true', Bool.not_eq_false', beq_iff_eq, beq_eq_false_iff_ne, bne_iff_ne, bne_eq_false_iff_eq] at h) <;> (first | (exfalso; first | omega | exact h trivial) | (conv => whnf))) | (refine CallX.mk _ _ (by first | exact isNaNS_pc _) ?_; conv => whnf) | (refine CallG.mk _ _ (by first | exact isNaNS_pc _) ?_; conv => whnf) | (refine Ask.mk (by first | omega | (unfold roomOK; simp [cutRows]; done) | (unfold roomOK; simp [cutRows]; omega) | (simp [cutRows]; done) | (simp [cutRows]; omega)) ?_; conv => whnf) | (refine AppG.mk (by first | omega | (unfold roomOK; simp [cutRows]; done) | (unfold roomOK; simp [cutRows]; omega) | (simp [cutRows]; done) | (simp [cutRows]; omega)) ?_; conv => whnf) | (refine SliceG.fr ?_; conv => whnf) | (refine idx_at _ (by with_reducible rfl) (by first | assumption | omega) ?_; conv => whnf) | ((with_reducible refine row_map (by first | assumption | omega) ?_); conv => whnf) | ((with_reducible refine row_set (by first | assumption | omega | (simp only [List.length_set]; omega) | (simp; omega)) ?_); conv => whnf) | fail)
      all_goals exact .mk ⟨by rw [hci, hh]; rfl, rfl⟩
    · exact .mk ⟨by rw [hci]; unfold hitS hitL; unfold cntS at hci; rw [hci, List.getElem?_eq_none (show l.length ≤ i by omega)]; rfl, rfl⟩
set_option maxRecDepth 100000 in
set_option maxHeartbeats 4000000 in
theorem cloneI_pc (l : List Int) (hl : l.length ≤ 1000000) : PCp 11 [.c (.lst 1 (l.map encI))] [] (.c (.row 0)) [.row 3 1 (l.map encI)] := by
  have hlm : (l.map encI).length = l.length := List.length_map ..
  refine fn_sound (mt := mts) tab_fits tab_mixed Tryz.func11 (by rfl) (by kernel_rfl) (by kernel_rfl) Tryz.results11 (Nat.le_of_ble_eq_true (by kernel_rfl)) ?_
  conv => whnf
  refine .mk (fun h => ?_) ?_
  · conv => whnf
    exact .own 3 1 rfl rfl (by rw [h]; rfl)
  · conv => whnf
    repeat' (first | ((first | refine Split.mk (fun h => ?_) (fun h => ?_) | refine CondG.mk (fun h => ?_) (fun h => ?_)) <;> (try simp only [decide_eq_true_eq, decide_eq_false_iff_not, Bool.not_eq_true', Bool.not_eq_false', beq_iff_eq, beq_eq_false_iff_ne] at h) <;> (first | (exfalso; first | omega | exact h trivial) | (conv => whnf))) | (refine Ask.mk (by first | omega | (unfold roomOK; simp [cutRows]; done) | (unfold roomOK; simp [cutRows]; omega)) ?_; conv => whnf) | (refine AppG.mk (by first | omega | (unfold roomOK; simp [cutRows]; done) | (unfold roomOK; simp [cutRows]; omega)) ?_; conv => whnf) | (refine SliceG.fr ?_; conv => whnf) | fail)
    exact .mk ⟨rfl, rfl⟩
end Go.Proofs.YtobcplhaabaemaaGreat

/- Lists made of one number. -/
namespace Go.Proofs.YtobcplhaabaemaaGreat
set_option linter.unusedVariables false
set_option linter.unusedSimpArgs false
open Abs

/-! a number, some times -/
end Go.Proofs.YtobcplhaabaemaaGreat

/- Numbers, fractions, lists of strings. -/
namespace Go.Proofs.YtobcplhaabaemaaGreat
set_option linter.unusedVariables false
set_option linter.unusedSimpArgs false
open Abs

theorem squares_b {l : List Int} (h : ∀ x ∈ l, 0 ≤ x ∧ x ≤ 1000) (hl : l.length ≤ 1000000) {k : Nat} (hk : k < l.length) : IntKind.i64.wrap (sqV (l.take k) + IntKind.i64.wrap (l[k] * l[k])) = sqV (l.take (k + 1)) := by
  have h1 := h l[k] (List.getElem_mem hk)
  have h2 : 0 ≤ l[k] * l[k] := Int.mul_nonneg h1.1 h1.1
  have h3 := Int.mul_le_mul h1.2 h1.2 h1.1 (by omega : (0 : Int) ≤ 1000)
  have h4 := sq_in (l := l.take k) (fun x hx => h x (List.mem_of_mem_take hx))
  have h5 : (l.take k).length ≤ 1000000 := by rw [List.length_take]; omega
  rw [wrap_in (x := l[k] * l[k]) (by omega) (by omega), wrap_in (by omega) (by omega)]
  exact (sum_take (fun x => x * x) l k hk).symm
set_option maxRecDepth 100000 in
set_option maxHeartbeats 4000000 in
theorem dSquares_pc (l : List Int) (hb : ∀ x ∈ l, 0 ≤ x ∧ x ≤ 1000) (hl : l.length ≤ 1000000) : PCp 182 [.c (.lst 1 (l.map encI))] [] (.c (.int .i64 (sqV l))) [] := by
  have hlm : (l.map encI).length = l.length := List.length_map ..
  refine fn_sound (mt := mts) tab_fits tab_mixed Tryz.func182 (by rfl) (by kernel_rfl) (by kernel_rfl) Tryz.results182 (Nat.le_of_ble_eq_true (by kernel_rfl)) ?_
  conv => whnf
  refine loop_for (l.length) [] [3, 6, 7, 8] (fun k (_ : Unit) => [(3, .c (.int .i64 (sqV (l.take k)))), (8, .c (.int .i64 (k : Int)))]) (fun k (_ : Unit) => []) (fun k (_ : Unit) => True) (()) ?_
  conv => whnf
  refine ⟨(by first | rfl | (simp; done) | (simp; rfl)), (by trivial), ?_, ?_⟩
  · intro k _ hk _
    conv => whnf
    repeat' (first | ((first | refine Split.mk (fun h => ?_) (fun h => ?_) | refine CondG.mk (fun h => ?_) (fun h => ?_)) <;> (try simp only [decide_eq_true_eq, decide_eq_false_iff_not, Bool.not_eq_true', Bool.not_eq_false', beq_iff_eq, beq_eq_false_iff_ne, bne_iff_ne, bne_eq_false_iff_eq] at h) <;> (first | (exfalso; first | omega | exact h trivial) | (conv => whnf))) | (refine Ask.mk (by first | omega | (unfold roomOK; simp [cutRows]; done) | (unfold roomOK; simp [cutRows]; omega) | (simp [cutRows]; done) | (simp [cutRows]; omega)) ?_; conv => whnf) | (refine AppG.mk (by first | omega | (unfold roomOK; simp [cutRows]; done) | (unfold roomOK; simp [cutRows]; omega) | (simp [cutRows]; done) | (simp [cutRows]; omega)) ?_; conv => whnf) | (refine SliceG.fr ?_; conv => whnf) | (refine idx_at _ (by with_reducible rfl) (by first | assumption | omega) ?_; conv => whnf) | ((with_reducible refine row_map (by first | assumption | omega) ?_); conv => whnf) | ((with_reducible refine row_set (by first | assumption | omega | (simp only [List.length_set]; omega) | (simp; omega)) ?_); conv => whnf) | fail)
    exact count_next () hk (by rw [wrap_succ hk (by omega), squares_b hb hl hk]; rfl) trivial
  · intro _ _
    conv => whnf
    repeat' (first | ((first | refine Split.mk (fun h => ?_) (fun h => ?_) | refine CondG.mk (fun h => ?_) (fun h => ?_)) <;> (try simp only [decide_eq_true_eq, decide_eq_false_iff_not, Bool.not_eq_true', Bool.not_eq_false', beq_iff_eq, beq_eq_false_iff_ne, bne_iff_ne, bne_eq_false_iff_eq] at h) <;> (first | (exfalso; first | omega | exact h trivial) | (conv => whnf))) | (refine Ask.mk (by first | omega | (unfold roomOK; simp [cutRows]; done) | (unfold roomOK; simp [cutRows]; omega) | (simp [cutRows]; done) | (simp [cutRows]; omega)) ?_; conv => whnf) | (refine AppG.mk (by first | omega | (unfold roomOK; simp [cutRows]; done) | (unfold roomOK; simp [cutRows]; omega) | (simp [cutRows]; done) | (simp [cutRows]; omega)) ?_; conv => whnf) | (refine SliceG.fr ?_; conv => whnf) | (refine idx_at _ (by with_reducible rfl) (by first | assumption | omega) ?_; conv => whnf) | ((with_reducible refine row_map (by first | assumption | omega) ?_); conv => whnf) | ((with_reducible refine row_set (by first | assumption | omega | (simp only [List.length_set]; omega) | (simp; omega)) ?_); conv => whnf) | fail)
    exact fini (by rw [List.take_length])
end Go.Proofs.YtobcplhaabaemaaGreat

/- Ducts and cables are checked. -/
namespace Go.Proofs.YtobcplhaabaemaaGreat
set_option linter.unusedVariables false
set_option linter.unusedSimpArgs false
open Abs

theorem k0 {k : Nat} : decide ((0 : Int) < (k : Int)) = !decide (k = 0) := by
  rw [Bool.eq_iff_iff]; simp; omega
theorem seq_hit {α : Type} {e : Bool → ByteArray → α → Int} {key : α → ByteArray} {l : List α} {k : Nat} {f : Bool} {b : ByteArray} {r v : Int} (hk : k < l.length) (hi : seqErr e key f b (l.drop k) = r) (hv : e f b l[k] = v) (h0 : v ≠ 0) : v = r := by
  rw [seqErr_drop hk, hv, if_neg h0] at hi; exact hi
theorem seq_next {α : Type} {e : Bool → ByteArray → α → Int} {key : α → ByteArray} {l : List α} {k : Nat} {f : Bool} {b : ByteArray} {r : Int} (hk : k < l.length) (hi : seqErr e key f b (l.drop k) = r) (hv : e f b l[k] = 0) : seqErr e key false (key l[k]) (l.drop (k + 1)) = r := by
  rw [seqErr_drop hk, hv, if_pos rfl] at hi; exact hi
theorem seq_next' {α : Type} {e : Bool → ByteArray → α → Int} {key : α → ByteArray} {l : List α} {k : Nat} {f : Bool} {b : ByteArray} {r : Int} (hk : k < l.length) (hi : seqErr e key f b (l.drop k) = r) (hv : e f b l[k] = 0) : seqErr e key (decide (k + 1 = 0)) (befK key l (k + 1)) (l.drop (k + 1)) = r := by
  rw [befK_succ hk]; exact seq_next hk hi hv
theorem seq_end {α : Type} {e : Bool → ByteArray → α → Int} {key : α → ByteArray} {l : List α} {f : Bool} {b : ByteArray} {r : Int} (hi : seqErr e key f b (l.drop l.length) = r) : r = 0 := by
  rw [List.drop_of_length_le (Nat.le_refl _)] at hi; exact hi.symm
set_option maxRecDepth 100000 in
set_option maxHeartbeats 4000000 in
theorem checkDucts_pc (d : List Du) : PCp 178 [.c (.lst 5 (d.map encDu))] [] (.c (.int .i64 (duFault d))) [] := by
  have hlm : (d.map encDu).length = d.length := List.length_map ..
  refine fn_sound (mt := mts) tab_fits tab_mixed Tryz.func178 (by rfl) (by kernel_rfl) (by kernel_rfl) Tryz.results178 (Nat.le_of_ble_eq_true (by kernel_rfl)) ?_
  conv => whnf
  repeat' (first | ((first | refine Split.mk (fun h => ?_) (fun h => ?_) | refine CondG.mk (fun h => ?_) (fun h => ?_)) <;> (try simp only [decide_eq_true_eq, decide_eq_false_iff_not, Bool.not_eq_true', Bool.not_eq_false', beq_iff_eq, beq_eq_false_iff_ne, bne_iff_ne, bne_eq_false_iff_eq] at h) <;> (first | (exfalso; first | omega | exact h trivial) | (conv => whnf))) | (refine Ask.mk (by first | omega | (unfold roomOK; simp [cutRows]; done) | (unfold roomOK; simp [cutRows]; omega) | (simp [cutRows]; done) | (simp [cutRows]; omega)) ?_; conv => whnf) | (refine AppG.mk (by first | omega | (unfold roomOK; simp [cutRows]; done) | (unfold roomOK; simp [cutRows]; omega) | (simp [cutRows]; done) | (simp [cutRows]; omega)) ?_; conv => whnf) | (refine SliceG.fr ?_; conv => whnf) | (refine idx_at _ (by with_reducible rfl) (by first | assumption | omega) ?_; conv => whnf) | ((with_reducible refine row_map (by first | assumption | omega) ?_); conv => whnf) | ((with_reducible refine row_set (by first | assumption | omega | (simp only [List.length_set]; omega) | (simp; omega)) ?_); conv => whnf) | fail)
  · exact fini (by rw [duFault, if_pos (by omega)])
  have hF : duFault d = seqErr duErr Du.key true ⟨#[]⟩ d := by rw [duFault, if_neg (by omega)]
  refine loop_for (d.length) [] [0, 8, 9, 10] (fun k (_ : Unit) => [(10, .c (.int .i64 (k : Int)))]) (fun k (_ : Unit) => []) (fun k (_ : Unit) => seqErr duErr Du.key (decide (k = 0)) (befK Du.key d k) (d.drop k) = duFault d) (()) ?_
  conv => whnf
  refine ⟨(by first | rfl | (simp; done) | (simp; rfl)), ?_, ?_, ?_⟩
  · exact hF.symm
  · intro k _ hk hi
    conv => whnf
    repeat' (first | ((first | refine Split.mk (fun h => ?_) (fun h => ?_) | refine CondG.mk (fun h => ?_) (fun h => ?_)) <;> (try simp only [decide_eq_true_eq, decide_eq_false_iff_not, Bool.not_eq_true', Bool.not_eq_false', beq_iff_eq, beq_eq_false_iff_ne, bne_iff_ne, bne_eq_false_iff_eq] at h) <;> (first | (exfalso; first | omega | exact h trivial) | (conv => whnf))) | (refine CallX.mk _ _ (by first | exact bKey_pc _ | exact bOut_pc _ _ _) ?_; conv => whnf) | (refine CallG.mk _ _ (by first | exact bKey_pc _ | exact bOut_pc _ _ _) ?_; conv => whnf) | (refine Ask.mk (by first | omega | (unfold roomOK; simp [cutRows]; done) | (unfold roomOK; simp [cutRows]; omega) | (simp [cutRows]; done) | (simp [cutRows]; omega)) ?_; conv => whnf) | (refine AppG.mk (by first | omega | (unfold roomOK; simp [cutRows]; done) | (unfold roomOK; simp [cutRows]; omega) | (simp [cutRows]; done) | (simp [cutRows]; omega)) ?_; conv => whnf) | (refine SliceG.fr ?_; conv => whnf) | (refine idx_at _ (by with_reducible rfl) (by first | assumption | omega) ?_; conv => whnf) | ((with_reducible refine row_map (by first | assumption | omega) ?_); conv => whnf) | ((with_reducible refine row_set (by first | assumption | omega | (simp only [List.length_set]; omega) | (simp; omega)) ?_); conv => whnf) | ((refine idx_map (k - 1) (by omega) (by rw [wrap_in (by omega) (by omega)]; omega) ?_); conv => whnf) | fail)
    all_goals try simp only [toList_eq'] at *
    all_goals have hb := befK_pos (key := Du.key) (l := d) (Nat.le_of_lt hk)
    all_goals first
      | (refine fini (seq_hit hk hi ?_ (by decide)); clear hi hF; unfold duErr; (try rw [hb (by omega)]); (repeat' split) <;> first | rfl | (exfalso; first | omega | (simp_all [leB, toList_eq']; done) | (simp_all [leB, toList_eq']; omega)))
      | (refine count_next () hk (by rw [wrap_succ hk (by omega)]; rfl) (seq_next' hk hi ?_); clear hi hF; unfold duErr; (try rw [hb (by omega)]); (repeat' split) <;> first | rfl | (exfalso; first | omega | (simp_all [leB, toList_eq']; done) | (simp_all [leB, toList_eq']; omega)))
  · intro _ hi
    conv => whnf
    repeat' (first | ((first | refine Split.mk (fun h => ?_) (fun h => ?_) | refine CondG.mk (fun h => ?_) (fun h => ?_)) <;> (try simp only [decide_eq_true_eq, decide_eq_false_iff_not, Bool.not_eq_true', Bool.not_eq_false', beq_iff_eq, beq_eq_false_iff_ne, bne_iff_ne, bne_eq_false_iff_eq] at h) <;> (first | (exfalso; first | omega | exact h trivial) | (conv => whnf))) | (refine Ask.mk (by first | omega | (unfold roomOK; simp [cutRows]; done) | (unfold roomOK; simp [cutRows]; omega) | (simp [cutRows]; done) | (simp [cutRows]; omega)) ?_; conv => whnf) | (refine AppG.mk (by first | omega | (unfold roomOK; simp [cutRows]; done) | (unfold roomOK; simp [cutRows]; omega) | (simp [cutRows]; done) | (simp [cutRows]; omega)) ?_; conv => whnf) | (refine SliceG.fr ?_; conv => whnf) | (refine idx_at _ (by with_reducible rfl) (by first | assumption | omega) ?_; conv => whnf) | ((with_reducible refine row_map (by first | assumption | omega) ?_); conv => whnf) | ((with_reducible refine row_set (by first | assumption | omega | (simp only [List.length_set]; omega) | (simp; omega)) ?_); conv => whnf) | fail)
    exact fini (seq_end hi).symm
end Go.Proofs.YtobcplhaabaemaaGreat

/- Ducts are found; cables are checked. -/
namespace Go.Proofs.YtobcplhaabaemaaGreat
set_option linter.unusedVariables false
set_option linter.unusedSimpArgs false
open Abs

set_option maxRecDepth 100000 in
set_option maxHeartbeats 4000000 in
theorem find1_pc (x : Du) (k : ByteArray) : PCp 181 [.agg (encDu x), .c (.str k)] [] (.c (.int .i64 (cmpS x.key k))) [] := by
  refine fn_sound (mt := mts) tab_fits tab_mixed Tryz.func181 (by rfl) (by kernel_rfl) (by kernel_rfl) Tryz.results181 (Nat.le_of_ble_eq_true (by kernel_rfl)) ?_
  conv => whnf
  repeat' (first | ((first | refine Split.mk (fun h => ?_) (fun h => ?_) | refine CondG.mk (fun h => ?_) (fun h => ?_)) <;> (try simp only [decide_eq_true_eq, decide_eq_false_iff_not, Bool.not_eq_true', Bool.not_eq_false', beq_iff_eq, beq_eq_false_iff_ne, bne_iff_ne, bne_eq_false_iff_eq] at h) <;> (first | (exfalso; first | omega | exact h trivial) | (conv => whnf))) | (refine CallX.mk _ _ (by first | exact sCompare_pc _ _) ?_; conv => whnf) | (refine CallG.mk _ _ (by first | exact sCompare_pc _ _) ?_; conv => whnf) | (refine Ask.mk (by first | omega | (unfold roomOK; simp [cutRows]; done) | (unfold roomOK; simp [cutRows]; omega) | (simp [cutRows]; done) | (simp [cutRows]; omega)) ?_; conv => whnf) | (refine AppG.mk (by first | omega | (unfold roomOK; simp [cutRows]; done) | (unfold roomOK; simp [cutRows]; omega) | (simp [cutRows]; done) | (simp [cutRows]; omega)) ?_; conv => whnf) | (refine SliceG.fr ?_; conv => whnf) | (refine idx_at _ (by with_reducible rfl) (by first | assumption | omega) ?_; conv => whnf) | ((with_reducible refine row_map (by first | assumption | omega) ?_); conv => whnf) | ((with_reducible refine row_set (by first | assumption | omega | (simp only [List.length_set]; omega) | (simp; omega)) ?_); conv => whnf) | fail)
  exact fini rfl
set_option maxRecDepth 100000 in
set_option maxHeartbeats 4000000 in
theorem find_pc (d : List Du) (hd : DuOk d) (k : ByteArray) : PCp 149 [.c (.lst 5 (d.map encDu)), .c (.str k)] [] (.tup [.agg (encDu (duG d k)), .c (.bool (hasD d k))]) [] := by
  have hlm : (d.map encDu).length = d.length := List.length_map ..
  have hc : ∀ x : Du, (cmpS x.key k < 0 ↔ ltB x.key k = true) ∧ (cmpS x.key k = 0 ↔ x.key = k) := fun x => ⟨cmp_lt, cmp_zero⟩
  have hf := find_rise (c := fun x : Du => cmpS x.key k) hc hd.rise
  have hl := hd.len
  refine fn_sound (mt := mts) tab_fits tab_mixed Tryz.func149 (by rfl) (by kernel_rfl) (by kernel_rfl) Tryz.results149 (Nat.le_of_ble_eq_true (by kernel_rfl)) ?_
  conv => whnf
  repeat' (first | ((first | refine Split.mk (fun h => ?_) (fun h => ?_) | refine CondG.mk (fun h => ?_) (fun h => ?_)) <;> (try simp only [decide_eq_true_eq, decide_eq_false_iff_not, Bool.not_eq_true', Bool.not_eq_false', beq_iff_eq, beq_eq_false_iff_ne, bne_iff_ne, bne_eq_false_iff_eq] at h) <;> (first | (exfalso; first | omega | exact h trivial) | (conv => whnf))) | (refine CallX.mk _ _ (by first | exact bsDu_pc 181 (fun x => cmpS x.key k) (.c (.str k)) d (by omega) (rise_mono (fun x => cmp_lt) hd.rise) ⟨_, rfl⟩ (fun x _ => find1_pc x k)) ?_; conv => whnf) | (refine CallG.mk _ _ (by first | exact bsDu_pc 181 (fun x => cmpS x.key k) (.c (.str k)) d (by omega) (rise_mono (fun x => cmp_lt) hd.rise) ⟨_, rfl⟩ (fun x _ => find1_pc x k)) ?_; conv => whnf) | (refine Ask.mk (by first | omega | (unfold roomOK; simp [cutRows]; done) | (unfold roomOK; simp [cutRows]; omega) | (simp [cutRows]; done) | (simp [cutRows]; omega)) ?_; conv => whnf) | (refine AppG.mk (by first | omega | (unfold roomOK; simp [cutRows]; done) | (unfold roomOK; simp [cutRows]; omega) | (simp [cutRows]; done) | (simp [cutRows]; omega)) ?_; conv => whnf) | (refine SliceG.fr ?_; conv => whnf) | (refine idx_at _ (by with_reducible rfl) (by first | assumption | omega) ?_; conv => whnf) | ((with_reducible refine row_map (by first | assumption | omega) ?_); conv => whnf) | ((with_reducible refine row_set (by first | assumption | omega | (simp only [List.length_set]; omega) | (simp; omega)) ?_); conv => whnf) | fail)
  · have hn : duAt d k = none := by unfold duAt; rw [hf, h]; rfl
    exact .mk ⟨by unfold duG hasD; rw [hn]; rfl, rfl⟩
  · have hlt : cntL (fun x : Du => cmpS x.key k) d < d.length := by
      rcases Nat.lt_or_ge (cntL (fun x : Du => cmpS x.key k) d) d.length with h1 | h1
      · exact h1
      · unfold hitL at h; rw [List.getElem?_eq_none h1] at h; cases h
    have hn : duAt d k = some (d[cntL (fun x : Du => cmpS x.key k) d]) := by unfold duAt; rw [hf, if_pos h, List.getElem?_eq_getElem hlt]
    refine idx_map _ hlt rfl ?_
    conv => whnf
    exact .mk ⟨by unfold duG hasD; rw [hn]; rfl, rfl⟩
set_option maxRecDepth 100000 in
set_option maxHeartbeats 4000000 in
theorem cableFault_pc (d : List Du) (hd : DuOk d) (x : Ly) (hx : x.ducts.length ≤ 1000000) : PCp 179 [.c (.lst 5 (d.map encDu)), .agg (encLy x)] [] (.c (.int .i64 (cabErr d x))) [] := by
  have hlm : (x.ducts.map encS).length = x.ducts.length := List.length_map ..
  refine fn_sound (mt := mts) tab_fits tab_mixed Tryz.func179 (by rfl) (by kernel_rfl) (by kernel_rfl) Tryz.results179 (Nat.le_of_ble_eq_true (by kernel_rfl)) ?_
  conv => whnf
  repeat' (first | ((first | refine Split.mk (fun h => ?_) (fun h => ?_) | refine CondG.mk (fun h => ?_) (fun h => ?_)) <;> (try simp only [decide_eq_true_eq, decide_eq_false_iff_not, Bool.not_eq_true', Bool.not_eq_false', beq_iff_eq, beq_eq_false_iff_ne, bne_iff_ne, bne_eq_false_iff_eq] at h) <;> (first | (exfalso; first | omega | exact h trivial) | (conv => whnf))) | (refine CallX.mk _ _ (by first | exact bOut_pc _ _ _) ?_; conv => whnf) | (refine CallG.mk _ _ (by first | exact bOut_pc _ _ _) ?_; conv => whnf) | (refine Ask.mk (by first | omega | (unfold roomOK; simp [cutRows]; done) | (unfold roomOK; simp [cutRows]; omega) | (simp [cutRows]; done) | (simp [cutRows]; omega)) ?_; conv => whnf) | (refine AppG.mk (by first | omega | (unfold roomOK; simp [cutRows]; done) | (unfold roomOK; simp [cutRows]; omega) | (simp [cutRows]; done) | (simp [cutRows]; omega)) ?_; conv => whnf) | (refine SliceG.fr ?_; conv => whnf) | (refine idx_at _ (by with_reducible rfl) (by first | assumption | omega) ?_; conv => whnf) | ((with_reducible refine row_map (by first | assumption | omega) ?_); conv => whnf) | ((with_reducible refine row_set (by first | assumption | omega | (simp only [List.length_set]; omega) | (simp; omega)) ?_); conv => whnf) | fail)
  · exact fini (by rw [cabErr, if_pos h])
  · exact fini (by rw [cabErr, if_neg (by assumption), if_pos (by omega)])
  · exact fini (by rw [cabErr, if_neg (by assumption), if_neg (by omega), if_pos (by omega)])
  have hF : cabErr d x = seqErr (keyErr (hasD d)) id true ⟨#[]⟩ x.ducts := by rw [cabErr, if_neg (by assumption), if_neg (by omega), if_neg (by omega)]
  refine loop_for (x.ducts.length) [] [0, 3, 24, 25, 26] (fun k (_ : Unit) => [(26, .c (.int .i64 (k : Int)))]) (fun k (_ : Unit) => []) (fun k (_ : Unit) => seqErr (keyErr (hasD d)) id (decide (k = 0)) (befK id x.ducts k) (x.ducts.drop k) = cabErr d x) (()) ?_
  conv => whnf
  refine ⟨(by first | rfl | (simp; done) | (simp; rfl)), ?_, ?_, ?_⟩
  · exact hF.symm
  · intro k _ hk hi
    conv => whnf
    repeat' (first | ((first | refine Split.mk (fun h => ?_) (fun h => ?_) | refine CondG.mk (fun h => ?_) (fun h => ?_)) <;> (try simp only [decide_eq_true_eq, decide_eq_false_iff_not, Bool.not_eq_true', Bool.not_eq_false', beq_iff_eq, beq_eq_false_iff_ne, bne_iff_ne, bne_eq_false_iff_eq] at h) <;> (first | (exfalso; first | omega | exact h trivial) | (conv => whnf))) | (refine CallX.mk _ _ (by first | exact find_pc d hd _) ?_; conv => whnf) | (refine CallG.mk _ _ (by first | exact find_pc d hd _) ?_; conv => whnf) | (refine Ask.mk (by first | omega | (unfold roomOK; simp [cutRows]; done) | (unfold roomOK; simp [cutRows]; omega) | (simp [cutRows]; done) | (simp [cutRows]; omega)) ?_; conv => whnf) | (refine AppG.mk (by first | omega | (unfold roomOK; simp [cutRows]; done) | (unfold roomOK; simp [cutRows]; omega) | (simp [cutRows]; done) | (simp [cutRows]; omega)) ?_; conv => whnf) | (refine SliceG.fr ?_; conv => whnf) | (refine idx_at _ (by with_reducible rfl) (by first | assumption | omega) ?_; conv => whnf) | ((with_reducible refine row_map (by first | assumption | omega) ?_); conv => whnf) | ((with_reducible refine row_set (by first | assumption | omega | (simp only [List.length_set]; omega) | (simp; omega)) ?_); conv => whnf) | ((refine idx_map (k - 1) (by omega) (by rw [wrap_in (by omega) (by omega)]; omega) ?_); conv => whnf) | fail)
    all_goals try simp only [toList_eq'] at *
    all_goals have hb := befK_pos (key := id) (l := x.ducts) (Nat.le_of_lt hk)
    all_goals first
      | (refine fini (seq_hit hk hi ?_ (by decide)); clear hi hF; unfold keyErr; (try rw [hb (by omega)]); (repeat' split) <;> first | rfl | (exfalso; first | omega | (simp_all [leB, toList_eq']; done) | (simp_all [leB, toList_eq']; omega)))
      | (refine count_next () hk (by rw [wrap_succ hk (by omega)]; rfl) (seq_next' hk hi ?_); clear hi hF; unfold keyErr; (try rw [hb (by omega)]); (repeat' split) <;> first | rfl | (exfalso; first | omega | (simp_all [leB, toList_eq']; done) | (simp_all [leB, toList_eq']; omega)))
  · intro _ hi
    conv => whnf
    repeat' (first | ((first | refine Split.mk (fun h => ?_) (fun h => ?_) | refine CondG.mk (fun h => ?_) (fun h => ?_)) <;> (try simp only [decide_eq_true_eq, decide_eq_false_iff_not, Bool.not_eq_true', Bool.not_eq_false', beq_iff_eq, beq_eq_false_iff_ne, bne_iff_ne, bne_eq_false_iff_eq] at h) <;> (first | (exfalso; first | omega | exact h trivial) | (conv => whnf))) | (refine Ask.mk (by first | omega | (unfold roomOK; simp [cutRows]; done) | (unfold roomOK; simp [cutRows]; omega) | (simp [cutRows]; done) | (simp [cutRows]; omega)) ?_; conv => whnf) | (refine AppG.mk (by first | omega | (unfold roomOK; simp [cutRows]; done) | (unfold roomOK; simp [cutRows]; omega) | (simp [cutRows]; done) | (simp [cutRows]; omega)) ?_; conv => whnf) | (refine SliceG.fr ?_; conv => whnf) | (refine idx_at _ (by with_reducible rfl) (by first | assumption | omega) ?_; conv => whnf) | ((with_reducible refine row_map (by first | assumption | omega) ?_); conv => whnf) | ((with_reducible refine row_set (by first | assumption | omega | (simp only [List.length_set]; omega) | (simp; omega)) ?_); conv => whnf) | fail)
    exact fini (seq_end hi).symm
end Go.Proofs.YtobcplhaabaemaaGreat

/- Cables in ducts: checked by the program. -/
namespace Go.Proofs.YtobcplhaabaemaaGreat
set_option linter.unusedVariables false
set_option linter.unusedSimpArgs false
open Abs

structure CntOk (m : SM ByteArray Int) (ks : List ByteArray) : Prop where
  ok : m.ok
  cnt : ∀ k, (m.get k).getD 0 = (ks.count k : Nat)
theorem CntOk.nil : CntOk SM.nil [] := ⟨SM.ok_nil, fun k => by rw [SM.get_nil]; rfl⟩
theorem CntOk.push {m : SM ByteArray Int} {ks : List ByteArray} (h : CntOk m ks) (k : ByteArray) : CntOk (m.put k ((ks.count k + 1 : Nat) : Int)) (ks ++ [k]) := by
  refine ⟨h.ok.put _ _, fun x => ?_⟩
  rw [SM.get_put, List.count_append]
  by_cases e : k = x
  · subst e; simp
  · have : [k].count x = 0 := by rw [List.count_eq_zero]; simpa using fun h => e h.symm
    rw [if_neg e, h.cnt, this]; rfl
set_option maxRecDepth 100000 in
set_option maxHeartbeats 4000000 in
theorem checkLying_pc (d : List Du) (l : List Ly) (hx : ∀ x ∈ l, x.ducts.length ≤ 1000000) : PCp 148 [.c (.lst 5 (d.map encDu)), .c (.lst 3 (l.map encLy))] [] (.c (.int .i64 (lyFault d l))) [] := by
  have hlm : (l.map encLy).length = l.length := List.length_map ..
  refine fn_sound (mt := mts) tab_fits tab_mixed Tryz.func148 (by rfl) (by kernel_rfl) (by kernel_rfl) Tryz.results148 (Nat.le_of_ble_eq_true (by kernel_rfl)) ?_
  conv => whnf
  repeat' (first | ((first | refine Split.mk (fun h => ?_) (fun h => ?_) | refine CondG.mk (fun h => ?_) (fun h => ?_)) <;> (try simp only [decide_eq_true_eq, decide_eq_false_iff_not, Bool.not_eq_true', Bool.not_eq_false', beq_iff_eq, beq_eq_false_iff_ne, bne_iff_ne, bne_eq_false_iff_eq] at h) <;> (first | (exfalso; first | omega | exact h trivial) | (conv => whnf))) | (refine CallX.mk _ _ (by first | exact checkDucts_pc d) ?_; conv => whnf) | (refine CallG.mk _ _ (by first | exact checkDucts_pc d) ?_; conv => whnf) | (refine Ask.mk (by first | omega | (unfold roomOK; simp [cutRows]; done) | (unfold roomOK; simp [cutRows]; omega) | (simp [cutRows]; done) | (simp [cutRows]; omega)) ?_; conv => whnf) | (refine AppG.mk (by first | omega | (unfold roomOK; simp [cutRows]; done) | (unfold roomOK; simp [cutRows]; omega) | (simp [cutRows]; done) | (simp [cutRows]; omega)) ?_; conv => whnf) | (refine SliceG.fr ?_; conv => whnf) | (refine idx_at _ (by with_reducible rfl) (by first | assumption | omega) ?_; conv => whnf) | ((with_reducible refine row_map (by first | assumption | omega) ?_); conv => whnf) | ((with_reducible refine row_set (by first | assumption | omega | (simp only [List.length_set]; omega) | (simp; omega)) ?_); conv => whnf) | fail)
  · exact fini (by rw [lyFault, if_pos h])
  · exact fini (by rw [lyFault, if_neg (by simp_all), if_pos (by omega)])
  rename_i hd0
  have hd0 : duFault d = 0 := by simpa using hd0
  have hd := duFault_ok hd0
  have hF : lyFault d l = if lysErr d l ≠ 0 then lysErr d l else if fullL d l then 12 else 0 := by rw [lyFault, if_neg (by simp [hd0]), if_neg (by omega)]
  refine loop_for (l.length) [] [0, 1, 6, 7, 22, 23, 24] (fun k (m : SM ByteArray Int) => [(7, .c (.bool (manyB ((l.take k).flatMap Ly.ducts)))), (24, .c (.int .i64 (k : Int)))]) (fun k (m : SM ByteArray Int) => [(0, smO ekS evI m)]) (fun k (m : SM ByteArray Int) => CntOk m ((l.take k).flatMap Ly.ducts) ∧ ((l.take k).flatMap Ly.ducts).length ≤ 300 * k ∧ seqErr (lyErr d) Ly.cable (decide (k = 0)) (befK Ly.cable l k) (l.drop k) = lysErr d l) (SM.nil) ?_
  conv => whnf
  refine ⟨(by first | rfl | (simp; done) | (simp; rfl)), ?_, ?_, ?_⟩
  · exact ⟨CntOk.nil, by simp, rfl⟩
  · intro k m hk ⟨hm, hn, hi⟩
    have hb := befK_pos (key := Ly.cable) (l := l) (Nat.le_of_lt hk)
    conv => whnf
    repeat' (first | ((first | refine Split.mk (fun h => ?_) (fun h => ?_) | refine CondG.mk (fun h => ?_) (fun h => ?_)) <;> (try simp only [decide_eq_true_eq, decide_eq_false_iff_not, Bool.not_eq_true', Bool.not_eq_false', beq_iff_eq, beq_eq_false_iff_ne, bne_iff_ne, bne_eq_false_iff_eq] at h) <;> (first | (exfalso; first | omega | exact h trivial) | (conv => whnf))) | (refine CallX.mk _ _ (by first | exact bKey_pc _ | exact cableFault_pc d hd l[k] (hx _ (List.getElem_mem hk))) ?_; conv => whnf) | (refine CallG.mk _ _ (by first | exact bKey_pc _ | exact cableFault_pc d hd l[k] (hx _ (List.getElem_mem hk))) ?_; conv => whnf) | (refine Ask.mk (by first | omega | (unfold roomOK; simp [cutRows]; done) | (unfold roomOK; simp [cutRows]; omega) | (simp [cutRows]; done) | (simp [cutRows]; omega)) ?_; conv => whnf) | (refine AppG.mk (by first | omega | (unfold roomOK; simp [cutRows]; done) | (unfold roomOK; simp [cutRows]; omega) | (simp [cutRows]; done) | (simp [cutRows]; omega)) ?_; conv => whnf) | (refine SliceG.fr ?_; conv => whnf) | (refine idx_at _ (by with_reducible rfl) (by first | assumption | omega) ?_; conv => whnf) | ((with_reducible refine row_map (by first | assumption | omega) ?_); conv => whnf) | ((with_reducible refine row_set (by first | assumption | omega | (simp only [List.length_set]; omega) | (simp; omega)) ?_); conv => whnf) | ((refine idx_map (k - 1) (by omega) (by rw [wrap_in (by omega) (by omega)]; omega) ?_); conv => whnf) | fail)
    all_goals try simp only [toList_eq'] at *
    all_goals first
      | (have he : lyErr d (decide (k = 0)) (befK Ly.cable l k) l[k] = 5 := by (unfold lyErr; clear hi hF; (try rw [hb (by omega)]); (repeat' split) <;> first | rfl | (exfalso; first | omega | (simp_all [leB, toList_eq']; done) | (simp_all [leB, toList_eq']; omega)))
         have h9 := seq_hit hk hi he (by decide)
         exact fini (by rw [hF, if_pos (by omega)]; exact h9))
      | (have he : lyErr d (decide (k = 0)) (befK Ly.cable l k) l[k] = 7 := by (unfold lyErr; clear hi hF; (try rw [hb (by omega)]); (repeat' split) <;> first | rfl | (exfalso; first | omega | (simp_all [leB, toList_eq']; done) | (simp_all [leB, toList_eq']; omega)))
         have h9 := seq_hit hk hi he (by decide)
         exact fini (by rw [hF, if_pos (by omega)]; exact h9))
      | (have he : lyErr d (decide (k = 0)) (befK Ly.cable l k) l[k] = cabErr d l[k] := by (unfold lyErr; clear hi hF; (try rw [hb (by omega)]); (repeat' split) <;> first | rfl | (exfalso; first | omega | (simp_all [leB, toList_eq']; done) | (simp_all [leB, toList_eq']; omega)))
         have h9 := seq_hit hk hi he (by assumption)
         exact fini (by rw [hF, if_pos (by omega)]; exact h9))
      | skip
    all_goals
      have he : lyErr d (decide (k = 0)) (befK Ly.cable l k) l[k] = 0 := by (unfold lyErr; clear hi hF; (try rw [hb (by omega)]); (repeat' split) <;> first | rfl | assumption | (exfalso; first | omega | (simp_all [leB, toList_eq']; done) | (simp_all [leB, toList_eq']; omega)))
      have hX := (lyErr_ok he).1
      have hxl := hX.len
      have hxm : (l[k].ducts.map encS).length = l[k].ducts.length := List.length_map ..
      have hnx := seq_next' hk hi he
      have hft : (l.take (k + 1)).flatMap Ly.ducts = (l.take k).flatMap Ly.ducts ++ l[k].ducts := by rw [List.take_succ_eq_append_getElem hk, List.flatMap_append, List.flatMap_cons, List.flatMap_nil, List.append_nil]
      generalize (l.take k).flatMap Ly.ducts = A at *
      refine loop_for (l[k].ducts.length) [] [0, 1, 6, 7, 22, 23, 24, 55, 56, 57] (fun j (m' : SM ByteArray Int) => [(7, .c (.bool (manyB (A ++ l[k].ducts.take j)))), (57, .c (.int .i64 (j : Int)))]) (fun j (m' : SM ByteArray Int) => [(0, smO ekS evI m')]) (fun j (m' : SM ByteArray Int) => CntOk m' (A ++ l[k].ducts.take j)) (m) ?_
      conv => whnf
      refine ⟨?_, ?_, ?_, ?_⟩
      · rw [List.take_zero, List.append_nil]; rfl
      · simpa using hm
      · intro j m' hj hm'
        have htj : A ++ l[k].ducts.take (j + 1) = A ++ l[k].ducts.take j ++ [l[k].ducts[j]] := by rw [List.take_succ_eq_append_getElem hj, List.append_assoc]
        have hlen : (A ++ l[k].ducts.take j).count l[k].ducts[j] ≤ 300 * k + 300 := Nat.le_trans List.count_le_length (by rw [List.length_append, List.length_take]; omega)
        have hmp := many_push (A ++ l[k].ducts.take j) l[k].ducts[j]
        rw [← htj] at hmp
        conv => whnf
        repeat' (first | ((first | refine Split.mk (fun h => ?_) (fun h => ?_) | refine CondG.mk (fun h => ?_) (fun h => ?_)) <;> (try simp only [decide_eq_true_eq, decide_eq_false_iff_not, Bool.not_eq_true', Bool.not_eq_false', beq_iff_eq, beq_eq_false_iff_ne, bne_iff_ne, bne_eq_false_iff_eq] at h) <;> (first | (exfalso; first | omega | exact h trivial) | (conv => whnf))) | (refine Ask.mk (by first | omega | (unfold roomOK; simp [cutRows]; done) | (unfold roomOK; simp [cutRows]; omega) | (simp [cutRows]; done) | (simp [cutRows]; omega)) ?_; conv => whnf) | (refine AppG.mk (by first | omega | (unfold roomOK; simp [cutRows]; done) | (unfold roomOK; simp [cutRows]; omega) | (simp [cutRows]; done) | (simp [cutRows]; omega)) ?_; conv => whnf) | (refine SliceG.fr ?_; conv => whnf) | (refine idx_at _ (by with_reducible rfl) (by first | assumption | omega) ?_; conv => whnf) | ((with_reducible refine row_map (by first | assumption | omega) ?_); conv => whnf) | ((with_reducible refine row_set (by first | assumption | omega | (simp only [List.length_set]; omega) | (simp; omega)) ?_); conv => whnf) | ((with_reducible refine sm_look (ek := ekS) (ev := evI) keyStr _ _ ((0 : Int)) ?_ ?_); exact rfl; conv => whnf) | ((with_reducible refine sm_upd (ek := ekS) (ev := evI) keyStr _ _ _ ?_); conv => whnf) | ((with_reducible refine sm_del (ek := ekS) (ev := evI) keyStr _ _ ?_); conv => whnf) | ((with_reducible refine sm_entry (ek := ekS) (ev := evI) keyStr _ _ ((0 : Int)) ?_ ?_); exact rfl; conv => whnf) | fail)
        all_goals
          generalize hc : (A ++ l[k].ducts.take j).count l[k].ducts[j] = c at *
          have hcm : (m'.get l[k].ducts[j]).getD 0 = (c : Nat) := by rw [hm'.cnt, hc]
          have hw : IntKind.i64.wrap ((m'.get l[k].ducts[j]).getD 0 + 1) = ((c + 1 : Nat) : Int) := by rw [hcm, wrap_in (by omega) (by omega)]; rfl
          have hg : ((m'.put l[k].ducts[j] ((c + 1 : Nat) : Int)).get l[k].ducts[j]).getD 0 = ((c + 1 : Nat) : Int) := by rw [SM.get_put, if_pos rfl]; rfl
          have hdc : decide ((20 : Int) < ((c + 1 : Nat) : Int)) = decide (20 < c + 1) := by rw [decide_eq_decide]; omega
          have hok := hm'.push l[k].ducts[j]
          rw [hc, ← htj] at hok
          rw [hw]
        · exact count_next _ hj (by rw [wrap_succ hj (by omega), hmp, h]; rfl) hok
        · rw [hg, hdc]
          exact count_next _ hj (by rw [wrap_succ hj (by omega), hmp, h]; rfl) hok
      · intro m' hm'
        rw [List.take_length] at *
        conv => whnf
        repeat' (first | ((first | refine Split.mk (fun h => ?_) (fun h => ?_) | refine CondG.mk (fun h => ?_) (fun h => ?_)) <;> (try simp only [decide_eq_true_eq, decide_eq_false_iff_not, Bool.not_eq_true', Bool.not_eq_false', beq_iff_eq, beq_eq_false_iff_ne, bne_iff_ne, bne_eq_false_iff_eq] at h) <;> (first | (exfalso; first | omega | exact h trivial) | (conv => whnf))) | (refine Ask.mk (by first | omega | (unfold roomOK; simp [cutRows]; done) | (unfold roomOK; simp [cutRows]; omega) | (simp [cutRows]; done) | (simp [cutRows]; omega)) ?_; conv => whnf) | (refine AppG.mk (by first | omega | (unfold roomOK; simp [cutRows]; done) | (unfold roomOK; simp [cutRows]; omega) | (simp [cutRows]; done) | (simp [cutRows]; omega)) ?_; conv => whnf) | (refine SliceG.fr ?_; conv => whnf) | (refine idx_at _ (by with_reducible rfl) (by first | assumption | omega) ?_; conv => whnf) | ((with_reducible refine row_map (by first | assumption | omega) ?_); conv => whnf) | ((with_reducible refine row_set (by first | assumption | omega | (simp only [List.length_set]; omega) | (simp; omega)) ?_); conv => whnf) | fail)
        exact count_next m' hk (by rw [wrap_succ hk (by omega), hft]; rfl) ⟨by rw [hft]; exact hm', by rw [hft, List.length_append]; omega, hnx⟩
  · intro m ⟨hm, hn, hi⟩
    rw [List.take_length] at *
    have h0 := seq_end hi
    have hall := many_full (lysErr_ok h0).2
    conv => whnf
    repeat' (first | ((first | refine Split.mk (fun h => ?_) (fun h => ?_) | refine CondG.mk (fun h => ?_) (fun h => ?_)) <;> (try simp only [decide_eq_true_eq, decide_eq_false_iff_not, Bool.not_eq_true', Bool.not_eq_false', beq_iff_eq, beq_eq_false_iff_ne, bne_iff_ne, bne_eq_false_iff_eq] at h) <;> (first | (exfalso; first | omega | exact h trivial) | (conv => whnf))) | (refine Ask.mk (by first | omega | (unfold roomOK; simp [cutRows]; done) | (unfold roomOK; simp [cutRows]; omega) | (simp [cutRows]; done) | (simp [cutRows]; omega)) ?_; conv => whnf) | (refine AppG.mk (by first | omega | (unfold roomOK; simp [cutRows]; done) | (unfold roomOK; simp [cutRows]; omega) | (simp [cutRows]; done) | (simp [cutRows]; omega)) ?_; conv => whnf) | (refine SliceG.fr ?_; conv => whnf) | (refine idx_at _ (by with_reducible rfl) (by first | assumption | omega) ?_; conv => whnf) | ((with_reducible refine row_map (by first | assumption | omega) ?_); conv => whnf) | ((with_reducible refine row_set (by first | assumption | omega | (simp only [List.length_set]; omega) | (simp; omega)) ?_); conv => whnf) | fail)
    · exact fini (by rw [hF, if_neg (by simp [h0]), if_pos (by rw [← hall]; exact h)])
    · exact fini (by rw [hF, if_neg (by simp [h0]), if_neg (by rw [← hall, h]; decide)])
end Go.Proofs.YtobcplhaabaemaaGreat

/- Cables in ducts: by the document; what lies in a duct. -/
namespace Go.Proofs.YtobcplhaabaemaaGreat
set_option linter.unusedVariables false
set_option linter.unusedSimpArgs false
open Abs

theorem inL_take {l : List Ly} {k : Nat} (h : k < l.length) (key : ByteArray) : inL (l.take (k + 1)) key = inL (l.take k) key ++ (if key ∈ l[k].ducts then [l[k]] else []) := by
  unfold inL
  rw [List.take_succ_eq_append_getElem h, List.filter_append]
  by_cases e : key ∈ l[k].ducts <;> simp [e]
theorem inL_len (l : List Ly) (key : ByteArray) : (inL l key).length ≤ l.length := List.length_filter_le _ _
end Go.Proofs.YtobcplhaabaemaaGreat

/- What lies in a duct, and what has room there. -/
namespace Go.Proofs.YtobcplhaabaemaaGreat
set_option linter.unusedVariables false
set_option linter.unusedSimpArgs false
open Abs

theorem hitS_eq {l : List ByteArray} (h : Rise id l) (t : ByteArray) : hitS t l = decide (t ∈ l) := by
  have hc : ∀ x : ByteArray, ((if ltB x t then (-1 : Int) else if x.toList = t.toList then 0 else 1) < 0 ↔ ltB (id x) t = true) ∧ ((if ltB x t then (-1 : Int) else if x.toList = t.toList then 0 else 1) = 0 ↔ id x = t) := by
    intro x
    by_cases h1 : ltB x t = true
    · simp [h1, ltB_ne h1]
    · by_cases h2 : x = t
      · subst h2; simp [h1]
      · simp [h1, h2, toList_eq']
  have hf := find_rise hc h
  unfold hitS
  generalize hh : hitL (fun x => if ltB x t then (-1 : Int) else if x.toList = t.toList then 0 else 1) l = b at *
  rw [Bool.eq_iff_iff, decide_eq_true_eq]
  cases b with
  | false =>
    constructor
    · intro e; cases e
    · intro ht
      have h1 : (l.find? fun x => decide (id x = t)).isSome := by rw [List.find?_isSome]; exact ⟨t, ht, by simp⟩
      rw [hf] at h1; simp at h1
  | true =>
    refine ⟨fun _ => ?_, fun _ => rfl⟩
    unfold hitL at hh
    split at hh
    · rename_i x hx
      rw [if_pos rfl, hx] at hf
      have h1 := List.find?_some hf
      have h2 := List.mem_of_find?_eq_some hf
      have : x = t := by simpa using h1
      rwa [this] at h2
    · cases hh
theorem binS_ok {l : List ByteArray} (h : Rise id l) (hl : l.length ≤ 1000000) (t : ByteArray) : PCp 174 [.c (.lst 1 (l.map encS)), .c (.str t)] [] (.tup [.c (.int .i64 ((cntS t l : Nat) : Int)), .c (.bool (decide (t ∈ l)))]) [] := by
  rw [← hitS_eq h]
  refine binS_pc t l hl ?_
  intro i j hj hij hlt
  rcases Nat.lt_or_ge i j with h1 | h1
  · exact ltB_trans (h.at h1 hj) hlt
  · have : i = j := by omega
    subst this; exact hlt
set_option maxRecDepth 100000 in
set_option maxHeartbeats 4000000 in
theorem dIn_pc (l : List Ly) (hl : l.length ≤ 1000000) (hx : ∀ x ∈ l, Rise id x.ducts ∧ x.ducts.length ≤ 1000000) (key : ByteArray) : PCp 151 [.c (.lst 3 (l.map encLy)), .c (.str key)] [] (.c (.lst 3 ((inL l key).map encLy))) [] := by
  have hlm : (l.map encLy).length = l.length := List.length_map ..
  refine fn_sound (mt := mts) tab_fits tab_mixed Tryz.func151 (by rfl) (by kernel_rfl) (by kernel_rfl) Tryz.results151 (Nat.le_of_ble_eq_true (by kernel_rfl)) ?_
  conv => whnf
  refine loop_for (l.length) [.sl 5 236 3] [1, 5, 10, 11, 12] (fun k (_ : Unit) => [(12, .c (.int .i64 (k : Int)))]) (fun k (_ : Unit) => [(0, .row 236 3 ((inL (l.take k) key).map encLy))]) (fun k (_ : Unit) => True) (()) ?_
  conv => whnf
  refine ⟨(by first | rfl | (simp; done) | (simp; rfl)), (by trivial), ?_, ?_⟩
  · intro k _ hk _
    have hle := inL_len (l.take k) key
    have hcm : ((inL (l.take k) key).map encLy).length = (inL (l.take k) key).length := List.length_map ..
    have htl : (l.take k).length = k := by rw [List.length_take]; omega
    have ht := inL_take hk key
    obtain ⟨h1, h2⟩ := hx _ (List.getElem_mem hk)
    conv => whnf
    repeat' (first | ((first | refine Split.mk (fun h => ?_) (fun h => ?_) | refine CondG.mk (fun h => ?_) (fun h => ?_)) <;> (try simp only [decide_eq_true_eq, decide_eq_false_iff_not, Bool.not_eq_true', Bool.not_eq_false', beq_iff_eq, beq_eq_false_iff_ne, bne_iff_ne, bne_eq_false_iff_eq] at h) <;> (first | (exfalso; first | omega | exact h trivial) | (conv => whnf))) | (refine CallX.mk _ _ (by first | exact binS_ok h1 h2 key) ?_; conv => whnf) | (refine CallG.mk _ _ (by first | exact binS_ok h1 h2 key) ?_; conv => whnf) | (refine Ask.mk (by first | omega | (unfold roomOK; simp [cutRows]; done) | (unfold roomOK; simp [cutRows]; omega) | (simp [cutRows]; done) | (simp [cutRows]; omega)) ?_; conv => whnf) | (refine AppG.mk (by first | omega | (unfold roomOK; simp [cutRows]; done) | (unfold roomOK; simp [cutRows]; omega) | (simp [cutRows]; done) | (simp [cutRows]; omega)) ?_; conv => whnf) | (refine SliceG.fr ?_; conv => whnf) | (refine idx_at _ (by with_reducible rfl) (by first | assumption | omega) ?_; conv => whnf) | ((with_reducible refine row_map (by first | assumption | omega) ?_); conv => whnf) | ((with_reducible refine row_set (by first | assumption | omega | (simp only [List.length_set]; omega) | (simp; omega)) ?_); conv => whnf) | fail)
    · rw [if_pos h] at ht
      exact count_next () hk (by rw [wrap_succ hk (by omega), ht, List.map_append]; rfl) trivial
    · rw [if_neg h, List.append_nil] at ht
      exact count_next () hk (by rw [wrap_succ hk (by omega), ht]; rfl) trivial
  · intro _ _
    rw [List.take_length]
    conv => whnf
    repeat' (first | ((first | refine Split.mk (fun h => ?_) (fun h => ?_) | refine CondG.mk (fun h => ?_) (fun h => ?_)) <;> (try simp only [decide_eq_true_eq, decide_eq_false_iff_not, Bool.not_eq_true', Bool.not_eq_false', beq_iff_eq, beq_eq_false_iff_ne, bne_iff_ne, bne_eq_false_iff_eq] at h) <;> (first | (exfalso; first | omega | exact h trivial) | (conv => whnf))) | (refine Ask.mk (by first | omega | (unfold roomOK; simp [cutRows]; done) | (unfold roomOK; simp [cutRows]; omega) | (simp [cutRows]; done) | (simp [cutRows]; omega)) ?_; conv => whnf) | (refine AppG.mk (by first | omega | (unfold roomOK; simp [cutRows]; done) | (unfold roomOK; simp [cutRows]; omega) | (simp [cutRows]; done) | (simp [cutRows]; omega)) ?_; conv => whnf) | (refine SliceG.fr ?_; conv => whnf) | (refine idx_at _ (by with_reducible rfl) (by first | assumption | omega) ?_; conv => whnf) | ((with_reducible refine row_map (by first | assumption | omega) ?_); conv => whnf) | ((with_reducible refine row_set (by first | assumption | omega | (simp only [List.length_set]; omega) | (simp; omega)) ?_); conv => whnf) | fail)
    exact .frz 0 _ _ _ rfl (.weak [_] (.fro 0 _ _ rfl) rfl (Nat.le_refl _))
set_option maxRecDepth 100000 in
set_option maxHeartbeats 4000000 in
theorem dOuters_pc (l : List Ly) (hl : l.length ≤ 1000000) (hx : ∀ x ∈ l, Rise id x.ducts ∧ x.ducts.length ≤ 1000000) (key : ByteArray) : PCp 105 [.c (.lst 3 (l.map encLy)), .c (.str key)] [] (.c (.row 0)) [.row 3 1 ((outV l key).map encI)] := by
  have hle := inL_len l key
  refine fn_sound (mt := mts) tab_fits tab_mixed Tryz.func105 (by rfl) (by kernel_rfl) (by kernel_rfl) Tryz.results105 (Nat.le_of_ble_eq_true (by kernel_rfl)) ?_
  conv => whnf
  repeat' (first | ((first | refine Split.mk (fun h => ?_) (fun h => ?_) | refine CondG.mk (fun h => ?_) (fun h => ?_)) <;> (try simp only [decide_eq_true_eq, decide_eq_false_iff_not, Bool.not_eq_true', Bool.not_eq_false', beq_iff_eq, beq_eq_false_iff_ne, bne_iff_ne, bne_eq_false_iff_eq] at h) <;> (first | (exfalso; first | omega | exact h trivial) | (conv => whnf))) | (refine CallX.mk _ _ (by first | exact dIn_pc l hl hx key) ?_; conv => whnf) | (refine CallG.mk _ _ (by first | exact dIn_pc l hl hx key) ?_; conv => whnf) | (refine Ask.mk (by first | omega | (unfold roomOK; simp [cutRows]; done) | (unfold roomOK; simp [cutRows]; omega) | (simp [cutRows]; done) | (simp [cutRows]; omega)) ?_; conv => whnf) | (refine AppG.mk (by first | omega | (unfold roomOK; simp [cutRows]; done) | (unfold roomOK; simp [cutRows]; omega) | (simp [cutRows]; done) | (simp [cutRows]; omega)) ?_; conv => whnf) | (refine SliceG.fr ?_; conv => whnf) | (refine idx_at _ (by with_reducible rfl) (by first | assumption | omega) ?_; conv => whnf) | ((with_reducible refine row_map (by first | assumption | omega) ?_); conv => whnf) | ((with_reducible refine row_set (by first | assumption | omega | (simp only [List.length_set]; omega) | (simp; omega)) ?_); conv => whnf) | fail)
  have hO : outV l key = (inL l key).map Ly.outer := rfl
  rw [hO]
  generalize inL l key = L at *
  have hlm : (L.map encLy).length = L.length := List.length_map ..
  refine loop_for (L.length) [.sl 5 3 1] [5, 10, 11, 12] (fun k (_ : Unit) => [(12, .c (.int .i64 (k : Int)))]) (fun k (_ : Unit) => [(0, .row 3 1 (((L.take k).map Ly.outer).map encI))]) (fun k (_ : Unit) => True) (()) ?_
  conv => whnf
  refine ⟨(by first | rfl | (simp; done) | (simp; rfl)), (by trivial), ?_, ?_⟩
  · intro k _ hk _
    have hcm : (((L.take k).map Ly.outer).map encI).length = (L.take k).length := by simp
    have htl : (L.take k).length = k := by rw [List.length_take]; omega
    conv => whnf
    repeat' (first | ((first | refine Split.mk (fun h => ?_) (fun h => ?_) | refine CondG.mk (fun h => ?_) (fun h => ?_)) <;> (try simp only [decide_eq_true_eq, decide_eq_false_iff_not, Bool.not_eq_true', Bool.not_eq_false', beq_iff_eq, beq_eq_false_iff_ne, bne_iff_ne, bne_eq_false_iff_eq] at h) <;> (first | (exfalso; first | omega | exact h trivial) | (conv => whnf))) | (refine Ask.mk (by first | omega | (unfold roomOK; simp [cutRows]; done) | (unfold roomOK; simp [cutRows]; omega) | (simp [cutRows]; done) | (simp [cutRows]; omega)) ?_; conv => whnf) | (refine AppG.mk (by first | omega | (unfold roomOK; simp [cutRows]; done) | (unfold roomOK; simp [cutRows]; omega) | (simp [cutRows]; done) | (simp [cutRows]; omega)) ?_; conv => whnf) | (refine SliceG.fr ?_; conv => whnf) | (refine idx_at _ (by with_reducible rfl) (by first | assumption | omega) ?_; conv => whnf) | ((with_reducible refine row_map (by first | assumption | omega) ?_); conv => whnf) | ((with_reducible refine row_set (by first | assumption | omega | (simp only [List.length_set]; omega) | (simp; omega)) ?_); conv => whnf) | fail)
    exact count_next () hk (by rw [wrap_succ hk (by omega), List.take_succ_eq_append_getElem hk, List.map_append, List.map_append]; rfl) trivial
  · intro _ _
    rw [List.take_length]
    conv => whnf
    repeat' (first | ((first | refine Split.mk (fun h => ?_) (fun h => ?_) | refine CondG.mk (fun h => ?_) (fun h => ?_)) <;> (try simp only [decide_eq_true_eq, decide_eq_false_iff_not, Bool.not_eq_true', Bool.not_eq_false', beq_iff_eq, beq_eq_false_iff_ne, bne_iff_ne, bne_eq_false_iff_eq] at h) <;> (first | (exfalso; first | omega | exact h trivial) | (conv => whnf))) | (refine Ask.mk (by first | omega | (unfold roomOK; simp [cutRows]; done) | (unfold roomOK; simp [cutRows]; omega) | (simp [cutRows]; done) | (simp [cutRows]; omega)) ?_; conv => whnf) | (refine AppG.mk (by first | omega | (unfold roomOK; simp [cutRows]; done) | (unfold roomOK; simp [cutRows]; omega) | (simp [cutRows]; done) | (simp [cutRows]; omega)) ?_; conv => whnf) | (refine SliceG.fr ?_; conv => whnf) | (refine idx_at _ (by with_reducible rfl) (by first | assumption | omega) ?_; conv => whnf) | ((with_reducible refine row_map (by first | assumption | omega) ?_); conv => whnf) | ((with_reducible refine row_set (by first | assumption | omega | (simp only [List.length_set]; omega) | (simp; omega)) ?_); conv => whnf) | fail)
    exact .mk ⟨rfl, rfl⟩
end Go.Proofs.YtobcplhaabaemaaGreat

/- Ducts: fills, rooms, how many more. -/
namespace Go.Proofs.YtobcplhaabaemaaGreat
set_option linter.unusedVariables false
set_option linter.unusedSimpArgs false
open Abs

def oneE (d : List Du) (l : List Ly) (k : ByteArray) : Int := if lyFault d l ≠ 0 then lyFault d l else if hasD d k then 0 else 8
def duV (d : List Du) (l : List Ly) (k : ByteArray) : Du := if oneE d l k = 0 then duG d k else du0
theorem oneE_ok {d : List Du} {l : List Ly} {k : ByteArray} (h : oneE d l k = 0) : LyOk d l ∧ hasD d k = true ∧ lyFault d l = 0 := by
  unfold oneE at h
  split at h
  · exact absurd h (by assumption)
  · split at h
    · rename_i h1 h2; exact ⟨lyFault_ok (by omega), h2, by omega⟩
    · omega
theorem LyOk.rl {d : List Du} {l : List Ly} (h : LyOk d l) : ∀ x ∈ l, Rise id x.ducts ∧ x.ducts.length ≤ 1000000 := fun x hx => ⟨(h.each x hx).rise, by have := (h.each x hx).len; omega⟩
theorem LyOk.o1000 {d : List Du} {l : List Ly} (h : LyOk d l) (k : ByteArray) : ∀ x ∈ outV l k, 0 ≤ x ∧ x ≤ 1000 := by
  intro x hx
  obtain ⟨y, hy, rfl⟩ := List.mem_map.1 hx
  have := (h.each y (List.mem_filter.1 hy).1).out
  omega
theorem outV_len (l : List Ly) (k : ByteArray) : (outV l k).length = (inL l k).length := List.length_map ..
theorem LyOk.out20 {d : List Du} {l : List Ly} (h : LyOk d l) {k : ByteArray} (hk : hasD d k = true) : (outV l k).length ≤ 20 := by
  obtain ⟨x, hx, rfl⟩ := hasD_iff.1 hk
  rw [outV_len]; exact h.few x hx
theorem duG_in {d : List Du} (h : DuOk d) {k : ByteArray} (hk : hasD d k = true) : duG d k ∈ d ∧ (duG d k).key = k := by
  obtain ⟨x, hx, rfl⟩ := hasD_iff.1 hk
  rw [duG_mem h hx]; exact ⟨hx, rfl⟩
set_option maxRecDepth 100000 in
set_option maxHeartbeats 4000000 in
theorem ductOf_pc (d : List Du) (l : List Ly) (hx : ∀ x ∈ l, x.ducts.length ≤ 1000000) (k : ByteArray) : PCp 102 [.c (.lst 5 (d.map encDu)), .c (.lst 3 (l.map encLy)), .c (.str k)] [] (.tup [.agg (encDu (duV d l k)), .c (.int .i64 (oneE d l k))]) [] := by
  refine fn_sound (mt := mts) tab_fits tab_mixed Tryz.func102 (by rfl) (by kernel_rfl) (by kernel_rfl) Tryz.results102 (Nat.le_of_ble_eq_true (by kernel_rfl)) ?_
  conv => whnf
  repeat' (first | ((first | refine Split.mk (fun h => ?_) (fun h => ?_) | refine CondG.mk (fun h => ?_) (fun h => ?_)) <;> (try simp only [decide_eq_true_eq, decide_eq_false_iff_not, Bool.not_eq_true', Bool.not_eq_false', beq_iff_eq, beq_eq_false_iff_ne, bne_iff_ne, bne_eq_false_iff_eq] at h) <;> (first | (exfalso; first | omega | exact h trivial) | (conv => whnf))) | (refine CallX.mk _ _ (by first | exact checkLying_pc d l hx) ?_; conv => whnf) | (refine CallG.mk _ _ (by first | exact checkLying_pc d l hx) ?_; conv => whnf) | (refine Ask.mk (by first | omega | (unfold roomOK; simp [cutRows]; done) | (unfold roomOK; simp [cutRows]; omega) | (simp [cutRows]; done) | (simp [cutRows]; omega)) ?_; conv => whnf) | (refine AppG.mk (by first | omega | (unfold roomOK; simp [cutRows]; done) | (unfold roomOK; simp [cutRows]; omega) | (simp [cutRows]; done) | (simp [cutRows]; omega)) ?_; conv => whnf) | (refine SliceG.fr ?_; conv => whnf) | (refine idx_at _ (by with_reducible rfl) (by first | assumption | omega) ?_; conv => whnf) | ((with_reducible refine row_map (by first | assumption | omega) ?_); conv => whnf) | ((with_reducible refine row_set (by first | assumption | omega | (simp only [List.length_set]; omega) | (simp; omega)) ?_); conv => whnf) | fail)
  · have h1 : oneE d l k = lyFault d l := by rw [oneE, if_pos h]
    exact .mk ⟨by rw [duV, h1, if_neg h]; rfl, rfl⟩
  have hok := lyFault_ok h
  repeat' (first | ((first | refine Split.mk (fun h => ?_) (fun h => ?_) | refine CondG.mk (fun h => ?_) (fun h => ?_)) <;> (try simp only [decide_eq_true_eq, decide_eq_false_iff_not, Bool.not_eq_true', Bool.not_eq_false', beq_iff_eq, beq_eq_false_iff_ne, bne_iff_ne, bne_eq_false_iff_eq] at h) <;> (first | (exfalso; first | omega | exact h trivial) | (conv => whnf))) | (refine CallX.mk _ _ (by first | exact find_pc d hok.du k) ?_; conv => whnf) | (refine CallG.mk _ _ (by first | exact find_pc d hok.du k) ?_; conv => whnf) | (refine Ask.mk (by first | omega | (unfold roomOK; simp [cutRows]; done) | (unfold roomOK; simp [cutRows]; omega) | (simp [cutRows]; done) | (simp [cutRows]; omega)) ?_; conv => whnf) | (refine AppG.mk (by first | omega | (unfold roomOK; simp [cutRows]; done) | (unfold roomOK; simp [cutRows]; omega) | (simp [cutRows]; done) | (simp [cutRows]; omega)) ?_; conv => whnf) | (refine SliceG.fr ?_; conv => whnf) | (refine idx_at _ (by with_reducible rfl) (by first | assumption | omega) ?_; conv => whnf) | ((with_reducible refine row_map (by first | assumption | omega) ?_); conv => whnf) | ((with_reducible refine row_set (by first | assumption | omega | (simp only [List.length_set]; omega) | (simp; omega)) ?_); conv => whnf) | fail)
  · have h1 : oneE d l k = 8 := by rw [oneE, if_neg (by omega), if_neg (by rw [h]; decide)]
    exact .mk ⟨by rw [duV, h1, if_neg (by decide)]; rfl, rfl⟩
  · have h1 : oneE d l k = 0 := by rw [oneE, if_neg (by omega), if_pos h]
    exact .mk ⟨by rw [duV, h1, if_pos rfl]; rfl, rfl⟩
end Go.Proofs.YtobcplhaabaemaaGreat

/- Ducts: what has room, how many more. -/
namespace Go.Proofs.YtobcplhaabaemaaGreat
set_option linter.unusedVariables false
set_option linter.unusedSimpArgs false
open Abs

set_option maxRecDepth 100000 in
set_option maxHeartbeats 4000000 in
theorem dOuterFault_pc (n : Int) : PCp 103 [.c (.int .i64 n)] [] (.c (.int .i64 (if n < 1 ∨ 1000 < n then 1 else 0))) [] := by
  refine fn_sound (mt := mts) tab_fits tab_mixed Tryz.func103 (by rfl) (by kernel_rfl) (by kernel_rfl) Tryz.results103 (Nat.le_of_ble_eq_true (by kernel_rfl)) ?_
  conv => whnf
  repeat' (first | ((first | refine Split.mk (fun h => ?_) (fun h => ?_) | refine CondG.mk (fun h => ?_) (fun h => ?_)) <;> (try simp only [decide_eq_true_eq, decide_eq_false_iff_not, Bool.not_eq_true', Bool.not_eq_false', beq_iff_eq, beq_eq_false_iff_ne, bne_iff_ne, bne_eq_false_iff_eq] at h) <;> (first | (exfalso; first | omega | exact h trivial) | (conv => whnf))) | (refine CallX.mk _ _ (by first | exact bOut_pc _ _ _) ?_; conv => whnf) | (refine CallG.mk _ _ (by first | exact bOut_pc _ _ _) ?_; conv => whnf) | (refine Ask.mk (by first | omega | (unfold roomOK; simp [cutRows]; done) | (unfold roomOK; simp [cutRows]; omega) | (simp [cutRows]; done) | (simp [cutRows]; omega)) ?_; conv => whnf) | (refine AppG.mk (by first | omega | (unfold roomOK; simp [cutRows]; done) | (unfold roomOK; simp [cutRows]; omega) | (simp [cutRows]; done) | (simp [cutRows]; omega)) ?_; conv => whnf) | (refine SliceG.fr ?_; conv => whnf) | (refine idx_at _ (by with_reducible rfl) (by first | assumption | omega) ?_; conv => whnf) | ((with_reducible refine row_map (by first | assumption | omega) ?_); conv => whnf) | ((with_reducible refine row_set (by first | assumption | omega | (simp only [List.length_set]; omega) | (simp; omega)) ?_); conv => whnf) | fail)
  all_goals exact fini (by simp_all <;> omega)
set_option maxRecDepth 100000 in
set_option maxHeartbeats 4000000 in
theorem ixIK_pc (key : Int) (g : Nat) (p : Int → Bool) (l : List Int) (hl : l.length ≤ 1000000) (hg : ∀ x ∈ l, PCp g [.c (.int .i64 x), .c (.ptr 0 0)] [.box [.int .i64 key]] (.c (.bool (p x))) [.box [.int .i64 key]]) : PCp 68 [.c (.lst 1 (l.map encI)), .c (.fn g [.ptr 0 0])] [.box [.int .i64 key]] (.c (.int .i64 (idxP p l))) [.box [.int .i64 key]] := by
  have hlm : (l.map encI).length = l.length := List.length_map ..
  refine fn_sound (mt := mts) tab_fits tab_mixed Tryz.func68 (by rfl) (by kernel_rfl) (by kernel_rfl) Tryz.results68 (Nat.le_of_ble_eq_true (by kernel_rfl)) ?_
  conv => whnf
  refine loop_count (l.length) [] [0, 1, 7, 8] (fun k (_ : Unit) => ⟨[(0, .c (.lst 1 (l.map encI))), (1, .c (.fn g [.ptr 0 0])), (7, .c (.int .i64 (l.map encI).length)), (8, .c (.int .i64 k))], [(0, .box [.int .i64 key])], 1⟩) (fun k (_ : Unit) => ∀ i (hi : i < l.length), i < k → p l[i] = false) (()) ?_ ?_ ?_
  · conv => whnf
    exact ⟨rfl, by intro i hi h; omega⟩
  · intro k _ hk hi
    conv => whnf
    repeat' (first | ((first | refine Split.mk (fun h => ?_) (fun h => ?_) | refine CondG.mk (fun h => ?_) (fun h => ?_)) <;> (try simp only [decide_eq_true_eq, decide_eq_false_iff_not, Bool.not_eq_true', Bool.not_eq_false', beq_iff_eq, beq_eq_false_iff_ne, bne_iff_ne, bne_eq_false_iff_eq] at h) <;> (first | (exfalso; first | omega | exact h trivial) | (conv => whnf))) | (refine CallX.mk _ _ (by first | exact hg l[k] (List.getElem_mem hk)) ?_; conv => whnf) | (refine CallG.mk _ _ (by first | exact hg l[k] (List.getElem_mem hk)) ?_; conv => whnf) | (refine Ask.mk (by first | omega | (unfold roomOK; simp [cutRows]; done) | (unfold roomOK; simp [cutRows]; omega) | (simp [cutRows]; done) | (simp [cutRows]; omega)) ?_; conv => whnf) | (refine AppG.mk (by first | omega | (unfold roomOK; simp [cutRows]; done) | (unfold roomOK; simp [cutRows]; omega) | (simp [cutRows]; done) | (simp [cutRows]; omega)) ?_; conv => whnf) | (refine SliceG.fr ?_; conv => whnf) | (refine idx_at _ (by with_reducible rfl) (by first | assumption | omega) ?_; conv => whnf) | ((with_reducible refine row_map (by first | assumption | omega) ?_); conv => whnf) | ((with_reducible refine row_set (by first | assumption | omega | (simp only [List.length_set]; omega) | (simp; omega)) ?_); conv => whnf) | fail)
    · exact .mk ⟨by rw [idxP_hit hk (fun i hi' => hi i (by omega) hi') h]; rfl, rfl⟩
    · refine count_next () hk (by rw [wrap_succ hk (by omega)]; rfl) ?_
      exact all_succ' hi h
  · intro _ hi
    conv => whnf
    repeat' (first | ((first | refine Split.mk (fun h => ?_) (fun h => ?_) | refine CondG.mk (fun h => ?_) (fun h => ?_)) <;> (try simp only [decide_eq_true_eq, decide_eq_false_iff_not, Bool.not_eq_true', Bool.not_eq_false', beq_iff_eq, beq_eq_false_iff_ne] at h) <;> (first | (exfalso; first | omega | exact h trivial) | (conv => whnf))) | (refine Ask.mk (by first | omega | (unfold roomOK; simp [cutRows]; done) | (unfold roomOK; simp [cutRows]; omega)) ?_; conv => whnf) | (refine AppG.mk (by first | omega | (unfold roomOK; simp [cutRows]; done) | (unfold roomOK; simp [cutRows]; omega)) ?_; conv => whnf) | (refine SliceG.fr ?_; conv => whnf) | fail)
    exact .mk ⟨by rw [idxP_miss (fun i h => hi i h h)]; rfl, rfl⟩
set_option maxRecDepth 100000 in
set_option maxHeartbeats 4000000 in
theorem ixIKC_pc (key : Int) (g : Nat) (p : Int → Bool) (l : List Int) (hl : l.length ≤ 1000000) (hg : ∀ x ∈ l, PCp g [.c (.int .i64 x), .c (.ptr 0 0)] [.box [.int .i64 key]] (.c (.bool (p x))) [.box [.int .i64 key]]) : PCp 32 [.c (.lst 1 (l.map encI)), .c (.fn g [.ptr 0 0])] [.box [.int .i64 key]] (.c (.bool (l.any p))) [.box [.int .i64 key]] := by
  refine fn_sound (mt := mts) tab_fits tab_mixed Tryz.func32 (by rfl) (by kernel_rfl) (by kernel_rfl) Tryz.results32 (Nat.le_of_ble_eq_true (by kernel_rfl)) ?_
  conv => whnf
  repeat' (first | ((first | refine Split.mk (fun h => ?_) (fun h => ?_) | refine CondG.mk (fun h => ?_) (fun h => ?_)) <;> (try simp only [decide_eq_true_eq, decide_eq_false_iff_not, Bool.not_eq_true', Bool.not_eq_false', beq_iff_eq, beq_eq_false_iff_ne] at h) <;> (first | (exfalso; first | omega | exact h trivial) | (conv => whnf))) | (refine CallX.mk _ _ (by first | exact ixIK_pc key g p l hl hg) ?_; conv => whnf) | (refine CallG.mk _ _ (by first | exact ixIK_pc key g p l hl hg) ?_; conv => whnf) | (refine Ask.mk (by first | omega | (unfold roomOK; simp [cutRows]; done) | (unfold roomOK; simp [cutRows]; omega)) ?_; conv => whnf) | (refine AppG.mk (by first | omega | (unfold roomOK; simp [cutRows]; done) | (unfold roomOK; simp [cutRows]; omega)) ?_; conv => whnf) | (refine SliceG.fr ?_; conv => whnf) | fail)
  exact .mk ⟨by rw [← idxP_any]; rfl, rfl⟩
set_option maxRecDepth 100000 in
set_option maxHeartbeats 4000000 in
theorem room1_pc (n inner : Int) : PCp 184 [.c (.int .i64 n), .c (.ptr 0 0)] [.box [.int .i64 inner]] (.c (.bool (decide (inner < n)))) [.box [.int .i64 inner]] := by
  refine fn_sound (mt := mts) tab_fits tab_mixed Tryz.func184 (by rfl) (by kernel_rfl) (by kernel_rfl) Tryz.results184 (Nat.le_of_ble_eq_true (by kernel_rfl)) ?_
  conv => whnf
  repeat' (first | ((first | refine Split.mk (fun h => ?_) (fun h => ?_) | refine CondG.mk (fun h => ?_) (fun h => ?_)) <;> (try simp only [decide_eq_true_eq, decide_eq_false_iff_not, Bool.not_eq_true', Bool.not_eq_false', beq_iff_eq, beq_eq_false_iff_ne, bne_iff_ne, bne_eq_false_iff_eq] at h) <;> (first | (exfalso; first | omega | exact h trivial) | (conv => whnf))) | (refine Ask.mk (by first | omega | (unfold roomOK; simp [cutRows]; done) | (unfold roomOK; simp [cutRows]; omega) | (simp [cutRows]; done) | (simp [cutRows]; omega)) ?_; conv => whnf) | (refine AppG.mk (by first | omega | (unfold roomOK; simp [cutRows]; done) | (unfold roomOK; simp [cutRows]; omega) | (simp [cutRows]; done) | (simp [cutRows]; omega)) ?_; conv => whnf) | (refine SliceG.fr ?_; conv => whnf) | (refine idx_at _ (by with_reducible rfl) (by first | assumption | omega) ?_; conv => whnf) | ((with_reducible refine row_map (by first | assumption | omega) ?_); conv => whnf) | ((with_reducible refine row_set (by first | assumption | omega | (simp only [List.length_set]; omega) | (simp; omega)) ?_); conv => whnf) | fail)
  exact .mk ⟨rfl, rfl⟩
set_option maxRecDepth 100000 in
set_option maxHeartbeats 4000000 in
theorem part_pc (n : Nat) : PCp 183 [.c (.int .i64 (n : Int))] [] (.c (.int .i64 (partV n))) [] := by
  refine fn_sound (mt := mts) tab_fits tab_mixed Tryz.func183 (by rfl) (by kernel_rfl) (by kernel_rfl) Tryz.results183 (Nat.le_of_ble_eq_true (by kernel_rfl)) ?_
  conv => whnf
  repeat' (first | ((first | refine Split.mk (fun h => ?_) (fun h => ?_) | refine CondG.mk (fun h => ?_) (fun h => ?_)) <;> (try simp only [decide_eq_true_eq, decide_eq_false_iff_not, Bool.not_eq_true', Bool.not_eq_false', beq_iff_eq, beq_eq_false_iff_ne, bne_iff_ne, bne_eq_false_iff_eq] at h) <;> (first | (exfalso; first | omega | exact h trivial) | (conv => whnf))) | (refine Ask.mk (by first | omega | (unfold roomOK; simp [cutRows]; done) | (unfold roomOK; simp [cutRows]; omega) | (simp [cutRows]; done) | (simp [cutRows]; omega)) ?_; conv => whnf) | (refine AppG.mk (by first | omega | (unfold roomOK; simp [cutRows]; done) | (unfold roomOK; simp [cutRows]; omega) | (simp [cutRows]; done) | (simp [cutRows]; omega)) ?_; conv => whnf) | (refine SliceG.fr ?_; conv => whnf) | (refine idx_at _ (by with_reducible rfl) (by first | assumption | omega) ?_; conv => whnf) | ((with_reducible refine row_map (by first | assumption | omega) ?_); conv => whnf) | ((with_reducible refine row_set (by first | assumption | omega | (simp only [List.length_set]; omega) | (simp; omega)) ?_); conv => whnf) | fail)
  all_goals refine fini ?_
  all_goals unfold partV
  all_goals repeat' split
  all_goals omega
theorem partV_in (n : Nat) : 31 ≤ partV n ∧ partV n ≤ 53 := by
  unfold partV
  repeat' split
  all_goals omega
theorem room_w {inner : Int} {l : List Int} (hi : 1 ≤ inner ∧ inner ≤ 1000) (hl : l.length ≤ 100000) (ho : ∀ x ∈ l, 0 ≤ x ∧ x ≤ 1000) : IntKind.i64.wrap (100 * sqV l) = 100 * sqV l ∧ IntKind.i64.wrap (IntKind.i64.wrap (partV l.length * inner) * inner) = partV l.length * inner * inner ∧ 0 ≤ partV l.length * inner * inner := by
  have h1 := sq_in ho
  have h2 := partV_in l.length
  have h3 : 0 ≤ partV l.length * inner := Int.mul_nonneg (by omega) (by omega)
  have h4 : partV l.length * inner ≤ 53 * 1000 := Int.mul_le_mul (by omega) (by omega) (by omega) (by omega)
  have h5 : 0 ≤ partV l.length * inner * inner := Int.mul_nonneg h3 (by omega)
  have h6 : partV l.length * inner * inner ≤ 53000 * 1000 := Int.mul_le_mul (by omega) (by omega) (by omega) (by omega)
  refine ⟨wrap_in (by omega) (by omega), ?_, h5⟩
  rw [wrap_in (x := partV l.length * inner) (by omega) (by omega), wrap_in (by omega) (by omega)]
set_option maxRecDepth 100000 in
set_option maxHeartbeats 4000000 in
theorem dRoom_pc (inner : Int) (l : List Int) (hi : 1 ≤ inner ∧ inner ≤ 1000) (hl : l.length ≤ 100000) (ho : ∀ x ∈ l, 0 ≤ x ∧ x ≤ 1000) : PCp 150 [.c (.int .i64 inner), .c (.lst 1 (l.map encI))] [] (.c (.bool (roomB inner l))) [] := by
  have hlm : (l.map encI).length = l.length := List.length_map ..
  obtain ⟨w1, w2, _⟩ := room_w hi hl ho
  refine fn_sound (mt := mts) tab_fits tab_mixed Tryz.func150 (by rfl) (by kernel_rfl) (by kernel_rfl) Tryz.results150 (Nat.le_of_ble_eq_true (by kernel_rfl)) ?_
  conv => whnf
  repeat' (first | ((first | refine Split.mk (fun h => ?_) (fun h => ?_) | refine CondG.mk (fun h => ?_) (fun h => ?_)) <;> (try simp only [decide_eq_true_eq, decide_eq_false_iff_not, Bool.not_eq_true', Bool.not_eq_false', beq_iff_eq, beq_eq_false_iff_ne, bne_iff_ne, bne_eq_false_iff_eq] at h) <;> (first | (exfalso; first | omega | exact h trivial) | (conv => whnf))) | (refine CallX.mk _ _ (by first | exact dSquares_pc l ho (by omega) | exact (by rw [hlm]; exact part_pc l.length) | exact ixIKC_pc inner 184 (fun n => decide (inner < n)) l (by omega) (fun x _ => room1_pc x inner)) ?_; conv => whnf) | (refine CallG.mk _ _ (by first | exact dSquares_pc l ho (by omega) | exact (by rw [hlm]; exact part_pc l.length) | exact ixIKC_pc inner 184 (fun n => decide (inner < n)) l (by omega) (fun x _ => room1_pc x inner)) ?_; conv => whnf) | (refine Ask.mk (by first | omega | (unfold roomOK; simp [cutRows]; done) | (unfold roomOK; simp [cutRows]; omega) | (simp [cutRows]; done) | (simp [cutRows]; omega)) ?_; conv => whnf) | (refine AppG.mk (by first | omega | (unfold roomOK; simp [cutRows]; done) | (unfold roomOK; simp [cutRows]; omega) | (simp [cutRows]; done) | (simp [cutRows]; omega)) ?_; conv => whnf) | (refine SliceG.fr ?_; conv => whnf) | (refine idx_at _ (by with_reducible rfl) (by first | assumption | omega) ?_; conv => whnf) | ((with_reducible refine row_map (by first | assumption | omega) ?_); conv => whnf) | ((with_reducible refine row_set (by first | assumption | omega | (simp only [List.length_set]; omega) | (simp; omega)) ?_); conv => whnf) | fail)
  all_goals rw [w1, w2] at *
  · refine finb ?_
    unfold roomB; rw [decide_eq_true h, Bool.true_and]
  · refine finb ?_
    unfold roomB; rw [decide_eq_false h, Bool.false_and]
set_option maxRecDepth 100000 in
set_option maxHeartbeats 4000000 in
theorem dMost_pc (x : Du) (all : List Int) (outer : Int) (hi : 1 ≤ x.inner ∧ x.inner ≤ 1000) (hl : all.length ≤ 20) (ho : ∀ y ∈ all, 0 ≤ y ∧ y ≤ 1000) (hq : 0 ≤ outer ∧ outer ≤ 1000) : PCp 104 [.agg (encDu x), .c (.lst 1 (all.map encI)), .c (.int .i64 outer)] [] (.c (.int .i64 (mostV x.inner all outer (20 - all.length) : Nat))) [] := by
  have hlm : (all.map encI).length = all.length := List.length_map ..
  have hin : ∀ n, ∀ y ∈ all ++ List.replicate n outer, 0 ≤ y ∧ y ≤ 1000 := by
    intro n y hy
    rcases List.mem_append.1 hy with h | h
    · exact ho y h
    · rw [(List.mem_replicate.1 h).2]; exact hq
  have hw : IntKind.i64.wrap (20 - ((all.map encI).length : Nat)) = ((20 - all.length : Nat) : Int) := by rw [hlm, wrap_in (by omega) (by omega)]; omega
  refine fn_sound (mt := mts) tab_fits tab_mixed Tryz.func104 (by rfl) (by kernel_rfl) (by kernel_rfl) Tryz.results104 (Nat.le_of_ble_eq_true (by kernel_rfl)) ?_
  conv => whnf
  rw [hw]
  refine loop_while (fun (n : Nat) => n) [] [1, 2, 3, 7] (fun (n : Nat) => [(7, .c (.int .i64 (n : Int)))]) (fun (n : Nat) => []) (fun (n : Nat) => n ≤ 20 - all.length ∧ mostV x.inner all outer n = mostV x.inner all outer (20 - all.length)) (20 - all.length) ?_
  conv => whnf
  refine ⟨(by first | rfl | (simp; done) | (simp; rfl)), ?_, ?_⟩
  · exact ⟨Nat.le_refl _, rfl⟩
  · intro n ⟨h1, h2⟩
    conv => whnf
    repeat' (first | ((first | refine Split.mk (fun h => ?_) (fun h => ?_) | refine CondG.mk (fun h => ?_) (fun h => ?_)) <;> (try simp only [decide_eq_true_eq, decide_eq_false_iff_not, Bool.not_eq_true', Bool.not_eq_false', beq_iff_eq, beq_eq_false_iff_ne, bne_iff_ne, bne_eq_false_iff_eq] at h) <;> (first | (exfalso; first | omega | exact h trivial) | (conv => whnf))) | (refine CallX.mk _ _ (by first | exact cloneI_pc all (by omega)) ?_; conv => whnf) | (refine CallG.mk _ _ (by first | exact cloneI_pc all (by omega)) ?_; conv => whnf) | (refine Ask.mk (by first | omega | (unfold roomOK; simp [cutRows]; done) | (unfold roomOK; simp [cutRows]; omega) | (simp [cutRows]; done) | (simp [cutRows]; omega)) ?_; conv => whnf) | (refine AppG.mk (by first | omega | (unfold roomOK; simp [cutRows]; done) | (unfold roomOK; simp [cutRows]; omega) | (simp [cutRows]; done) | (simp [cutRows]; omega)) ?_; conv => whnf) | (refine SliceG.fr ?_; conv => whnf) | (refine idx_at _ (by with_reducible rfl) (by first | assumption | omega) ?_; conv => whnf) | ((with_reducible refine row_map (by first | assumption | omega) ?_); conv => whnf) | ((with_reducible refine row_set (by first | assumption | omega | (simp only [List.length_set]; omega) | (simp; omega)) ?_); conv => whnf) | fail)
    · obtain ⟨m, rfl⟩ : ∃ m, n = m + 1 := ⟨n - 1, by omega⟩
      have hlr : ∀ k, k ≤ m + 1 → (all ++ List.replicate k outer).length ≤ 100 := by intro k hk; simp; omega
      refine loop_for (m + 1) [] [1, 2, 3, 7, 8, 18, 19] (fun k (_ : Unit) => [(19, .c (.int .i64 (k : Int)))]) (fun k (_ : Unit) => [(1, .row 3 1 ((all ++ List.replicate k outer).map encI))]) (fun k (_ : Unit) => True) (()) ?_
      conv => whnf
      refine ⟨(by first | rfl | (simp; done) | (simp; rfl)), (by trivial), ?_, ?_⟩
      · intro k _ hk _
        have h3 := hlr k (by omega)
        have h4 : ((all ++ List.replicate k outer).map encI).length ≤ 100 := by rw [List.length_map]; exact h3
        conv => whnf
        repeat' (first | ((first | refine Split.mk (fun h => ?_) (fun h => ?_) | refine CondG.mk (fun h => ?_) (fun h => ?_)) <;> (try simp only [decide_eq_true_eq, decide_eq_false_iff_not, Bool.not_eq_true', Bool.not_eq_false', beq_iff_eq, beq_eq_false_iff_ne, bne_iff_ne, bne_eq_false_iff_eq] at h) <;> (first | (exfalso; first | omega | exact h trivial) | (conv => whnf))) | (refine Ask.mk (by first | omega | (unfold roomOK; simp [cutRows]; done) | (unfold roomOK; simp [cutRows]; omega) | (simp [cutRows]; done) | (simp [cutRows]; omega)) ?_; conv => whnf) | (refine AppG.mk (by first | omega | (unfold roomOK; simp [cutRows]; done) | (unfold roomOK; simp [cutRows]; omega) | (simp [cutRows]; done) | (simp [cutRows]; omega)) ?_; conv => whnf) | (refine SliceG.fr ?_; conv => whnf) | (refine idx_at _ (by with_reducible rfl) (by first | assumption | omega) ?_; conv => whnf) | ((with_reducible refine row_map (by first | assumption | omega) ?_); conv => whnf) | ((with_reducible refine row_set (by first | assumption | omega | (simp only [List.length_set]; omega) | (simp; omega)) ?_); conv => whnf) | fail)
        exact count_next () hk (by rw [wrap_succ hk (by omega), List.replicate_succ', ← List.append_assoc, List.map_append (l₁ := all ++ List.replicate k outer)]; rfl) trivial
      · intro _ _
        have h3 := hlr (m + 1) (by omega)
        have hR := dRoom_pc x.inner (all ++ List.replicate (m + 1) outer) hi (by omega) (hin _)
        conv => whnf
        repeat' (first | ((first | refine Split.mk (fun h => ?_) (fun h => ?_) | refine CondG.mk (fun h => ?_) (fun h => ?_)) <;> (try simp only [decide_eq_true_eq, decide_eq_false_iff_not, Bool.not_eq_true', Bool.not_eq_false', beq_iff_eq, beq_eq_false_iff_ne, bne_iff_ne, bne_eq_false_iff_eq] at h) <;> (first | (exfalso; first | omega | exact h trivial) | (conv => whnf))) | (refine CallX.mk _ _ (by first | exact hR) ?_; conv => whnf) | (refine CallG.mk _ _ (by first | exact hR) ?_; conv => whnf) | (refine Ask.mk (by first | omega | (unfold roomOK; simp [cutRows]; done) | (unfold roomOK; simp [cutRows]; omega) | (simp [cutRows]; done) | (simp [cutRows]; omega)) ?_; conv => whnf) | (refine AppG.mk (by first | omega | (unfold roomOK; simp [cutRows]; done) | (unfold roomOK; simp [cutRows]; omega) | (simp [cutRows]; done) | (simp [cutRows]; omega)) ?_; conv => whnf) | (refine SliceG.fr ?_; conv => whnf) | (refine idx_at _ (by with_reducible rfl) (by first | assumption | omega) ?_; conv => whnf) | ((with_reducible refine row_map (by first | assumption | omega) ?_); conv => whnf) | ((with_reducible refine row_set (by first | assumption | omega | (simp only [List.length_set]; omega) | (simp; omega)) ?_); conv => whnf) | fail)
        · exact fini (by rw [← h2, mostV, if_pos h])
        · exact meas_next m (by omega) (by rw [show IntKind.i64.wrap (((m + 1 : Nat) : Int) - 1) = (m : Int) by rw [wrap_in (by omega) (by omega)]; omega]; rfl) ⟨by omega, by rw [← h2, mostV, if_neg (by rw [h]; decide)]⟩
    · have : n = 0 := by omega
      subst this
      exact fini (by rw [← h2]; rfl)
def twoE (d : List Du) (l : List Ly) (k : ByteArray) (outer : Int) : Int := if oneE d l k ≠ 0 then oneE d l k else if outer < 1 ∨ 1000 < outer then 1 else 0
theorem twoE_ok {d : List Du} {l : List Ly} {k : ByteArray} {outer : Int} (h : twoE d l k outer = 0) : oneE d l k = 0 ∧ 0 ≤ outer ∧ outer ≤ 1000 ∧ duV d l k = duG d k := by
  unfold twoE at h
  split at h
  · exact absurd h (by assumption)
  · split at h
    · omega
    · have h1 : oneE d l k = 0 := by omega
      exact ⟨h1, by omega, by omega, by rw [duV, if_pos h1]⟩
theorem twoE_first (d : List Du) (l : List Ly) (k : ByteArray) (outer : Int) : firstErr [oneE d l k, if outer < 1 ∨ 1000 < outer then 1 else 0] = twoE d l k outer := by
  unfold twoE firstErr firstErr firstErr
  repeat' split
  all_goals omega
def mostX (d : List Du) (l : List Ly) (k : ByteArray) (outer : Int) : Nat := if twoE d l k outer = 0 then mostV (duG d k).inner (outV l k) outer (20 - (outV l k).length) else 0
set_option maxRecDepth 100000 in
set_option maxHeartbeats 4000000 in
theorem dMostX_pc (d : List Du) (l : List Ly) (hx : ∀ x ∈ l, x.ducts.length ≤ 1000000) (k : ByteArray) (outer : Int) : PCp 61 [.c (.lst 5 (d.map encDu)), .c (.lst 3 (l.map encLy)), .c (.str k), .c (.int .i64 outer)] [] (.tup [.c (.int .i64 (mostX d l k outer : Nat)), .c (.int .i64 (twoE d l k outer))]) [] := by
  refine fn_sound (mt := mts) tab_fits tab_mixed Tryz.func61 (by rfl) (by kernel_rfl) (by kernel_rfl) Tryz.results61 (Nat.le_of_ble_eq_true (by kernel_rfl)) ?_
  conv => whnf
  repeat' (first | ((first | refine Split.mk (fun h => ?_) (fun h => ?_) | refine CondG.mk (fun h => ?_) (fun h => ?_)) <;> (try simp only [decide_eq_true_eq, decide_eq_false_iff_not, Bool.not_eq_true', Bool.not_eq_false', beq_iff_eq, beq_eq_false_iff_ne, bne_iff_ne, bne_eq_false_iff_eq] at h) <;> (first | (exfalso; first | omega | exact h trivial) | (conv => whnf))) | (refine CallX.mk _ _ (by first | exact ductOf_pc d l hx k | exact dOuterFault_pc outer | exact first_pc [oneE d l k, if outer < 1 ∨ 1000 < outer then 1 else 0] (by simp)) ?_; conv => whnf) | (refine CallG.mk _ _ (by first | exact ductOf_pc d l hx k | exact dOuterFault_pc outer | exact first_pc [oneE d l k, if outer < 1 ∨ 1000 < outer then 1 else 0] (by simp)) ?_; conv => whnf) | (refine Ask.mk (by first | omega | (unfold roomOK; simp [cutRows]; done) | (unfold roomOK; simp [cutRows]; omega) | (simp [cutRows]; done) | (simp [cutRows]; omega)) ?_; conv => whnf) | (refine AppG.mk (by first | omega | (unfold roomOK; simp [cutRows]; done) | (unfold roomOK; simp [cutRows]; omega) | (simp [cutRows]; done) | (simp [cutRows]; omega)) ?_; conv => whnf) | (refine SliceG.fr ?_; conv => whnf) | (refine idx_at _ (by with_reducible rfl) (by first | assumption | omega) ?_; conv => whnf) | ((with_reducible refine row_map (by first | assumption | omega) ?_); conv => whnf) | ((with_reducible refine row_set (by first | assumption | omega | (simp only [List.length_set]; omega) | (simp; omega)) ?_); conv => whnf) | fail)
  all_goals rw [twoE_first] at *
  · exact .mk ⟨by rw [mostX, if_neg h]; rfl, rfl⟩
  have h : twoE d l k outer = 0 := by simpa using h
  obtain ⟨h1, h2, h3, h4⟩ := twoE_ok h
  obtain ⟨hok, hk, hf⟩ := oneE_ok h1
  obtain ⟨hm, _⟩ := duG_in hok.du hk
  have hi := hok.du.each _ hm
  have hll := hok.len
  rw [h4]
  repeat' (first | ((first | refine Split.mk (fun h => ?_) (fun h => ?_) | refine CondG.mk (fun h => ?_) (fun h => ?_)) <;> (try simp only [decide_eq_true_eq, decide_eq_false_iff_not, Bool.not_eq_true', Bool.not_eq_false', beq_iff_eq, beq_eq_false_iff_ne, bne_iff_ne, bne_eq_false_iff_eq] at h) <;> (first | (exfalso; first | omega | exact h trivial) | (conv => whnf))) | (refine CallX.mk _ _ (by first | exact dOuters_pc l (by omega) hok.rl k | exact dMost_pc (duG d k) (outV l k) outer (by omega) (hok.out20 hk) (hok.o1000 k) ⟨h2, h3⟩) ?_; conv => whnf) | (refine CallG.mk _ _ (by first | exact dOuters_pc l (by omega) hok.rl k | exact dMost_pc (duG d k) (outV l k) outer (by omega) (hok.out20 hk) (hok.o1000 k) ⟨h2, h3⟩) ?_; conv => whnf) | (refine Ask.mk (by first | omega | (unfold roomOK; simp [cutRows]; done) | (unfold roomOK; simp [cutRows]; omega) | (simp [cutRows]; done) | (simp [cutRows]; omega)) ?_; conv => whnf) | (refine AppG.mk (by first | omega | (unfold roomOK; simp [cutRows]; done) | (unfold roomOK; simp [cutRows]; omega) | (simp [cutRows]; done) | (simp [cutRows]; omega)) ?_; conv => whnf) | (refine SliceG.fr ?_; conv => whnf) | (refine idx_at _ (by with_reducible rfl) (by first | assumption | omega) ?_; conv => whnf) | ((with_reducible refine row_map (by first | assumption | omega) ?_); conv => whnf) | ((with_reducible refine row_set (by first | assumption | omega | (simp only [List.length_set]; omega) | (simp; omega)) ?_); conv => whnf) | fail)
  exact .mk ⟨by rw [mostX, if_pos h, h]; rfl, rfl⟩
end Go.Proofs.YtobcplhaabaemaaGreat

/- Go's sort of strings, by the kit's contract of it, as a contract of the abstract walk. -/
namespace Go.Proofs.YtobcplhaabaemaaGreat
set_option linter.unusedVariables false
set_option linter.unusedSimpArgs false
open Go.Shelf Go.Sort Go.RowKit
namespace Abs
theorem bytesLess_dec : ∀ (x y : List UInt8), Op.bytesLess x y = decide (x < y)
  | [], [] => by simp [Op.bytesLess]
  | _ :: _, [] => by simp [Op.bytesLess]
  | [], _ :: _ => by simp [Op.bytesLess]
  | a :: x, b :: y => by
    rw [Op.bytesLess, bytesLess_dec x y]
    simp only [List.cons_lt_cons_iff]
    by_cases h1 : a < b <;> by_cases h2 : a = b <;> by_cases h3 : x < y <;> simp [h1, h2, h3]
theorem le_ltL {x y : List UInt8} : decide (x ≤ y) = !Op.bytesLess y x := by
  rw [bytesLess_dec, Bool.eq_iff_iff]
  simp only [decide_eq_true_eq, Bool.not_eq_true', decide_eq_false_iff_not]
  exact Iff.rfl
def unS (x : List UInt8) : ByteArray := ⟨x.toArray⟩
theorem unS_list (x : List UInt8) : (unS x).toList = x := by rw [ByteArray.toList_eq]; rfl
theorem unS_data (b : ByteArray) : unS b.data.toList = b := by cases b; rfl
theorem mergeS_eq (l : List ByteArray) : (((l.map fun b => b.data.toList).mergeSort fun x y => decide (x ≤ y)).map unS) = insSort cmpS l := by
  have hp : (((l.map fun b => b.data.toList).mergeSort fun x y => decide (x ≤ y)).map unS).Perm l := by
    have h1 := (List.mergeSort_perm (l.map fun b => b.data.toList) (fun x y => decide (x ≤ y))).map unS
    rw [List.map_map] at h1
    have h2 : l.map (unS ∘ fun b => b.data.toList) = l := by
      conv => rhs; rw [← List.map_id l]
      apply List.map_congr_left
      intro x _
      exact unS_data x
    rwa [h2] at h1
  have hs := List.pairwise_mergeSort (le := fun x y : List UInt8 => decide (x ≤ y)) (by
    intro a b c h1 h2
    rw [le_ltL] at *
    simp only [Bool.not_eq_true'] at *
    rcases ltL_tri c a with h3 | h3 | h3
    · rcases ltL_tri b c with h4 | h4 | h4
      · rw [ltL_trans h4 h3] at h1; cases h1
      · subst h4; rw [h3] at h1; cases h1
      · rw [h4] at h2; cases h2
    · subst h3; exact ltL_irr _
    · cases h5 : Op.bytesLess c a with
      | false => rfl
      | true => have := ltL_trans h3 h5; rw [ltL_irr] at this; cases this) (by
    intro a b
    rw [le_ltL, le_ltL]
    rcases ltL_tri a b with h3 | h3 | h3
    · cases h5 : Op.bytesLess b a with
      | false => rfl
      | true => have := ltL_trans h3 h5; rw [ltL_irr] at this; cases this
    · subst h3; rw [ltL_irr]; rfl
    · cases h5 : Op.bytesLess a b with
      | false => simp
      | true => have := ltL_trans h3 h5; rw [ltL_irr] at this; cases this) (l.map fun b => b.data.toList)
  refine sorted_one (c := cmpS) (swo_key id) ?_ (hp.trans (insSort_perm cmpS l).symm) ?_ (insSort_srt (swo_key id) l)
  · intro x y h1 h2
    rw [cmp_lt] at h1 h2
    rcases ltB_tri x y with h | h | h
    · exact (h1 h).elim
    · exact h
    · exact (h2 h).elim
  · rw [List.pairwise_map]
    refine hs.imp ?_
    intro x y h
    rw [le_ltL] at h
    rw [cmp_lt]
    unfold ltB
    rw [unS_list, unS_list]
    simpa using h
variable {P : Program} {ρ : Ren}
theorem strs_flat (l : List ByteArray) : (l.map encS).flatten = l.map V.str := by
  induction l with
  | nil => rfl
  | cons a r ih => rw [List.map_cons, List.flatten_cons, ih]; rfl
theorem sortS_any (L : Lays.n190 P ρ) (hb : ∃ fn, P.funcs[ρ.f 190]? = some fn ∧ (fn.name == "runtime.NumGoroutine") = false ∧ fn.body.isNone = false) (e : Nat) (l : List ByteArray) (hl : l.length < 1000000000000) :
    PCs P (ρ.f 190) [.c (.row 0)] [.row e 1 (l.map encS)] (.tup []) [.row e 1 ((insSort cmpS l).map encS)] := by
  refine ⟨hb, fun F φ w cargs hargs hobj hφ => ?_⟩
  obtain ⟨c0, cs1, e1, r0, hargs⟩ := hargs.cons_inv
  have e3 := hargs.nil_inv
  subst e3
  have hφ0 : φ 0 = some c0 := by
    cases r0 with | c h => cases h with
      | tree h => cases h
      | row _ _ h => exact h
  have hca : cargs = #[c0] := Array.ext' e1
  subst hca
  have hob : nth [Ob.row e 1 (l.map encS)] 0 = some (.row e 1 (l.map encS)) := rfl
  have ho := hobj.objs 0 _ hob
  have zero : ∀ (p : Option Addr) (cap : Nat), l = [] → c0 = .slice p 0 cap → Calls P (ρ.f 190) #[c0] w fun ee w' => ∃ cc F' φ' r objs', (one (.tup []) [.row e 1 ((insSort cmpS l).map encS)]) r objs' ∧ ee = .returned cc ∧ RS F' φ' w' cc r ∧ Nx F φ w (nth [Ob.row e 1 (l.map encS)]) (fun l_1 => [Ob.row e 1 (l.map encS)].length ≤ l_1) (chOf 0 objs') F' φ' w' := by
    intro p cap h0 hc0
    subst h0 hc0
    refine (Any.slices_Sort_string_none L p cap w).mono ?_
    rintro ee w' ⟨rfl, rfl⟩
    exact ⟨.tuple #[], F, φ, .tup [], [.row e 1 []], ⟨rfl, rfl⟩, rfl, .tup _ _ rfl (fun j c x h => by simp at h), Nx.same hobj⟩
  rcases ho with ⟨cv, xs, h1, h2, ⟨⟨hxl, hown⟩, hroomy⟩, h4, h5⟩ | ⟨h0, p, h1⟩
  · rw [hφ0] at h1; cases h1
    rcases hown with ⟨hv, hn0⟩ | ⟨gb, cap, cur, hv, _, hh, hcap, hmx, hcs, htk⟩
    · exact zero none 0 (by simpa using hn0) hv
    · rcases Nat.eq_zero_or_pos l.length with hn | hn
      · exact zero (some ⟨gb, 0, none⟩) cap (List.length_eq_zero_iff.1 hn) (by rw [hv]; simp [hn])
      · subst hv
        simp only [List.length_map, Nat.mul_one] at *
        have hFb : ¬ F gb := h2 gb (by cases cap with | zero => omega | succ => rfl)
        have hxs : xs = l.map fun b => Value.string b := by
          rw [strs_flat] at h4
          apply List.ext_getElem?
          intro j
          by_cases hj : j < l.length
          · have q1 : xs[j]? = some xs[j] := List.getElem?_eq_getElem (by rw [hxl]; exact hj)
            have q2 : (l.map V.str)[j]? = some (.str l[j]) := by simp [hj]
            have q3 := h4.2 j _ _ q1 q2
            rw [q1]
            have q4 : xs[j] = Value.string l[j] := by
              generalize xs[j] = z at q3
              cases q3; rfl
            rw [q4]; simp [hj]
          · rw [List.getElem?_eq_none (by omega), List.getElem?_eq_none (by simp; omega)]
        have hcell : ∀ j (hj : j < l.length), cur[j]? = some (Value.string l[j]) := by
          intro j hj
          have q1 : (cur.toList.take l.length)[j]? = xs[j]? := by rw [htk]
          rw [List.getElem?_take, if_pos hj, Array.getElem?_toList] at q1
          rw [q1, hxs]; simp [hj]
        let ss : List (List UInt8) := l.map fun b => b.data.toList
        have hss : ss.length = l.length := by simp [ss]
        have hH : Holds encStr w gb 0 ss.toArray := by
          intro j hj
          have hj' : j < l.length := by simpa [ss] using hj
          have hg : (ss.toArray)[j]! = l[j].data.toList := by
            rw [getElem!_pos _ j hj]; simp [ss]
          refine ⟨?_, ?_⟩
          · rw [hg]
            simp only [World.cell?, hh, Nat.zero_add, Option.isSome_none, Bool.false_eq_true, if_false, hcell j hj', encStr]
          · simp [World.frozen?, hh]
        have hblk : gb < w.heap.size := lt_heap hh
        have hS := Any.slices_Sort_string L gb 0 cap ss w hH hblk (by rw [hss]; omega)
        rw [hss] at hS
        refine hS.mono ?_
        rintro ee w' ⟨rfl, m, os, rfl⟩
        have hS2 := mergeS_eq l
        generalize hM : (ss.mergeSort fun x y => decide (x ≤ y)) = M at *
        have hM' : M.map unS = insSort cmpS l := by rw [← hS2]
        have hMl : M.length = l.length := by rw [← hM, List.length_mergeSort, hss]
        have hheap : ∀ b, b < w.heap.size → (grow (putRow encStr (Sort.ahead w m) gb 0 M.toArray) os).heap[b]? = if b = gb then some (.cells (putCells encStr 0 M.toArray cur) e (0, 0)) else w.heap[b]? := by
          intro b hb
          unfold grow putRow mapBlock Sort.ahead
          simp only
          rw [Array.getElem?_append_left (by simpa using hb), Array.getElem?_modify]
          by_cases e4 : gb = b
          · subst e4; rw [if_pos rfl, if_pos rfl, hh]; rfl
          · rw [if_neg e4, if_neg (fun h => e4 h.symm)]
        have hsize : w.heap.size ≤ (grow (putRow encStr (Sort.ahead w m) gb 0 M.toArray) os).heap.size := by
          unfold grow putRow mapBlock Sort.ahead
          simp
        have hil := insSort_len cmpS l
        have hro : RO F φ (grow (putRow encStr (Sort.ahead w m) gb 0 M.toArray) os) 0 (.row e 1 ((insSort cmpS l).map encS)) := by
          refine RO.mkrow (xs := (insSort cmpS l).map Value.string) hφ0 h2 ⟨?_, .inr ⟨gb, cap, putCells encStr 0 M.toArray cur, ?_, Nat.zero_le _, ?_, ?_, hmx, ?_, ?_⟩⟩ ?_ ?_
          · simp
          · simp [hil]
          · rw [hheap gb hblk, if_pos rfl]
          · simpa [hil] using hcap
          · simp [putCells, hcs]
          · apply List.ext_getElem?
            intro j
            rw [List.getElem?_take]
            by_cases hj : j < l.length
            · have hjc : j < cur.size := by rw [hcs]; omega
              rw [if_pos (by simpa [hil] using hj)]
              have hMj : j < M.length := by omega
              have hIj : j < (insSort cmpS l).length := by omega
              have q1 : (insSort cmpS l)[j] = unS M[j] := by simp [← hM']
              simp only [putCells, Array.getElem?_toList, Array.getElem?_mapIdx, Array.getElem?_eq_getElem hjc, Option.map_some, Nat.zero_le, true_and, Nat.zero_add, Nat.sub_zero, List.getElem?_map, List.getElem?_eq_getElem hIj]
              rw [if_pos (by simpa using hMj), q1, getElem!_pos _ _ (by simpa using hMj)]
              simp [encStr, unS]
            · rw [if_neg (by simpa [hil] using hj), List.getElem?_eq_none (by simp [hil]; omega)]
          · rw [strs_flat]
            refine ⟨by simp, fun j x y hx hy => ?_⟩
            rw [List.getElem?_map] at hx hy
            cases hz : (insSort cmpS l)[j]? with
            | none => rw [hz] at hx; cases hx
            | some z => rw [hz] at hx hy; cases hx; cases hy; exact .str z
          · intro r hr; obtain ⟨x, _, rfl⟩ := List.mem_map.1 hr; rfl
        have hone1 : ∀ l2 o, chGet (chOf 0 [Ob.row e 1 ((insSort cmpS l).map encS)]) l2 = some o → l2 = 0 ∧ o = .row e 1 ((insSort cmpS l).map encS) := by
          intro l2 o h
          rw [chGet_chOf] at h
          simp only [Nat.zero_le, if_true, Nat.sub_zero] at h
          cases l2 with
          | zero => simp only [List.getElem?_cons_zero, Option.some.injEq] at h; exact ⟨rfl, h.symm⟩
          | succ n => simp at h
        have hblk0 : blkOf φ 0 = some gb := by
          unfold blkOf; rw [hφ0]; cases cap with | zero => omega | succ => rfl
        refine ⟨.tuple #[], F, φ, .tup [], [.row e 1 ((insSort cmpS l).map encS)], ⟨rfl, rfl⟩, rfl, .tup _ _ rfl (fun j c x h => by simp at h), ?_⟩
        refine ⟨fun _ h => h, fun _ _ h => h, fun _ _ h => .inl h, rfl, rfl, rfl, fun _ => Nat.le_add_right _ _, hsize, ?_, fun b h => .inl h, ?_, ?_, ?_⟩
        · intro b hb hne
          rw [hheap b hb] at hne
          by_cases e4 : b = gb
          · subst e4; exact ⟨0, _, hob, rfl, hblk0, rfl⟩
          · rw [if_neg e4] at hne; exact (hne rfl).elim
        · intro l2 o h
          obtain ⟨rfl, rfl⟩ := hone1 l2 o h
          exact hro
        · intro l2 o b h h6 h7
          obtain ⟨rfl, rfl⟩ := hone1 l2 o h
          exact .inr ⟨0, _, hob, rfl, h7, rfl⟩
        · intro l2 l3 o o' b h h6 _ _ _ _
          rw [(hone1 l2 o h).1, (hone1 l3 o' h6).1]
  · exact zero _ 0 (by simpa using h0) (by rw [hφ0] at h1; cases h1; rfl)
end Abs
theorem sortG_pc (l : List ByteArray) (hl : l.length < 1000000000000) : PCp 177 [.c (.row 0)] [.row 9 1 (l.map encS)] (.tup []) [.row 9 1 ((insSort cmpS l).map encS)] :=
  Abs.sortS_any laySortS ⟨_, Tryz.func177, by kernel_rfl, by kernel_rfl⟩ _ l hl
end Go.Proofs.YtobcplhaabaemaaGreat

/- Services: what is computed, as functions on lists. -/
namespace Go.Proofs.YtobcplhaabaemaaGreat
set_option linter.unusedVariables false
set_option linter.unusedSimpArgs false
open Abs

structure Sv where
  key : ByteArray
  els : List ByteArray
  cust : Int
/-! what broken elements affect -/
end Go.Proofs.YtobcplhaabaemaaGreat

/- Lists of strings: searched, cut, sorted; what is cut out of a row that is written. -/
namespace Go.Proofs.YtobcplhaabaemaaGreat
set_option linter.unusedVariables false
set_option linter.unusedSimpArgs false
open Abs

theorem idxP_or {α : Type} (p : α → Bool) (l : List α) : (idxP p l = -1 ∧ ∀ x ∈ l, p x = false) ∨ ∃ i0, ∃ h0 : i0 < l.length, idxP p l = ((i0 : Nat) : Int) ∧ p l[i0] = true ∧ ∀ i (hi : i < l.length), i < i0 → p l[i] = false := by
  unfold idxP
  by_cases h : l.any p = true
  · right
    have hlt := List.findIdx_lt_length_of_exists (p := p) (xs := l) (by simpa [List.any_eq_true] using h)
    refine ⟨l.findIdx p, hlt, by rw [if_pos h], List.findIdx_getElem (w := hlt), ?_⟩
    intro i hi hlt
    simpa using List.not_of_lt_findIdx hlt
  · left
    refine ⟨by rw [if_neg h], fun x hx => ?_⟩
    cases hp : p x with
    | false => rfl
    | true => exact absurd (List.any_eq_true.2 ⟨x, hx, hp⟩) h
end Go.Proofs.YtobcplhaabaemaaGreat

/- Services are checked; what is down and up is checked. -/
namespace Go.Proofs.YtobcplhaabaemaaGreat
set_option linter.unusedVariables false
set_option linter.unusedSimpArgs false
open Abs

/-! the number of a service -/
end Go.Proofs.YtobcplhaabaemaaGreat

/- Ducts and cables are made. -/
namespace Go.Proofs.YtobcplhaabaemaaGreat
set_option linter.unusedVariables false
set_option linter.unusedSimpArgs false
open Abs

end Go.Proofs.YtobcplhaabaemaaGreat

/- Cables in ducts are made. -/
namespace Go.Proofs.YtobcplhaabaemaaGreat
set_option linter.unusedVariables false
set_option linter.unusedSimpArgs false
open Abs

end Go.Proofs.YtobcplhaabaemaaGreat

/- Services and elements are made. -/
namespace Go.Proofs.YtobcplhaabaemaaGreat
set_option linter.unusedVariables false
set_option linter.unusedSimpArgs false
open Abs

end Go.Proofs.YtobcplhaabaemaaGreat

/- Suspects. -/
namespace Go.Proofs.YtobcplhaabaemaaGreat
set_option linter.unusedVariables false
set_option linter.unusedSimpArgs false
open Abs

/-- sorted, each once -/
theorem srt_one {a b : List ByteArray} (hp : a.Perm b) : insSort cmpS a = insSort cmpS b := by
  refine sorted_one (c := cmpS) (swo_key id) ?_ ((insSort_perm cmpS a).trans (hp.trans (insSort_perm cmpS b).symm)) (insSort_srt (swo_key id) a) (insSort_srt (swo_key id) b)
  intro x y h1 h2
  rw [cmp_lt] at h1 h2
  rcases ltB_tri x y with h | h | h
  · exact (h1 h).elim
  · exact h
  · exact (h2 h).elim
def risV (m : MB) : List ByteArray := insSort cmpS (ktL m.es)
set_option maxRecDepth 100000 in
set_option maxHeartbeats 4000000 in
theorem fRising_pc (m : MB) (hok : m.ok) (hl : m.es.length ≤ 1000000) : PCp 147 [.c (.mp 0)] [smO ekB evT m] (.c (.lst 1 ((risV m).map encS))) [smO ekB evT m] := by
  refine fn_sound (mt := mts) tab_fits tab_mixed Tryz.func147 (by rfl) (by kernel_rfl) (by kernel_rfl) Tryz.results147 (Nat.le_of_ble_eq_true (by kernel_rfl)) ?_
  conv => whnf
  refine loop_meas (fun (vis : List (Nat × ByteArray × Bool)) => m.es.length - vis.length) [.sl 3 9 1] [3, 7] (fun (vis : List (Nat × ByteArray × Bool)) => ⟨[(3, .c (.row 1)), (7, .c (.ptr 2 0))], [(0, smO ekB evT m), (1, .row 9 1 ((ktL vis.reverse).map encS)), (2, .iter 0 m.clock (vis.map (·.1)))], 3⟩) (fun (vis : List (Nat × ByteArray × Bool)) => Vis m vis) ([]) ?_ ?_
  · conv => whnf
    exact ⟨rfl, Vis.nil _⟩
  · intro vis hv
    have hvl := hv.len
    have hsl := ktL_len vis.reverse
    rw [List.length_reverse] at hsl
    have hslm : ((ktL vis.reverse).map encS).length = (ktL vis.reverse).length := List.length_map ..
    conv => whnf
    refine .mk rfl ?_
    conv => whnf
    refine sm_next hok hv (fun hp => ?_) (fun e he hn hv' hlt => ?_)
    · conv => whnf
      have hpr : (ktL vis.reverse).Perm (ktL m.es) := (((List.reverse_perm vis).trans hp).filter _).map _
      repeat' (first | ((first | refine Split.mk (fun h => ?_) (fun h => ?_) | refine CondG.mk (fun h => ?_) (fun h => ?_)) <;> (try simp only [decide_eq_true_eq, decide_eq_false_iff_not, Bool.not_eq_true', Bool.not_eq_false', beq_iff_eq, beq_eq_false_iff_ne, bne_iff_ne, bne_eq_false_iff_eq] at h) <;> (first | (exfalso; first | omega | exact h trivial) | (conv => whnf))) | (refine CallX.mk _ _ (by first | exact sortG_pc (ktL vis.reverse) (by omega)) ?_; conv => whnf) | (refine CallG.mk _ _ (by first | exact sortG_pc (ktL vis.reverse) (by omega)) ?_; conv => whnf) | (refine Ask.mk (by first | omega | (unfold roomOK; simp [cutRows]; done) | (unfold roomOK; simp [cutRows]; omega) | (simp [cutRows]; done) | (simp [cutRows]; omega)) ?_; conv => whnf) | (refine AppG.mk (by first | omega | (unfold roomOK; simp [cutRows]; done) | (unfold roomOK; simp [cutRows]; omega) | (simp [cutRows]; done) | (simp [cutRows]; omega)) ?_; conv => whnf) | (refine SliceG.fr ?_; conv => whnf) | (refine idx_at _ (by with_reducible rfl) (by first | assumption | omega) ?_; conv => whnf) | ((with_reducible refine row_map (by first | assumption | omega) ?_); conv => whnf) | ((with_reducible refine row_set (by first | assumption | omega | (simp only [List.length_set]; omega) | (simp; omega)) ?_); conv => whnf) | fail)
      have h1 : insSort cmpS (ktL vis.reverse) = risV m := srt_one hpr
      rw [h1]
      first
        | exact .frz 1 _ _ _ rfl (.weak [_, _] (.fro 1 _ _ rfl) rfl (Nat.le_refl _))
        | exact .frz 1 _ _ _ rfl (.weak [_] (.fro 1 _ _ rfl) rfl (Nat.le_refl _))
    · obtain ⟨en, ek, eb⟩ := e
      have h1 : ktL ((en, ek, eb) :: vis).reverse = ktL vis.reverse ++ (if eb then [ek] else []) := by
        cases eb <;> simp [ktL]
      conv => whnf
      refine .mk rfl ?_
      conv => whnf
      refine sm_at hok he ?_
      conv => whnf
      repeat' (first | ((first | refine Split.mk (fun h => ?_) (fun h => ?_) | refine CondG.mk (fun h => ?_) (fun h => ?_)) <;> (try simp only [decide_eq_true_eq, decide_eq_false_iff_not, Bool.not_eq_true', Bool.not_eq_false', beq_iff_eq, beq_eq_false_iff_ne, bne_iff_ne, bne_eq_false_iff_eq] at h) <;> (first | (exfalso; first | omega | exact h trivial) | (conv => whnf))) | (refine Ask.mk (by first | omega | (unfold roomOK; simp [cutRows]; done) | (unfold roomOK; simp [cutRows]; omega) | (simp [cutRows]; done) | (simp [cutRows]; omega)) ?_; conv => whnf) | (refine AppG.mk (by first | omega | (unfold roomOK; simp [cutRows]; done) | (unfold roomOK; simp [cutRows]; omega) | (simp [cutRows]; done) | (simp [cutRows]; omega)) ?_; conv => whnf) | (refine SliceG.fr ?_; conv => whnf) | (refine idx_at _ (by with_reducible rfl) (by first | assumption | omega) ?_; conv => whnf) | ((with_reducible refine row_map (by first | assumption | omega) ?_); conv => whnf) | ((with_reducible refine row_set (by first | assumption | omega | (simp only [List.length_set]; omega) | (simp; omega)) ?_); conv => whnf) | fail)
      · exact meas_next ((en, ek, eb) :: vis) (by simp only [List.length_cons]; omega) (by rw [h1, if_pos h, List.map_append]; rfl) hv'
      · exact meas_next ((en, ek, eb) :: vis) (by simp only [List.length_cons]; omega) (by rw [h1, if_neg (by rw [h]; decide), List.append_nil]; rfl) hv'
/-! what can be broken -/
end Go.Proofs.YtobcplhaabaemaaGreat

/- A plant of one cable, by constants. -/
namespace Go.Proofs.YtobcplhaabaemaaGreat
set_option linter.unusedVariables false
set_option linter.unusedSimpArgs false
open Abs

abbrev cA : V := .str ⟨#[97]⟩
abbrev cB : V := .str ⟨#[98]⟩
abbrev cC : V := .str ⟨#[99]⟩
abbrev n1 : V := .int .i64 1
abbrev tSites : V := .lst 2 [[cA, .int .i64 1], [cB, .int .i64 4]]
abbrev tCables : V := .lst 5 [[cC, cA, cB, .int .i64 5, .int .i64 1]]
abbrev tinyL : List V := [tSites, tCables, .nils]
abbrev kindsO : Ob := .map 2 [(0, .c cA, .c (.int .i64 1)), (1, .c cB, .c (.int .i64 4))]
abbrev cabsO : Ob := .map 1 [(0, .c cC, .agg [cC, cA, cB, .int .i64 5, .int .i64 1])]
abbrev webO : List Ob := [.box [tSites, tCables, .nils, .mp 1, .mp 2, .mp 3, .nilm], kindsO, cabsO, .map 0 []]
set_option maxRecDepth 100000 in
set_option maxHeartbeats 4000000 in
theorem siteF_c1 : PCp 194 [.agg [cA, .int .i64 1]] [] (.c (.int .i64 0)) [] := by
  refine fn_sound (mt := mts) tab_fits tab_mixed Tryz.func194 (by rfl) (by kernel_rfl) (by kernel_rfl) Tryz.results194 (Nat.le_of_ble_eq_true (by kernel_rfl)) ?_
  conv => whnf
  repeat' (first | (refine CondG.mk (fun h => ?_) (fun h => absurd h (by decide +kernel)); clear h; conv => whnf) | (refine CondG.mk (fun h => absurd h (by decide +kernel)) (fun h => ?_); clear h; conv => whnf) | (refine Split.mk (fun h => ?_) (fun h => absurd h (by decide +kernel)); clear h; conv => whnf) | (refine Split.mk (fun h => absurd h (by decide +kernel)) (fun h => ?_); clear h; conv => whnf) | (refine CallX.mk _ _ (by first | exact bKey_pc _ | exact bOut_pc _ _ _) ?_; conv => whnf) | (refine CallG.mk _ _ (by first | exact bKey_pc _ | exact bOut_pc _ _ _) ?_; conv => whnf) | (refine Ask.mk (by first | decide | (unfold roomOK; decide)) ?_; conv => whnf) | (refine AppG.mk (by first | decide | (unfold roomOK; decide)) ?_; conv => whnf) | (refine SliceG.fr ?_; conv => whnf) | (refine IdxG.mk _ ⟨by decide, by rfl⟩ ?_; conv => whnf) | (refine RowG.mk _ (by rfl) ?_; conv => whnf) | (refine look_no (by decide +kernel) ?_; conv => whnf) | (refine look_ix 0 (by rfl) (by decide +kernel) ?_; conv => whnf) | (refine look_ix 1 (by rfl) (by decide +kernel) ?_; conv => whnf) | (refine look_ix 2 (by rfl) (by decide +kernel) ?_; conv => whnf) | (refine upd_no (by decide +kernel) ?_; conv => whnf) | (refine LoopG.un 12 ?_; conv => whnf) | fail)
  all_goals first | exact .mk ⟨rfl, rfl⟩ | trace_state
set_option maxRecDepth 100000 in
set_option maxHeartbeats 4000000 in
theorem siteF_c2 : PCp 194 [.agg [cB, .int .i64 4]] [] (.c (.int .i64 0)) [] := by
  refine fn_sound (mt := mts) tab_fits tab_mixed Tryz.func194 (by rfl) (by kernel_rfl) (by kernel_rfl) Tryz.results194 (Nat.le_of_ble_eq_true (by kernel_rfl)) ?_
  conv => whnf
  repeat' (first | (refine CondG.mk (fun h => ?_) (fun h => absurd h (by decide +kernel)); clear h; conv => whnf) | (refine CondG.mk (fun h => absurd h (by decide +kernel)) (fun h => ?_); clear h; conv => whnf) | (refine Split.mk (fun h => ?_) (fun h => absurd h (by decide +kernel)); clear h; conv => whnf) | (refine Split.mk (fun h => absurd h (by decide +kernel)) (fun h => ?_); clear h; conv => whnf) | (refine CallX.mk _ _ (by first | exact bKey_pc _ | exact bOut_pc _ _ _) ?_; conv => whnf) | (refine CallG.mk _ _ (by first | exact bKey_pc _ | exact bOut_pc _ _ _) ?_; conv => whnf) | (refine Ask.mk (by first | decide | (unfold roomOK; decide)) ?_; conv => whnf) | (refine AppG.mk (by first | decide | (unfold roomOK; decide)) ?_; conv => whnf) | (refine SliceG.fr ?_; conv => whnf) | (refine IdxG.mk _ ⟨by decide, by rfl⟩ ?_; conv => whnf) | (refine RowG.mk _ (by rfl) ?_; conv => whnf) | (refine look_no (by decide +kernel) ?_; conv => whnf) | (refine look_ix 0 (by rfl) (by decide +kernel) ?_; conv => whnf) | (refine look_ix 1 (by rfl) (by decide +kernel) ?_; conv => whnf) | (refine look_ix 2 (by rfl) (by decide +kernel) ?_; conv => whnf) | (refine upd_no (by decide +kernel) ?_; conv => whnf) | (refine LoopG.un 12 ?_; conv => whnf) | fail)
  all_goals first | exact .mk ⟨rfl, rfl⟩ | trace_state
set_option maxRecDepth 100000 in
set_option maxHeartbeats 4000000 in
theorem sitesF_c : PCp 154 [.c tSites] [] (.c (.int .i64 0)) [] := by
  refine fn_sound (mt := mts) tab_fits tab_mixed Tryz.func154 (by rfl) (by kernel_rfl) (by kernel_rfl) Tryz.results154 (Nat.le_of_ble_eq_true (by kernel_rfl)) ?_
  conv => whnf
  repeat' (first | (refine CondG.mk (fun h => ?_) (fun h => absurd h (by decide +kernel)); clear h; conv => whnf) | (refine CondG.mk (fun h => absurd h (by decide +kernel)) (fun h => ?_); clear h; conv => whnf) | (refine Split.mk (fun h => ?_) (fun h => absurd h (by decide +kernel)); clear h; conv => whnf) | (refine Split.mk (fun h => absurd h (by decide +kernel)) (fun h => ?_); clear h; conv => whnf) | (refine CallX.mk _ _ (by first | exact siteF_c1 | exact siteF_c2) ?_; conv => whnf) | (refine CallG.mk _ _ (by first | exact siteF_c1 | exact siteF_c2) ?_; conv => whnf) | (refine Ask.mk (by first | decide | (unfold roomOK; decide)) ?_; conv => whnf) | (refine AppG.mk (by first | decide | (unfold roomOK; decide)) ?_; conv => whnf) | (refine SliceG.fr ?_; conv => whnf) | (refine IdxG.mk _ ⟨by decide, by rfl⟩ ?_; conv => whnf) | (refine RowG.mk _ (by rfl) ?_; conv => whnf) | (refine look_no (by decide +kernel) ?_; conv => whnf) | (refine look_ix 0 (by rfl) (by decide +kernel) ?_; conv => whnf) | (refine look_ix 1 (by rfl) (by decide +kernel) ?_; conv => whnf) | (refine look_ix 2 (by rfl) (by decide +kernel) ?_; conv => whnf) | (refine upd_no (by decide +kernel) ?_; conv => whnf) | (refine LoopG.un 12 ?_; conv => whnf) | fail)
  all_goals first | exact .mk ⟨rfl, rfl⟩ | trace_state
set_option maxRecDepth 100000 in
set_option maxHeartbeats 4000000 in
theorem cabF_c : PCp 195 [.agg [cC, cA, cB, .int .i64 5, .int .i64 1], .c (.mp 0)] [kindsO] (.c (.int .i64 0)) [kindsO] := by
  refine fn_sound (mt := mts) tab_fits tab_mixed Tryz.func195 (by rfl) (by kernel_rfl) (by kernel_rfl) Tryz.results195 (Nat.le_of_ble_eq_true (by kernel_rfl)) ?_
  conv => whnf
  repeat' (first | (refine CondG.mk (fun h => ?_) (fun h => absurd h (by decide +kernel)); clear h; conv => whnf) | (refine CondG.mk (fun h => absurd h (by decide +kernel)) (fun h => ?_); clear h; conv => whnf) | (refine Split.mk (fun h => ?_) (fun h => absurd h (by decide +kernel)); clear h; conv => whnf) | (refine Split.mk (fun h => absurd h (by decide +kernel)) (fun h => ?_); clear h; conv => whnf) | (refine CallX.mk _ _ (by first | exact bKey_pc _ | exact bOut_pc _ _ _) ?_; conv => whnf) | (refine CallG.mk _ _ (by first | exact bKey_pc _ | exact bOut_pc _ _ _) ?_; conv => whnf) | (refine Ask.mk (by first | decide | (unfold roomOK; decide)) ?_; conv => whnf) | (refine AppG.mk (by first | decide | (unfold roomOK; decide)) ?_; conv => whnf) | (refine SliceG.fr ?_; conv => whnf) | (refine IdxG.mk _ ⟨by decide, by rfl⟩ ?_; conv => whnf) | (refine RowG.mk _ (by rfl) ?_; conv => whnf) | (refine look_no (by decide +kernel) ?_; conv => whnf) | (refine look_ix 0 (by rfl) (by decide +kernel) ?_; conv => whnf) | (refine look_ix 1 (by rfl) (by decide +kernel) ?_; conv => whnf) | (refine look_ix 2 (by rfl) (by decide +kernel) ?_; conv => whnf) | (refine upd_no (by decide +kernel) ?_; conv => whnf) | (refine LoopG.un 12 ?_; conv => whnf) | fail)
  all_goals first | exact .mk ⟨rfl, rfl⟩ | trace_state
set_option maxRecDepth 100000 in
set_option maxHeartbeats 4000000 in
theorem cabsF_c : PCp 155 [.c tCables, .c (.mp 0)] [kindsO] (.c (.int .i64 0)) [kindsO] := by
  refine fn_sound (mt := mts) tab_fits tab_mixed Tryz.func155 (by rfl) (by kernel_rfl) (by kernel_rfl) Tryz.results155 (Nat.le_of_ble_eq_true (by kernel_rfl)) ?_
  conv => whnf
  repeat' (first | (refine CondG.mk (fun h => ?_) (fun h => absurd h (by decide +kernel)); clear h; conv => whnf) | (refine CondG.mk (fun h => absurd h (by decide +kernel)) (fun h => ?_); clear h; conv => whnf) | (refine Split.mk (fun h => ?_) (fun h => absurd h (by decide +kernel)); clear h; conv => whnf) | (refine Split.mk (fun h => absurd h (by decide +kernel)) (fun h => ?_); clear h; conv => whnf) | (refine CallX.mk _ _ (by first | exact cabF_c) ?_; conv => whnf) | (refine CallG.mk _ _ (by first | exact cabF_c) ?_; conv => whnf) | (refine Ask.mk (by first | decide | (unfold roomOK; decide)) ?_; conv => whnf) | (refine AppG.mk (by first | decide | (unfold roomOK; decide)) ?_; conv => whnf) | (refine SliceG.fr ?_; conv => whnf) | (refine IdxG.mk _ ⟨by decide, by rfl⟩ ?_; conv => whnf) | (refine RowG.mk _ (by rfl) ?_; conv => whnf) | (refine look_no (by decide +kernel) ?_; conv => whnf) | (refine look_ix 0 (by rfl) (by decide +kernel) ?_; conv => whnf) | (refine look_ix 1 (by rfl) (by decide +kernel) ?_; conv => whnf) | (refine look_ix 2 (by rfl) (by decide +kernel) ?_; conv => whnf) | (refine upd_no (by decide +kernel) ?_; conv => whnf) | (refine LoopG.un 12 ?_; conv => whnf) | fail)
  all_goals first | exact .mk ⟨rfl, rfl⟩ | trace_state
set_option maxRecDepth 100000 in
set_option maxHeartbeats 4000000 in
theorem splsF_c : PCp 156 [.agg tinyL, .c (.mp 0)] [kindsO] (.c (.int .i64 0)) [kindsO] := by
  refine fn_sound (mt := mts) tab_fits tab_mixed Tryz.func156 (by rfl) (by kernel_rfl) (by kernel_rfl) Tryz.results156 (Nat.le_of_ble_eq_true (by kernel_rfl)) ?_
  conv => whnf
  repeat' (first | (refine CondG.mk (fun h => ?_) (fun h => absurd h (by decide +kernel)); clear h; conv => whnf) | (refine CondG.mk (fun h => absurd h (by decide +kernel)) (fun h => ?_); clear h; conv => whnf) | (refine Split.mk (fun h => ?_) (fun h => absurd h (by decide +kernel)); clear h; conv => whnf) | (refine Split.mk (fun h => absurd h (by decide +kernel)) (fun h => ?_); clear h; conv => whnf) | (refine Ask.mk (by first | decide | (unfold roomOK; decide)) ?_; conv => whnf) | (refine AppG.mk (by first | decide | (unfold roomOK; decide)) ?_; conv => whnf) | (refine SliceG.fr ?_; conv => whnf) | (refine IdxG.mk _ ⟨by decide, by rfl⟩ ?_; conv => whnf) | (refine RowG.mk _ (by rfl) ?_; conv => whnf) | (refine look_no (by decide +kernel) ?_; conv => whnf) | (refine look_ix 0 (by rfl) (by decide +kernel) ?_; conv => whnf) | (refine look_ix 1 (by rfl) (by decide +kernel) ?_; conv => whnf) | (refine look_ix 2 (by rfl) (by decide +kernel) ?_; conv => whnf) | (refine upd_no (by decide +kernel) ?_; conv => whnf) | (refine LoopG.un 12 ?_; conv => whnf) | fail)
  all_goals first | exact .mk ⟨rfl, rfl⟩ | trace_state
set_option maxRecDepth 100000 in
set_option maxHeartbeats 4000000 in
theorem checkPlant_c : PCp 109 [.agg tinyL] [] (.c (.int .i64 0)) [] := by
  refine fn_sound (mt := mts) tab_fits tab_mixed Tryz.func109 (by rfl) (by kernel_rfl) (by kernel_rfl) Tryz.results109 (Nat.le_of_ble_eq_true (by kernel_rfl)) ?_
  conv => whnf
  repeat' (first | (refine CondG.mk (fun h => ?_) (fun h => absurd h (by decide +kernel)); clear h; conv => whnf) | (refine CondG.mk (fun h => absurd h (by decide +kernel)) (fun h => ?_); clear h; conv => whnf) | (refine Split.mk (fun h => ?_) (fun h => absurd h (by decide +kernel)); clear h; conv => whnf) | (refine Split.mk (fun h => absurd h (by decide +kernel)) (fun h => ?_); clear h; conv => whnf) | (refine CallX.mk _ _ (by first | exact sitesF_c | exact cabsF_c | exact splsF_c) ?_; conv => whnf) | (refine CallG.mk _ _ (by first | exact sitesF_c | exact cabsF_c | exact splsF_c) ?_; conv => whnf) | (refine Ask.mk (by first | decide | (unfold roomOK; decide)) ?_; conv => whnf) | (refine AppG.mk (by first | decide | (unfold roomOK; decide)) ?_; conv => whnf) | (refine SliceG.fr ?_; conv => whnf) | (refine IdxG.mk _ ⟨by decide, by rfl⟩ ?_; conv => whnf) | (refine RowG.mk _ (by rfl) ?_; conv => whnf) | (refine look_no (by decide +kernel) ?_; conv => whnf) | (refine look_ix 0 (by rfl) (by decide +kernel) ?_; conv => whnf) | (refine look_ix 1 (by rfl) (by decide +kernel) ?_; conv => whnf) | (refine look_ix 2 (by rfl) (by decide +kernel) ?_; conv => whnf) | (refine upd_no (by decide +kernel) ?_; conv => whnf) | (refine LoopG.un 12 ?_; conv => whnf) | fail)
  all_goals first | exact .mk ⟨rfl, rfl⟩ | trace_state
theorem sbool {a b : Bool} (h : a = b) : oneOf [S.c (.bool a)] = S.c (.bool b) := by rw [h]; rfl
set_option maxRecDepth 100000 in
set_option maxHeartbeats 4000000 in
theorem siteC1_c : PCp 167 [.agg [cA, .int .i64 1], .c (.ptr 0 0)] [.box [cB]] (.c (.bool false)) [.box [cB]] := by
  refine fn_sound (mt := mts) tab_fits tab_mixed Tryz.func167 (by rfl) (by kernel_rfl) (by kernel_rfl) Tryz.results167 (Nat.le_of_ble_eq_true (by kernel_rfl)) ?_
  conv => whnf
  repeat' (first | (refine CondG.mk (fun h => ?_) (fun h => absurd h (by decide +kernel)); clear h; conv => whnf) | (refine CondG.mk (fun h => absurd h (by decide +kernel)) (fun h => ?_); clear h; conv => whnf) | (refine Split.mk (fun h => ?_) (fun h => absurd h (by decide +kernel)); clear h; conv => whnf) | (refine Split.mk (fun h => absurd h (by decide +kernel)) (fun h => ?_); clear h; conv => whnf) | (refine Ask.mk (by first | decide | (unfold roomOK; decide)) ?_; conv => whnf) | (refine AppG.mk (by first | decide | (unfold roomOK; decide)) ?_; conv => whnf) | (refine SliceG.fr ?_; conv => whnf) | (refine IdxG.mk _ ⟨by decide, by rfl⟩ ?_; conv => whnf) | (refine RowG.mk _ (by rfl) ?_; conv => whnf) | (refine look_no (by decide +kernel) ?_; conv => whnf) | (refine look_ix 0 (by rfl) (by decide +kernel) ?_; conv => whnf) | (refine look_ix 1 (by rfl) (by decide +kernel) ?_; conv => whnf) | (refine look_ix 2 (by rfl) (by decide +kernel) ?_; conv => whnf) | (refine upd_no (by decide +kernel) ?_; conv => whnf) | (refine LoopG.un 12 ?_; conv => whnf) | fail)
  exact .mk ⟨sbool (by decide +kernel), rfl⟩
set_option maxRecDepth 100000 in
set_option maxHeartbeats 4000000 in
theorem siteC2_c : PCp 167 [.agg [cB, .int .i64 4], .c (.ptr 0 0)] [.box [cB]] (.c (.bool true)) [.box [cB]] := by
  refine fn_sound (mt := mts) tab_fits tab_mixed Tryz.func167 (by rfl) (by kernel_rfl) (by kernel_rfl) Tryz.results167 (Nat.le_of_ble_eq_true (by kernel_rfl)) ?_
  conv => whnf
  repeat' (first | (refine CondG.mk (fun h => ?_) (fun h => absurd h (by decide +kernel)); clear h; conv => whnf) | (refine CondG.mk (fun h => absurd h (by decide +kernel)) (fun h => ?_); clear h; conv => whnf) | (refine Split.mk (fun h => ?_) (fun h => absurd h (by decide +kernel)); clear h; conv => whnf) | (refine Split.mk (fun h => absurd h (by decide +kernel)) (fun h => ?_); clear h; conv => whnf) | (refine Ask.mk (by first | decide | (unfold roomOK; decide)) ?_; conv => whnf) | (refine AppG.mk (by first | decide | (unfold roomOK; decide)) ?_; conv => whnf) | (refine SliceG.fr ?_; conv => whnf) | (refine IdxG.mk _ ⟨by decide, by rfl⟩ ?_; conv => whnf) | (refine RowG.mk _ (by rfl) ?_; conv => whnf) | (refine look_no (by decide +kernel) ?_; conv => whnf) | (refine look_ix 0 (by rfl) (by decide +kernel) ?_; conv => whnf) | (refine look_ix 1 (by rfl) (by decide +kernel) ?_; conv => whnf) | (refine look_ix 2 (by rfl) (by decide +kernel) ?_; conv => whnf) | (refine upd_no (by decide +kernel) ?_; conv => whnf) | (refine LoopG.un 12 ?_; conv => whnf) | fail)
  exact .mk ⟨sbool (by decide +kernel), rfl⟩
set_option maxRecDepth 100000 in
set_option maxHeartbeats 4000000 in
theorem siteIx_c : PCp 201 [.c tSites, .c (.fn 167 [.ptr 0 0])] [.box [cB]] (.c (.int .i64 1)) [.box [cB]] := by
  refine fn_sound (mt := mts) tab_fits tab_mixed Tryz.func201 (by rfl) (by kernel_rfl) (by kernel_rfl) Tryz.results201 (Nat.le_of_ble_eq_true (by kernel_rfl)) ?_
  conv => whnf
  repeat' (first | (refine CondG.mk (fun h => ?_) (fun h => absurd h (by decide +kernel)); clear h; conv => whnf) | (refine CondG.mk (fun h => absurd h (by decide +kernel)) (fun h => ?_); clear h; conv => whnf) | (refine Split.mk (fun h => ?_) (fun h => absurd h (by decide +kernel)); clear h; conv => whnf) | (refine Split.mk (fun h => absurd h (by decide +kernel)) (fun h => ?_); clear h; conv => whnf) | (refine CallX.mk _ _ (by first | exact siteC1_c | exact siteC2_c) ?_; conv => whnf) | (refine CallG.mk _ _ (by first | exact siteC1_c | exact siteC2_c) ?_; conv => whnf) | (refine Ask.mk (by first | decide | (unfold roomOK; decide)) ?_; conv => whnf) | (refine AppG.mk (by first | decide | (unfold roomOK; decide)) ?_; conv => whnf) | (refine SliceG.fr ?_; conv => whnf) | (refine IdxG.mk _ ⟨by decide, by rfl⟩ ?_; conv => whnf) | (refine RowG.mk _ (by rfl) ?_; conv => whnf) | (refine look_no (by decide +kernel) ?_; conv => whnf) | (refine look_ix 0 (by rfl) (by decide +kernel) ?_; conv => whnf) | (refine look_ix 1 (by rfl) (by decide +kernel) ?_; conv => whnf) | (refine look_ix 2 (by rfl) (by decide +kernel) ?_; conv => whnf) | (refine upd_no (by decide +kernel) ?_; conv => whnf) | (refine LoopG.un 12 ?_; conv => whnf) | fail)
  all_goals first | exact .mk ⟨rfl, rfl⟩ | trace_state
set_option maxRecDepth 100000 in
set_option maxHeartbeats 4000000 in
theorem siteCt_c : PCp 166 [.c tSites, .c (.fn 167 [.ptr 0 0])] [.box [cB]] (.c (.bool true)) [.box [cB]] := by
  refine fn_sound (mt := mts) tab_fits tab_mixed Tryz.func166 (by rfl) (by kernel_rfl) (by kernel_rfl) Tryz.results166 (Nat.le_of_ble_eq_true (by kernel_rfl)) ?_
  conv => whnf
  repeat' (first | (refine CondG.mk (fun h => ?_) (fun h => absurd h (by decide +kernel)); clear h; conv => whnf) | (refine CondG.mk (fun h => absurd h (by decide +kernel)) (fun h => ?_); clear h; conv => whnf) | (refine Split.mk (fun h => ?_) (fun h => absurd h (by decide +kernel)); clear h; conv => whnf) | (refine Split.mk (fun h => absurd h (by decide +kernel)) (fun h => ?_); clear h; conv => whnf) | (refine CallX.mk _ _ (by first | exact siteIx_c) ?_; conv => whnf) | (refine CallG.mk _ _ (by first | exact siteIx_c) ?_; conv => whnf) | (refine Ask.mk (by first | decide | (unfold roomOK; decide)) ?_; conv => whnf) | (refine AppG.mk (by first | decide | (unfold roomOK; decide)) ?_; conv => whnf) | (refine SliceG.fr ?_; conv => whnf) | (refine IdxG.mk _ ⟨by decide, by rfl⟩ ?_; conv => whnf) | (refine RowG.mk _ (by rfl) ?_; conv => whnf) | (refine look_no (by decide +kernel) ?_; conv => whnf) | (refine look_ix 0 (by rfl) (by decide +kernel) ?_; conv => whnf) | (refine look_ix 1 (by rfl) (by decide +kernel) ?_; conv => whnf) | (refine look_ix 2 (by rfl) (by decide +kernel) ?_; conv => whnf) | (refine upd_no (by decide +kernel) ?_; conv => whnf) | (refine LoopG.un 12 ?_; conv => whnf) | fail)
  all_goals first | exact .mk ⟨rfl, rfl⟩ | trace_state
set_option maxRecDepth 100000 in
set_option maxHeartbeats 4000000 in
theorem siteFault_c : PCp 131 [.agg tinyL, .c cB] [] (.c (.int .i64 0)) [] := by
  refine fn_sound (mt := mts) tab_fits tab_mixed Tryz.func131 (by rfl) (by kernel_rfl) (by kernel_rfl) Tryz.results131 (Nat.le_of_ble_eq_true (by kernel_rfl)) ?_
  conv => whnf
  repeat' (first | (refine CondG.mk (fun h => ?_) (fun h => absurd h (by decide +kernel)); clear h; conv => whnf) | (refine CondG.mk (fun h => absurd h (by decide +kernel)) (fun h => ?_); clear h; conv => whnf) | (refine Split.mk (fun h => ?_) (fun h => absurd h (by decide +kernel)); clear h; conv => whnf) | (refine Split.mk (fun h => absurd h (by decide +kernel)) (fun h => ?_); clear h; conv => whnf) | (refine CallX.mk _ _ (by first | exact checkPlant_c | exact siteCt_c) ?_; conv => whnf) | (refine CallG.mk _ _ (by first | exact checkPlant_c | exact siteCt_c) ?_; conv => whnf) | (refine Ask.mk (by first | decide | (unfold roomOK; decide)) ?_; conv => whnf) | (refine AppG.mk (by first | decide | (unfold roomOK; decide)) ?_; conv => whnf) | (refine SliceG.fr ?_; conv => whnf) | (refine IdxG.mk _ ⟨by decide, by rfl⟩ ?_; conv => whnf) | (refine RowG.mk _ (by rfl) ?_; conv => whnf) | (refine look_no (by decide +kernel) ?_; conv => whnf) | (refine look_ix 0 (by rfl) (by decide +kernel) ?_; conv => whnf) | (refine look_ix 1 (by rfl) (by decide +kernel) ?_; conv => whnf) | (refine look_ix 2 (by rfl) (by decide +kernel) ?_; conv => whnf) | (refine upd_no (by decide +kernel) ?_; conv => whnf) | (refine LoopG.un 12 ?_; conv => whnf) | fail)
  all_goals first | exact .mk ⟨rfl, rfl⟩ | trace_state
set_option maxRecDepth 100000 in
set_option maxHeartbeats 4000000 in
theorem webNew_c : PCp 110 [.agg tinyL] [] (.c (.ptr 0 0)) webO := by
  refine fn_sound (mt := mts) tab_fits tab_mixed Tryz.func110 (by rfl) (by kernel_rfl) (by kernel_rfl) Tryz.results110 (Nat.le_of_ble_eq_true (by kernel_rfl)) ?_
  conv => whnf
  repeat' (first | (refine CondG.mk (fun h => ?_) (fun h => absurd h (by decide +kernel)); clear h; conv => whnf) | (refine CondG.mk (fun h => absurd h (by decide +kernel)) (fun h => ?_); clear h; conv => whnf) | (refine Split.mk (fun h => ?_) (fun h => absurd h (by decide +kernel)); clear h; conv => whnf) | (refine Split.mk (fun h => absurd h (by decide +kernel)) (fun h => ?_); clear h; conv => whnf) | (refine Ask.mk (by first | decide | (unfold roomOK; decide)) ?_; conv => whnf) | (refine AppG.mk (by first | decide | (unfold roomOK; decide)) ?_; conv => whnf) | (refine SliceG.fr ?_; conv => whnf) | (refine IdxG.mk _ ⟨by decide, by rfl⟩ ?_; conv => whnf) | (refine RowG.mk _ (by rfl) ?_; conv => whnf) | (refine look_no (by decide +kernel) ?_; conv => whnf) | (refine look_ix 0 (by rfl) (by decide +kernel) ?_; conv => whnf) | (refine look_ix 1 (by rfl) (by decide +kernel) ?_; conv => whnf) | (refine look_ix 2 (by rfl) (by decide +kernel) ?_; conv => whnf) | (refine upd_no (by decide +kernel) ?_; conv => whnf) | (refine LoopG.un 12 ?_; conv => whnf) | fail)
  all_goals first | exact .mk ⟨rfl, rfl⟩ | trace_state
set_option maxRecDepth 100000 in
set_option maxHeartbeats 4000000 in
theorem webHas_c : PCp 132 [.c (.ptr 0 0), .agg [cC, n1]] webO (.c (.bool true)) webO := by
  refine fn_sound (mt := mts) tab_fits tab_mixed Tryz.func132 (by rfl) (by kernel_rfl) (by kernel_rfl) Tryz.results132 (Nat.le_of_ble_eq_true (by kernel_rfl)) ?_
  conv => whnf
  repeat' (first | (refine CondG.mk (fun h => ?_) (fun h => absurd h (by decide +kernel)); clear h; conv => whnf) | (refine CondG.mk (fun h => absurd h (by decide +kernel)) (fun h => ?_); clear h; conv => whnf) | (refine Split.mk (fun h => ?_) (fun h => absurd h (by decide +kernel)); clear h; conv => whnf) | (refine Split.mk (fun h => absurd h (by decide +kernel)) (fun h => ?_); clear h; conv => whnf) | (refine CallX.mk _ _ (by first | exact bOut_pc _ _ _) ?_; conv => whnf) | (refine CallG.mk _ _ (by first | exact bOut_pc _ _ _) ?_; conv => whnf) | (refine Ask.mk (by first | decide | (unfold roomOK; decide)) ?_; conv => whnf) | (refine AppG.mk (by first | decide | (unfold roomOK; decide)) ?_; conv => whnf) | (refine SliceG.fr ?_; conv => whnf) | (refine IdxG.mk _ ⟨by decide, by rfl⟩ ?_; conv => whnf) | (refine RowG.mk _ (by rfl) ?_; conv => whnf) | (refine look_no (by decide +kernel) ?_; conv => whnf) | (refine look_ix 0 (by rfl) (by decide +kernel) ?_; conv => whnf) | (refine look_ix 1 (by rfl) (by decide +kernel) ?_; conv => whnf) | (refine look_ix 2 (by rfl) (by decide +kernel) ?_; conv => whnf) | (refine upd_no (by decide +kernel) ?_; conv => whnf) | (refine LoopG.un 12 ?_; conv => whnf) | fail)
  all_goals first | exact .mk ⟨rfl, rfl⟩ | exact .mk ⟨sbool (by decide +kernel), rfl⟩ | trace_state
set_option maxRecDepth 100000 in
set_option maxHeartbeats 4000000 in
theorem webTouches_c : PCp 133 [.c (.ptr 0 0), .agg [cC, n1], .c cB] webO (.c (.bool true)) webO := by
  refine fn_sound (mt := mts) tab_fits tab_mixed Tryz.func133 (by rfl) (by kernel_rfl) (by kernel_rfl) Tryz.results133 (Nat.le_of_ble_eq_true (by kernel_rfl)) ?_
  conv => whnf
  repeat' (first | (refine CondG.mk (fun h => ?_) (fun h => absurd h (by decide +kernel)); clear h; conv => whnf) | (refine CondG.mk (fun h => absurd h (by decide +kernel)) (fun h => ?_); clear h; conv => whnf) | (refine Split.mk (fun h => ?_) (fun h => absurd h (by decide +kernel)); clear h; conv => whnf) | (refine Split.mk (fun h => absurd h (by decide +kernel)) (fun h => ?_); clear h; conv => whnf) | (refine Ask.mk (by first | decide | (unfold roomOK; decide)) ?_; conv => whnf) | (refine AppG.mk (by first | decide | (unfold roomOK; decide)) ?_; conv => whnf) | (refine SliceG.fr ?_; conv => whnf) | (refine IdxG.mk _ ⟨by decide, by rfl⟩ ?_; conv => whnf) | (refine RowG.mk _ (by rfl) ?_; conv => whnf) | (refine look_no (by decide +kernel) ?_; conv => whnf) | (refine look_ix 0 (by rfl) (by decide +kernel) ?_; conv => whnf) | (refine look_ix 1 (by rfl) (by decide +kernel) ?_; conv => whnf) | (refine look_ix 2 (by rfl) (by decide +kernel) ?_; conv => whnf) | (refine upd_no (by decide +kernel) ?_; conv => whnf) | (refine LoopG.un 12 ?_; conv => whnf) | fail)
  all_goals first | exact .mk ⟨rfl, rfl⟩ | exact .mk ⟨sbool (by decide +kernel), rfl⟩ | trace_state
set_option maxRecDepth 100000 in
set_option maxHeartbeats 4000000 in
theorem endOf_c : PCp 92 [.agg tinyL, .agg [cC, n1], .c cB] [] (.tup [.c (.ptr 0 0), .c (.int .i64 0)]) webO := by
  refine fn_sound (mt := mts) tab_fits tab_mixed Tryz.func92 (by rfl) (by kernel_rfl) (by kernel_rfl) Tryz.results92 (Nat.le_of_ble_eq_true (by kernel_rfl)) ?_
  conv => whnf
  repeat' (first | (refine CondG.mk (fun h => ?_) (fun h => absurd h (by decide +kernel)); clear h; conv => whnf) | (refine CondG.mk (fun h => absurd h (by decide +kernel)) (fun h => ?_); clear h; conv => whnf) | (refine Split.mk (fun h => ?_) (fun h => absurd h (by decide +kernel)); clear h; conv => whnf) | (refine Split.mk (fun h => absurd h (by decide +kernel)) (fun h => ?_); clear h; conv => whnf) | (refine CallX.mk _ _ (by first | exact siteFault_c | exact webNew_c | exact webHas_c | exact webTouches_c) ?_; conv => whnf) | (refine CallG.mk _ _ (by first | exact siteFault_c | exact webNew_c | exact webHas_c | exact webTouches_c) ?_; conv => whnf) | (refine Ask.mk (by first | decide | (unfold roomOK; decide)) ?_; conv => whnf) | (refine AppG.mk (by first | decide | (unfold roomOK; decide)) ?_; conv => whnf) | (refine SliceG.fr ?_; conv => whnf) | (refine IdxG.mk _ ⟨by decide, by rfl⟩ ?_; conv => whnf) | (refine RowG.mk _ (by rfl) ?_; conv => whnf) | (refine look_no (by decide +kernel) ?_; conv => whnf) | (refine look_ix 0 (by rfl) (by decide +kernel) ?_; conv => whnf) | (refine look_ix 1 (by rfl) (by decide +kernel) ?_; conv => whnf) | (refine look_ix 2 (by rfl) (by decide +kernel) ?_; conv => whnf) | (refine upd_no (by decide +kernel) ?_; conv => whnf) | (refine LoopG.un 12 ?_; conv => whnf) | fail)
  all_goals first | exact .mk ⟨rfl, rfl⟩ | trace_state
abbrev spl0 : List V := [.str ⟨#[]⟩, .str ⟨#[]⟩, .int .i64 0, .str ⟨#[]⟩, .int .i64 0, .int .i64 0]
set_option maxRecDepth 100000 in
set_option maxHeartbeats 4000000 in
theorem webAt_c (s : V) (hs : s = cA ∨ s = cB) : PCp 93 [.c (.ptr 0 0), .agg [s, cC, n1]] webO (.tup [.agg spl0, .c (.bool false)]) webO := by
  rcases hs with rfl | rfl
  · refine fn_sound (mt := mts) tab_fits tab_mixed Tryz.func93 (by rfl) (by kernel_rfl) (by kernel_rfl) Tryz.results93 (Nat.le_of_ble_eq_true (by kernel_rfl)) ?_
    conv => whnf
    repeat' (first | (refine CondG.mk (fun h => ?_) (fun h => absurd h (by decide +kernel)); clear h; conv => whnf) | (refine CondG.mk (fun h => absurd h (by decide +kernel)) (fun h => ?_); clear h; conv => whnf) | (refine Split.mk (fun h => ?_) (fun h => absurd h (by decide +kernel)); clear h; conv => whnf) | (refine Split.mk (fun h => absurd h (by decide +kernel)) (fun h => ?_); clear h; conv => whnf) | (refine Ask.mk (by first | decide | (unfold roomOK; decide)) ?_; conv => whnf) | (refine AppG.mk (by first | decide | (unfold roomOK; decide)) ?_; conv => whnf) | (refine SliceG.fr ?_; conv => whnf) | (refine IdxG.mk _ ⟨by decide, by rfl⟩ ?_; conv => whnf) | (refine RowG.mk _ (by rfl) ?_; conv => whnf) | (refine look_no (by decide +kernel) ?_; conv => whnf) | (refine look_ix 0 (by rfl) (by decide +kernel) ?_; conv => whnf) | (refine look_ix 1 (by rfl) (by decide +kernel) ?_; conv => whnf) | (refine look_ix 2 (by rfl) (by decide +kernel) ?_; conv => whnf) | (refine upd_no (by decide +kernel) ?_; conv => whnf) | (refine LoopG.un 12 ?_; conv => whnf) | fail)
    all_goals first | exact .mk ⟨rfl, rfl⟩ | trace_state
  · refine fn_sound (mt := mts) tab_fits tab_mixed Tryz.func93 (by rfl) (by kernel_rfl) (by kernel_rfl) Tryz.results93 (Nat.le_of_ble_eq_true (by kernel_rfl)) ?_
    conv => whnf
    repeat' (first | (refine CondG.mk (fun h => ?_) (fun h => absurd h (by decide +kernel)); clear h; conv => whnf) | (refine CondG.mk (fun h => absurd h (by decide +kernel)) (fun h => ?_); clear h; conv => whnf) | (refine Split.mk (fun h => ?_) (fun h => absurd h (by decide +kernel)); clear h; conv => whnf) | (refine Split.mk (fun h => absurd h (by decide +kernel)) (fun h => ?_); clear h; conv => whnf) | (refine Ask.mk (by first | decide | (unfold roomOK; decide)) ?_; conv => whnf) | (refine AppG.mk (by first | decide | (unfold roomOK; decide)) ?_; conv => whnf) | (refine SliceG.fr ?_; conv => whnf) | (refine IdxG.mk _ ⟨by decide, by rfl⟩ ?_; conv => whnf) | (refine RowG.mk _ (by rfl) ?_; conv => whnf) | (refine look_no (by decide +kernel) ?_; conv => whnf) | (refine look_ix 0 (by rfl) (by decide +kernel) ?_; conv => whnf) | (refine look_ix 1 (by rfl) (by decide +kernel) ?_; conv => whnf) | (refine look_ix 2 (by rfl) (by decide +kernel) ?_; conv => whnf) | (refine upd_no (by decide +kernel) ?_; conv => whnf) | (refine LoopG.un 12 ?_; conv => whnf) | fail)
    all_goals first | exact .mk ⟨rfl, rfl⟩ | trace_state
set_option maxRecDepth 100000 in
set_option maxHeartbeats 4000000 in
theorem webHop_c : PCp 134 [.c (.ptr 0 0), .agg [cB, cC, n1]] webO (.agg [cC, n1, cB, cA]) webO := by
  refine fn_sound (mt := mts) tab_fits tab_mixed Tryz.func134 (by rfl) (by kernel_rfl) (by kernel_rfl) Tryz.results134 (Nat.le_of_ble_eq_true (by kernel_rfl)) ?_
  conv => whnf
  repeat' (first | (refine CondG.mk (fun h => ?_) (fun h => absurd h (by decide +kernel)); clear h; conv => whnf) | (refine CondG.mk (fun h => absurd h (by decide +kernel)) (fun h => ?_); clear h; conv => whnf) | (refine Split.mk (fun h => ?_) (fun h => absurd h (by decide +kernel)); clear h; conv => whnf) | (refine Split.mk (fun h => absurd h (by decide +kernel)) (fun h => ?_); clear h; conv => whnf) | (refine Ask.mk (by first | decide | (unfold roomOK; decide)) ?_; conv => whnf) | (refine AppG.mk (by first | decide | (unfold roomOK; decide)) ?_; conv => whnf) | (refine SliceG.fr ?_; conv => whnf) | (refine IdxG.mk _ ⟨by decide, by rfl⟩ ?_; conv => whnf) | (refine RowG.mk _ (by rfl) ?_; conv => whnf) | (refine look_no (by decide +kernel) ?_; conv => whnf) | (refine look_ix 0 (by rfl) (by decide +kernel) ?_; conv => whnf) | (refine look_ix 1 (by rfl) (by decide +kernel) ?_; conv => whnf) | (refine look_ix 2 (by rfl) (by decide +kernel) ?_; conv => whnf) | (refine upd_no (by decide +kernel) ?_; conv => whnf) | (refine LoopG.un 12 ?_; conv => whnf) | fail)
  all_goals first | exact .mk ⟨rfl, rfl⟩ | trace_state
set_option maxRecDepth 100000 in
set_option maxHeartbeats 4000000 in
theorem webNext_c : PCp 135 [.c (.ptr 0 0), .agg [cC, n1, cB, cA]] webO (.tup [.agg [.str ⟨#[]⟩, .str ⟨#[]⟩, .int .i64 0], .c (.bool false)]) webO := by
  refine fn_sound (mt := mts) tab_fits tab_mixed Tryz.func135 (by rfl) (by kernel_rfl) (by kernel_rfl) Tryz.results135 (Nat.le_of_ble_eq_true (by kernel_rfl)) ?_
  conv => whnf
  repeat' (first | (refine CondG.mk (fun h => ?_) (fun h => absurd h (by decide +kernel)); clear h; conv => whnf) | (refine CondG.mk (fun h => absurd h (by decide +kernel)) (fun h => ?_); clear h; conv => whnf) | (refine Split.mk (fun h => ?_) (fun h => absurd h (by decide +kernel)); clear h; conv => whnf) | (refine Split.mk (fun h => absurd h (by decide +kernel)) (fun h => ?_); clear h; conv => whnf) | (refine CallX.mk _ _ (by first | exact webAt_c cA (.inl rfl)) ?_; conv => whnf) | (refine CallG.mk _ _ (by first | exact webAt_c cA (.inl rfl)) ?_; conv => whnf) | (refine Ask.mk (by first | decide | (unfold roomOK; decide)) ?_; conv => whnf) | (refine AppG.mk (by first | decide | (unfold roomOK; decide)) ?_; conv => whnf) | (refine SliceG.fr ?_; conv => whnf) | (refine IdxG.mk _ ⟨by decide, by rfl⟩ ?_; conv => whnf) | (refine RowG.mk _ (by rfl) ?_; conv => whnf) | (refine look_no (by decide +kernel) ?_; conv => whnf) | (refine look_ix 0 (by rfl) (by decide +kernel) ?_; conv => whnf) | (refine look_ix 1 (by rfl) (by decide +kernel) ?_; conv => whnf) | (refine look_ix 2 (by rfl) (by decide +kernel) ?_; conv => whnf) | (refine upd_no (by decide +kernel) ?_; conv => whnf) | (refine LoopG.un 12 ?_; conv => whnf) | fail)
  all_goals first | exact .mk ⟨rfl, rfl⟩ | trace_state
set_option maxRecDepth 100000 in
set_option maxHeartbeats 4000000 in
theorem webPath_c : PCp 94 [.c (.ptr 0 0), .agg [cB, cC, n1]] webO (.tup [.c (.row 4), .c (.bool false)]) (webO ++ [.row 214 4 [[cC, n1, cB, cA]]]) := by
  refine fn_sound (mt := mts) tab_fits tab_mixed Tryz.func94 (by rfl) (by kernel_rfl) (by kernel_rfl) Tryz.results94 (Nat.le_of_ble_eq_true (by kernel_rfl)) ?_
  conv => whnf
  repeat' (first | (refine CondG.mk (fun h => ?_) (fun h => absurd h (by decide +kernel)); clear h; conv => whnf) | (refine CondG.mk (fun h => absurd h (by decide +kernel)) (fun h => ?_); clear h; conv => whnf) | (refine Split.mk (fun h => ?_) (fun h => absurd h (by decide +kernel)); clear h; conv => whnf) | (refine Split.mk (fun h => absurd h (by decide +kernel)) (fun h => ?_); clear h; conv => whnf) | (refine CallX.mk _ _ (by first | exact webHop_c | exact webNext_c) ?_; conv => whnf) | (refine CallG.mk _ _ (by first | exact webHop_c | exact webNext_c) ?_; conv => whnf) | (refine Ask.mk (by first | decide | (unfold roomOK; decide)) ?_; conv => whnf) | (refine AppG.mk (by first | decide | (unfold roomOK; decide)) ?_; conv => whnf) | (refine SliceG.fr ?_; conv => whnf) | (refine IdxG.mk _ ⟨by decide, by rfl⟩ ?_; conv => whnf) | (refine RowG.mk _ (by rfl) ?_; conv => whnf) | (refine look_no (by decide +kernel) ?_; conv => whnf) | (refine look_ix 0 (by rfl) (by decide +kernel) ?_; conv => whnf) | (refine look_ix 1 (by rfl) (by decide +kernel) ?_; conv => whnf) | (refine look_ix 2 (by rfl) (by decide +kernel) ?_; conv => whnf) | (refine upd_no (by decide +kernel) ?_; conv => whnf) | (refine LoopG.un 12 ?_; conv => whnf) | fail)
  all_goals first | exact .mk ⟨rfl, rfl⟩ | trace_state
set_option maxRecDepth 100000 in
set_option maxHeartbeats 4000000 in
theorem path_c : PCp 57 [.agg tinyL, .agg [cC, n1], .c cB] [] (.tup [.c (.row 0), .c (.int .i64 0)]) [.row 214 4 [[cC, n1, cB, cA]]] := by
  refine fn_sound (mt := mts) tab_fits tab_mixed Tryz.func57 (by rfl) (by kernel_rfl) (by kernel_rfl) Tryz.results57 (Nat.le_of_ble_eq_true (by kernel_rfl)) ?_
  conv => whnf
  repeat' (first | (refine CondG.mk (fun h => ?_) (fun h => absurd h (by decide +kernel)); clear h; conv => whnf) | (refine CondG.mk (fun h => absurd h (by decide +kernel)) (fun h => ?_); clear h; conv => whnf) | (refine Split.mk (fun h => ?_) (fun h => absurd h (by decide +kernel)); clear h; conv => whnf) | (refine Split.mk (fun h => absurd h (by decide +kernel)) (fun h => ?_); clear h; conv => whnf) | (refine CallX.mk _ _ (by first | exact endOf_c | exact webAt_c cB (.inr rfl) | exact webPath_c) ?_; conv => whnf) | (refine CallG.mk _ _ (by first | exact endOf_c | exact webAt_c cB (.inr rfl) | exact webPath_c) ?_; conv => whnf) | (refine Ask.mk (by first | decide | (unfold roomOK; decide)) ?_; conv => whnf) | (refine AppG.mk (by first | decide | (unfold roomOK; decide)) ?_; conv => whnf) | (refine SliceG.fr ?_; conv => whnf) | (refine IdxG.mk _ ⟨by decide, by rfl⟩ ?_; conv => whnf) | (refine RowG.mk _ (by rfl) ?_; conv => whnf) | (refine look_no (by decide +kernel) ?_; conv => whnf) | (refine look_ix 0 (by rfl) (by decide +kernel) ?_; conv => whnf) | (refine look_ix 1 (by rfl) (by decide +kernel) ?_; conv => whnf) | (refine look_ix 2 (by rfl) (by decide +kernel) ?_; conv => whnf) | (refine upd_no (by decide +kernel) ?_; conv => whnf) | (refine LoopG.un 12 ?_; conv => whnf) | fail)
  all_goals first | exact .mk ⟨rfl, rfl⟩ | trace_state
end Go.Proofs.YtobcplhaabaemaaGreat
