/- Parts of the proof, in order. -/
import Derived.Test.YtllpjcgadfmipaaGreatMExplanationsExplain1

/- Acts in a store, by the abstract walk. -/
namespace Go.Proofs.YtllpjcgadfmipaaGreat
set_option linter.unusedVariables false
set_option linter.unusedSimpArgs false
open Abs

structure Ac where
  mo : Int
  kd : Int
  drum : ByteArray
  ty : ByteArray
  of : ByteArray
  long : Int
def encAc (x : Ac) : List V := [.int .i64 x.mo, .int .i64 x.kd, .str x.drum, .str x.ty, .str x.of, .int .i64 x.long]
def momB (n : Int) : Bool := decide (0 ≤ n ∧ n ≤ 345686399999)
set_option maxRecDepth 100000 in
set_option maxHeartbeats 4000000 in
theorem bMoment_pc (n : Int) : PCp 128 [.c (.int .i64 n)] [] (.c (.bool (momB n))) [] := by
  refine fn_sound (mt := mts) tab_fits tab_mixed Tryz.func128 (by rfl) (by kernel_rfl) (by kernel_rfl) Tryz.results128 (Nat.le_of_ble_eq_true (by kernel_rfl)) ?_
  conv => whnf
  repeat' (first | ((first | refine Split.mk (fun h => ?_) (fun h => ?_) | refine CondG.mk (fun h => ?_) (fun h => ?_)) <;> (try simp only [decide_eq_true_eq, decide_eq_false_iff_not, Bool.not_eq_true', Bool.not_eq_false', beq_iff_eq, beq_eq_false_iff_ne] at h) <;> (first | (exfalso; first | omega | exact h trivial) | (conv => whnf))) | (refine CallX.mk _ _ (by first | exact bOut_pc _ _ _) ?_; conv => whnf) | (refine CallG.mk _ _ (by first | exact bOut_pc _ _ _) ?_; conv => whnf) | (refine Ask.mk (by first | omega | (unfold roomOK; simp [cutRows]; done) | (unfold roomOK; simp [cutRows]; omega)) ?_; conv => whnf) | (refine AppG.mk (by first | omega | (unfold roomOK; simp [cutRows]; done) | (unfold roomOK; simp [cutRows]; omega)) ?_; conv => whnf) | (refine SliceG.fr ?_; conv => whnf) | fail)
  exact finb (by unfold momB; rw [Bool.eq_iff_iff]; simp; try omega)
def actErr (x : Ac) : Int :=
  if !momB x.mo then 1 else if x.kd < 1 ∨ 4 < x.kd then 4
  else if !keyB x.drum || (x.kd == 1 && !keyB x.ty) || (x.kd == 3 && !keyB x.of) then 5
  else if x.kd ≠ 4 ∧ (x.long < 1 ∨ 200000 < x.long) then 1
  else if (x.kd ≠ 1 ∧ x.ty.toList ≠ (⟨#[]⟩ : ByteArray).toList) ∨ (x.kd ≠ 3 ∧ x.of.toList ≠ (⟨#[]⟩ : ByteArray).toList) ∨ (x.kd = 4 ∧ x.long ≠ 0) then 3 else 0
set_option maxRecDepth 100000 in
set_option maxHeartbeats 4000000 in
theorem dActFault_pc (x : Ac) : PCp 171 [.agg (encAc x)] [] (.c (.int .i64 (actErr x))) [] := by
  refine fn_sound (mt := mts) tab_fits tab_mixed Tryz.func171 (by rfl) (by kernel_rfl) (by kernel_rfl) Tryz.results171 (Nat.le_of_ble_eq_true (by kernel_rfl)) ?_
  conv => whnf
  repeat' (first | ((first | refine Split.mk (fun h => ?_) (fun h => ?_) | refine CondG.mk (fun h => ?_) (fun h => ?_)) <;> (try simp only [decide_eq_true_eq, decide_eq_false_iff_not, Bool.not_eq_true', Bool.not_eq_false', beq_iff_eq, beq_eq_false_iff_ne] at h) <;> (first | (exfalso; first | omega | exact h trivial) | (conv => whnf))) | (refine CallX.mk _ _ (by first | exact bMoment_pc _ | exact bOut_pc _ _ _ | exact bKey_pc _) ?_; conv => whnf) | (refine CallG.mk _ _ (by first | exact bMoment_pc _ | exact bOut_pc _ _ _ | exact bKey_pc _) ?_; conv => whnf) | (refine Ask.mk (by first | omega | (unfold roomOK; simp [cutRows]; done) | (unfold roomOK; simp [cutRows]; omega)) ?_; conv => whnf) | (refine AppG.mk (by first | omega | (unfold roomOK; simp [cutRows]; done) | (unfold roomOK; simp [cutRows]; omega)) ?_; conv => whnf) | (refine SliceG.fr ?_; conv => whnf) | fail)
  all_goals refine fini ?_
  all_goals unfold actErr
  all_goals generalize (⟨#[]⟩ : ByteArray).toList = nl at *
  all_goals simp_all
  all_goals omega
def cmpI (a b : Int) : Int := if a < b then -1 else if b < a then 1 else 0
set_option maxRecDepth 100000 in
set_option maxHeartbeats 4000000 in
theorem isNaNI_pc (a : Int) : PCp 196 [.c (.int .i64 a)] [] (.c (.bool false)) [] := by
  refine fn_sound (mt := mts) tab_fits tab_mixed Tryz.func196 (by rfl) (by kernel_rfl) (by kernel_rfl) Tryz.results196 (Nat.le_of_ble_eq_true (by kernel_rfl)) ?_
  conv => whnf
  exact finb (by simp)
set_option maxRecDepth 100000 in
set_option maxHeartbeats 4000000 in
theorem cmpI_pc (a b : Int) : PCp 158 [.c (.int .i64 a), .c (.int .i64 b)] [] (.c (.int .i64 (cmpI a b))) [] := by
  refine fn_sound (mt := mts) tab_fits tab_mixed Tryz.func158 (by rfl) (by kernel_rfl) (by kernel_rfl) Tryz.results158 (Nat.le_of_ble_eq_true (by kernel_rfl)) ?_
  conv => whnf
  repeat' (first | ((first | refine Split.mk (fun h => ?_) (fun h => ?_) | refine CondG.mk (fun h => ?_) (fun h => ?_)) <;> (try simp only [decide_eq_true_eq, decide_eq_false_iff_not, Bool.not_eq_true', Bool.not_eq_false', beq_iff_eq, beq_eq_false_iff_ne] at h) <;> (first | (exfalso; first | omega | exact h trivial) | (conv => whnf))) | (refine CallX.mk _ _ (by first | exact isNaNI_pc _) ?_; conv => whnf) | (refine CallG.mk _ _ (by first | exact isNaNI_pc _) ?_; conv => whnf) | (refine Ask.mk (by first | omega | (unfold roomOK; simp [cutRows]; done) | (unfold roomOK; simp [cutRows]; omega)) ?_; conv => whnf) | (refine AppG.mk (by first | omega | (unfold roomOK; simp [cutRows]; done) | (unfold roomOK; simp [cutRows]; omega)) ?_; conv => whnf) | (refine SliceG.fr ?_; conv => whnf) | fail)
  all_goals exact fini (by simp_all [cmpI] <;> omega)
set_option maxRecDepth 100000 in
set_option maxHeartbeats 4000000 in
theorem orI_pc (l : List Int) (hl : l.length ≤ 1000000) : PCp 219 [.c (.lst 1 (l.map encI))] [] (.c (.int .i64 (firstErr l))) [] := by
  have hlm : (l.map encI).length = l.length := List.length_map ..
  refine fn_sound (mt := mts) tab_fits tab_mixed Tryz.func219 (by rfl) (by kernel_rfl) (by kernel_rfl) Tryz.results219 (Nat.le_of_ble_eq_true (by kernel_rfl)) ?_
  conv => whnf
  refine loop_count (l.length) [] [3, 6, 7, 8] (fun k (_ : Unit) => ⟨[(3, .c (.int .i64 0)), (6, .c (.lst 1 (l.map encI))), (7, .c (.int .i64 (l.map encI).length)), (8, .c (.int .i64 k))], [], 0⟩) (fun k (_ : Unit) => firstErr (l.drop k) = firstErr l) (()) ?_ ?_ ?_
  · conv => whnf
    exact ⟨rfl, rfl⟩
  · intro k _ hk hi
    rw [drop_cons hk, firstErr] at hi
    conv => whnf
    repeat' (first | ((first | refine Split.mk (fun h => ?_) (fun h => ?_) | refine CondG.mk (fun h => ?_) (fun h => ?_)) <;> (try simp only [decide_eq_true_eq, decide_eq_false_iff_not, Bool.not_eq_true', Bool.not_eq_false', beq_iff_eq, beq_eq_false_iff_ne] at h) <;> (first | (exfalso; first | omega | exact h trivial) | (conv => whnf))) | (refine Ask.mk (by first | omega | (unfold roomOK; simp [cutRows]; done) | (unfold roomOK; simp [cutRows]; omega)) ?_; conv => whnf) | (refine AppG.mk (by first | omega | (unfold roomOK; simp [cutRows]; done) | (unfold roomOK; simp [cutRows]; omega)) ?_; conv => whnf) | (refine SliceG.fr ?_; conv => whnf) | fail)
    refine idx_map k hk rfl ?_
    conv => whnf
    repeat' (first | ((first | refine Split.mk (fun h => ?_) (fun h => ?_) | refine CondG.mk (fun h => ?_) (fun h => ?_)) <;> (try simp only [decide_eq_true_eq, decide_eq_false_iff_not, Bool.not_eq_true', Bool.not_eq_false', beq_iff_eq, beq_eq_false_iff_ne] at h) <;> (first | (exfalso; first | omega | exact h trivial) | (conv => whnf))) | (refine Ask.mk (by first | omega | (unfold roomOK; simp [cutRows]; done) | (unfold roomOK; simp [cutRows]; omega)) ?_; conv => whnf) | (refine AppG.mk (by first | omega | (unfold roomOK; simp [cutRows]; done) | (unfold roomOK; simp [cutRows]; omega)) ?_; conv => whnf) | (refine SliceG.fr ?_; conv => whnf) | fail)
    · exact fini (by rw [← hi, if_neg (by simpa using h)])
    · refine count_next () hk (by rw [wrap_succ hk (by omega)]; rfl) ?_
      rw [← hi, if_pos (by simpa using h)]
  · intro _ hi
    rw [List.drop_of_length_le (Nat.le_refl _)] at hi
    conv => whnf
    repeat' (first | ((first | refine Split.mk (fun h => ?_) (fun h => ?_) | refine CondG.mk (fun h => ?_) (fun h => ?_)) <;> (try simp only [decide_eq_true_eq, decide_eq_false_iff_not, Bool.not_eq_true', Bool.not_eq_false', beq_iff_eq, beq_eq_false_iff_ne] at h) <;> (first | (exfalso; first | omega | exact h trivial) | (conv => whnf))) | (refine Ask.mk (by first | omega | (unfold roomOK; simp [cutRows]; done) | (unfold roomOK; simp [cutRows]; omega)) ?_; conv => whnf) | (refine AppG.mk (by first | omega | (unfold roomOK; simp [cutRows]; done) | (unfold roomOK; simp [cutRows]; omega)) ?_; conv => whnf) | (refine SliceG.fr ?_; conv => whnf) | fail)
    exact fini (by rw [← hi]; rfl)
def timeC (a b : Ac) : Int := firstErr [cmpI a.mo b.mo, cmpS a.drum b.drum, cmpI a.kd b.kd, cmpS a.ty b.ty, cmpS a.of b.of, cmpI a.long b.long]
set_option maxRecDepth 100000 in
set_option maxHeartbeats 4000000 in
theorem byTime_pc (a b : Ac) : PCp 172 [.agg (encAc a), .agg (encAc b)] [] (.c (.int .i64 (timeC a b))) [] := by
  refine fn_sound (mt := mts) tab_fits tab_mixed Tryz.func172 (by rfl) (by kernel_rfl) (by kernel_rfl) Tryz.results172 (Nat.le_of_ble_eq_true (by kernel_rfl)) ?_
  conv => whnf
  repeat' (first | ((first | refine Split.mk (fun h => ?_) (fun h => ?_) | refine CondG.mk (fun h => ?_) (fun h => ?_)) <;> (try simp only [decide_eq_true_eq, decide_eq_false_iff_not, Bool.not_eq_true', Bool.not_eq_false', beq_iff_eq, beq_eq_false_iff_ne] at h) <;> (first | (exfalso; first | omega | exact h trivial) | (conv => whnf))) | (refine CallX.mk _ _ (by first | exact cmpI_pc _ _ | exact sCompare_pc _ _ | exact orI_pc [cmpI a.mo b.mo, cmpS a.drum b.drum, cmpI a.kd b.kd, cmpS a.ty b.ty, cmpS a.of b.of, cmpI a.long b.long] (by simp)) ?_; conv => whnf) | (refine CallG.mk _ _ (by first | exact cmpI_pc _ _ | exact sCompare_pc _ _ | exact orI_pc [cmpI a.mo b.mo, cmpS a.drum b.drum, cmpI a.kd b.kd, cmpS a.ty b.ty, cmpS a.of b.of, cmpI a.long b.long] (by simp)) ?_; conv => whnf) | (refine Ask.mk (by first | omega | (unfold roomOK; simp [cutRows]; done) | (unfold roomOK; simp [cutRows]; omega)) ?_; conv => whnf) | (refine AppG.mk (by first | omega | (unfold roomOK; simp [cutRows]; done) | (unfold roomOK; simp [cutRows]; omega)) ?_; conv => whnf) | (refine SliceG.fr ?_; conv => whnf) | fail)
  exact fini rfl
def badPrev (p : Option Ac) (x : Ac) : Bool := match p with | none => false | some y => decide (timeC x y ≤ 0)
def actsErr : Option Ac → List Ac → Int
  | _, [] => 0
  | p, x :: r => if actErr x ≠ 0 then actErr x else if badPrev p x = true then 7 else actsErr (some x) r
def prevAt (l : List Ac) (k : Nat) : Option Ac := if k = 0 then none else l[k - 1]?
def actsFault (l : List Ac) : Int := if 2000 < l.length then 2 else actsErr none l
set_option maxRecDepth 100000 in
set_option maxHeartbeats 4000000 in
theorem checkActs_pc (l : List Ac) : PCp 125 [.c (.lst 6 (l.map encAc))] [] (.c (.int .i64 (actsFault l))) [] := by
  have hlm : (l.map encAc).length = l.length := List.length_map ..
  refine fn_sound (mt := mts) tab_fits tab_mixed Tryz.func125 (by rfl) (by kernel_rfl) (by kernel_rfl) Tryz.results125 (Nat.le_of_ble_eq_true (by kernel_rfl)) ?_
  conv => whnf
  repeat' (first | ((first | refine Split.mk (fun h => ?_) (fun h => ?_) | refine CondG.mk (fun h => ?_) (fun h => ?_)) <;> (try simp only [decide_eq_true_eq, decide_eq_false_iff_not, Bool.not_eq_true', Bool.not_eq_false', beq_iff_eq, beq_eq_false_iff_ne] at h) <;> (first | (exfalso; first | omega | exact h trivial) | (conv => whnf))) | (refine Ask.mk (by first | omega | (unfold roomOK; simp [cutRows]; done) | (unfold roomOK; simp [cutRows]; omega)) ?_; conv => whnf) | (refine AppG.mk (by first | omega | (unfold roomOK; simp [cutRows]; done) | (unfold roomOK; simp [cutRows]; omega)) ?_; conv => whnf) | (refine SliceG.fr ?_; conv => whnf) | fail)
  · exact fini (by rw [actsFault, if_pos (by omega)])
  have hF : actsFault l = actsErr none l := by rw [actsFault, if_neg (by omega)]
  refine loop_count (l.length) [] [0, 9, 10, 11] (fun k (_ : Unit) => ⟨[(0, .c (.lst 6 (l.map encAc))), (9, .c (.lst 6 (l.map encAc))), (10, .c (.int .i64 (l.map encAc).length)), (11, .c (.int .i64 k))], [], 0⟩) (fun k (_ : Unit) => actsErr (prevAt l k) (l.drop k) = actsErr none l) (()) ?_ ?_ ?_
  · conv => whnf
    exact ⟨rfl, rfl⟩
  · intro k _ hk hi
    rw [drop_cons hk, actsErr] at hi
    have hp1 : prevAt l (k + 1) = some l[k] := by simp [prevAt, hk]
    conv => whnf
    repeat' (first | ((first | refine Split.mk (fun h => ?_) (fun h => ?_) | refine CondG.mk (fun h => ?_) (fun h => ?_)) <;> (try simp only [decide_eq_true_eq, decide_eq_false_iff_not, Bool.not_eq_true', Bool.not_eq_false', beq_iff_eq, beq_eq_false_iff_ne] at h) <;> (first | (exfalso; first | omega | exact h trivial) | (conv => whnf))) | (refine Ask.mk (by first | omega | (unfold roomOK; simp [cutRows]; done) | (unfold roomOK; simp [cutRows]; omega)) ?_; conv => whnf) | (refine AppG.mk (by first | omega | (unfold roomOK; simp [cutRows]; done) | (unfold roomOK; simp [cutRows]; omega)) ?_; conv => whnf) | (refine SliceG.fr ?_; conv => whnf) | fail)
    refine idx_map k hk rfl ?_
    conv => whnf
    repeat' (first | ((first | refine Split.mk (fun h => ?_) (fun h => ?_) | refine CondG.mk (fun h => ?_) (fun h => ?_)) <;> (try simp only [decide_eq_true_eq, decide_eq_false_iff_not, Bool.not_eq_true', Bool.not_eq_false', beq_iff_eq, beq_eq_false_iff_ne] at h) <;> (first | (exfalso; first | omega | exact h trivial) | (conv => whnf))) | (refine CallX.mk _ _ (by first | exact dActFault_pc _) ?_; conv => whnf) | (refine CallG.mk _ _ (by first | exact dActFault_pc _) ?_; conv => whnf) | (refine Ask.mk (by first | omega | (unfold roomOK; simp [cutRows]; done) | (unfold roomOK; simp [cutRows]; omega)) ?_; conv => whnf) | (refine AppG.mk (by first | omega | (unfold roomOK; simp [cutRows]; done) | (unfold roomOK; simp [cutRows]; omega)) ?_; conv => whnf) | (refine SliceG.fr ?_; conv => whnf) | fail)
    · have h' : actErr l[k] ≠ 0 := by simpa using h
      rw [if_pos h'] at hi
      exact fini (by rw [hF, ← hi])
    · rename_i h0
      have h' : ¬ actErr l[k] ≠ 0 := by simpa using h0
      rw [if_neg h'] at hi
      have hk1 : IntKind.i64.wrap ((k : Int) - 1) = ((k - 1 : Nat) : Int) := by rw [wrap_in (by omega) (by omega)]; omega
      have hp : prevAt l k = some (l[k - 1]'(by omega)) := by rw [prevAt, if_neg (by omega)]; exact List.getElem?_eq_getElem (by omega)
      rw [hp] at hi
      refine idx_map (k - 1) (by omega) hk1 ?_
      conv => whnf
      repeat' (first | ((first | refine Split.mk (fun h => ?_) (fun h => ?_) | refine CondG.mk (fun h => ?_) (fun h => ?_)) <;> (try simp only [decide_eq_true_eq, decide_eq_false_iff_not, Bool.not_eq_true', Bool.not_eq_false', beq_iff_eq, beq_eq_false_iff_ne] at h) <;> (first | (exfalso; first | omega | exact h trivial) | (conv => whnf))) | (refine CallX.mk _ _ (by first | exact byTime_pc _ _) ?_; conv => whnf) | (refine CallG.mk _ _ (by first | exact byTime_pc _ _) ?_; conv => whnf) | (refine Ask.mk (by first | omega | (unfold roomOK; simp [cutRows]; done) | (unfold roomOK; simp [cutRows]; omega)) ?_; conv => whnf) | (refine AppG.mk (by first | omega | (unfold roomOK; simp [cutRows]; done) | (unfold roomOK; simp [cutRows]; omega)) ?_; conv => whnf) | (refine SliceG.fr ?_; conv => whnf) | fail)
      · skip
        rw [if_pos (by simpa [badPrev] using h)] at hi
        exact fini (by rw [hF, ← hi])
      · skip
        rw [if_neg (by simpa [badPrev] using h)] at hi
        refine count_next () hk (by rw [wrap_succ hk (by omega)]; rfl) ?_
        rw [hp1]; exact hi
    · have h' : ¬ actErr l[k] ≠ 0 := by simp_all
      have h0 : k = 0 := by omega
      subst h0
      rw [if_neg h', if_neg (by simp [badPrev, prevAt])] at hi
      refine count_next () hk (by rw [wrap_succ hk (by omega)]; rfl) ?_
      rw [hp1]; exact hi
  · intro _ hi
    rw [List.drop_of_length_le (Nat.le_refl _)] at hi
    conv => whnf
    repeat' (first | ((first | refine Split.mk (fun h => ?_) (fun h => ?_) | refine CondG.mk (fun h => ?_) (fun h => ?_)) <;> (try simp only [decide_eq_true_eq, decide_eq_false_iff_not, Bool.not_eq_true', Bool.not_eq_false', beq_iff_eq, beq_eq_false_iff_ne] at h) <;> (first | (exfalso; first | omega | exact h trivial) | (conv => whnf))) | (refine Ask.mk (by first | omega | (unfold roomOK; simp [cutRows]; done) | (unfold roomOK; simp [cutRows]; omega)) ?_; conv => whnf) | (refine AppG.mk (by first | omega | (unfold roomOK; simp [cutRows]; done) | (unfold roomOK; simp [cutRows]; omega)) ?_; conv => whnf) | (refine SliceG.fr ?_; conv => whnf) | fail)
    exact fini (by rw [hF, ← hi]; rfl)

end Go.Proofs.YtllpjcgadfmipaaGreat

/- A store with one drum, by the abstract walk. -/
namespace Go.Proofs.YtllpjcgadfmipaaGreat
set_option linter.unusedVariables false
set_option linter.unusedSimpArgs false
open Abs

/-- a first drum comes -/
abbrev stBox : Ob := .box [.mp 1, .mp 2]
set_option maxRecDepth 100000 in
set_option maxHeartbeats 4000000 in
theorem take1_pc (x : Ac) (hk : x.kd = 1) : PCp 127 [.c (.ptr 0 0), .agg (encAc x)] [stBox, .map 0 [], .map 0 []] (.tup [.c (.str x.ty), .c (.int .i64 0)]) [stBox, .map 1 [(0, .c (.str x.drum), .agg [.str x.ty, .int .i64 x.long])], .map 1 [(0, .c (.str x.drum), .c (.str x.ty))]] := by
  refine fn_sound (mt := mts) tab_fits tab_mixed Tryz.func127 (by rfl) (by kernel_rfl) (by kernel_rfl) Tryz.results127 (Nat.le_of_ble_eq_true (by kernel_rfl)) ?_
  conv => whnf
  repeat (refine .mk _ _ (.inr ⟨rfl, rfl, rfl⟩) ?_; conv => whnf)
  repeat' (first | ((first | refine Split.mk (fun h => ?_) (fun h => ?_) | refine CondG.mk (fun h => ?_) (fun h => ?_)) <;> (try simp only [decide_eq_true_eq, decide_eq_false_iff_not, Bool.not_eq_true', Bool.not_eq_false', beq_iff_eq, beq_eq_false_iff_ne] at h) <;> (first | (exfalso; first | omega | exact h trivial) | (conv => whnf))) | (refine Ask.mk (by first | omega | (unfold roomOK; simp [cutRows]; done) | (unfold roomOK; simp [cutRows]; omega)) ?_; conv => whnf) | (refine AppG.mk (by first | omega | (unfold roomOK; simp [cutRows]; done) | (unfold roomOK; simp [cutRows]; omega)) ?_; conv => whnf) | (refine SliceG.fr ?_; conv => whnf) | fail)
  · cases h
  refine .mk _ _ _ _ (.inr ⟨rfl, rfl, rfl, rfl, rfl⟩) ?_
  conv => whnf
  refine .mk 0 0 _ _ ⟨rfl, rfl, by intro i hi; omega⟩ ?_
  conv => whnf
  refine .mk _ _ _ _ (.inr ⟨rfl, rfl, rfl, rfl, rfl⟩) ?_
  conv => whnf
  refine .mk 0 0 _ _ ⟨rfl, rfl, by intro i hi; omega⟩ ?_
  conv => whnf
  exact .mk ⟨rfl, rfl⟩
/-- a store with one drum -/
abbrev stOne (x : Ac) : List Ob := [stBox, .map 1 [(0, .c (.str x.drum), .agg [.str x.ty, .int .i64 x.long])], .map 1 [(0, .c (.str x.drum), .c (.str x.ty))]]
set_option maxRecDepth 100000 in
set_option maxHeartbeats 4000000 in
theorem at1_pc (x : Ac) (a b : Int) (s : ByteArray) : PCp 129 [.c (.ptr 0 0), .c (.int .i64 a), .c (.str s), .c (.int .i64 b)] (stOne x) (.tup []) (stOne x) := by
  refine fn_sound (mt := mts) tab_fits tab_mixed Tryz.func129 (by rfl) (by kernel_rfl) (by kernel_rfl) Tryz.results129 (Nat.le_of_ble_eq_true (by kernel_rfl)) ?_
  conv => whnf
  exact .mk ⟨rfl, rfl⟩
set_option maxRecDepth 100000 in
set_option maxHeartbeats 4000000 in
theorem follow1_pc (x : Ac) (hk : x.kd = 1) : PCp 72 [.c (.lst 6 [encAc x]), .c (.fn 129 [])] [] (.c (.ptr 0 0)) (stOne x) := by
  refine fn_sound (mt := mts) tab_fits tab_mixed Tryz.func72 (by rfl) (by kernel_rfl) (by kernel_rfl) Tryz.results72 (Nat.le_of_ble_eq_true (by kernel_rfl)) ?_
  conv => whnf
  refine .un 2 ?_
  conv => whnf
  repeat' (first | ((first | refine Split.mk (fun h => ?_) (fun h => ?_) | refine CondG.mk (fun h => ?_) (fun h => ?_)) <;> (try simp only [decide_eq_true_eq, decide_eq_false_iff_not, Bool.not_eq_true', Bool.not_eq_false', beq_iff_eq, beq_eq_false_iff_ne] at h) <;> (first | (exfalso; first | omega | exact h trivial) | (conv => whnf))) | (refine Ask.mk (by first | omega | (unfold roomOK; simp [cutRows]; done) | (unfold roomOK; simp [cutRows]; omega)) ?_; conv => whnf) | (refine AppG.mk (by first | omega | (unfold roomOK; simp [cutRows]; done) | (unfold roomOK; simp [cutRows]; omega)) ?_; conv => whnf) | (refine SliceG.fr ?_; conv => whnf) | fail)
  rotate_left
  · exact absurd h (by simp)
  refine .mk (encAc x) ⟨by simp, rfl⟩ ?_
  conv => whnf
  repeat' (first | ((first | refine Split.mk (fun h => ?_) (fun h => ?_) | refine CondG.mk (fun h => ?_) (fun h => ?_)) <;> (try simp only [decide_eq_true_eq, decide_eq_false_iff_not, Bool.not_eq_true', Bool.not_eq_false', beq_iff_eq, beq_eq_false_iff_ne] at h) <;> (first | (exfalso; first | omega | exact h trivial) | (conv => whnf))) | (refine CallX.mk _ _ (by first | exact take1_pc x hk | exact at1_pc x _ _ _) ?_; conv => whnf) | (refine CallG.mk _ _ (by first | exact take1_pc x hk | exact at1_pc x _ _ _) ?_; conv => whnf) | (refine Ask.mk (by first | omega | (unfold roomOK; simp [cutRows]; done) | (unfold roomOK; simp [cutRows]; omega)) ?_; conv => whnf) | (refine AppG.mk (by first | omega | (unfold roomOK; simp [cutRows]; done) | (unfold roomOK; simp [cutRows]; omega)) ?_; conv => whnf) | (refine SliceG.fr ?_; conv => whnf) | fail)
  · exact absurd h (by show ¬ ((1 : Int) < 1); decide)
  · exact .mk ⟨rfl, rfl⟩
set_option maxRecDepth 100000 in
set_option maxHeartbeats 4000000 in
theorem at_pc (x : Ac) (hk : x.kd = 1) (hx : actErr x = 0) (m : Int) (hm : x.mo ≤ m) (hmm : momB m = true) : PCp 75 [.c (.lst 6 [encAc x]), .c (.int .i64 m)] [] (.tup [.c (.ptr 0 0), .c (.int .i64 0)]) (stOne x) := by
  have hc : actsFault [x] = 0 := by simp [actsFault, actsErr, hx, badPrev]
  refine fn_sound (mt := mts) tab_fits tab_mixed Tryz.func75 (by rfl) (by kernel_rfl) (by kernel_rfl) Tryz.results75 (Nat.le_of_ble_eq_true (by kernel_rfl)) ?_
  conv => whnf
  repeat' (first | ((first | refine Split.mk (fun h => ?_) (fun h => ?_) | refine CondG.mk (fun h => ?_) (fun h => ?_)) <;> (try simp only [decide_eq_true_eq, decide_eq_false_iff_not, Bool.not_eq_true', Bool.not_eq_false', beq_iff_eq, beq_eq_false_iff_ne] at h) <;> (first | (exfalso; first | omega | exact h trivial) | (conv => whnf))) | (refine CallX.mk _ _ (by first | exact checkActs_pc [x] | exact bMoment_pc _) ?_; conv => whnf) | (refine CallG.mk _ _ (by first | exact checkActs_pc [x] | exact bMoment_pc _) ?_; conv => whnf) | (refine Ask.mk (by first | omega | (unfold roomOK; simp [cutRows]; done) | (unfold roomOK; simp [cutRows]; omega)) ?_; conv => whnf) | (refine AppG.mk (by first | omega | (unfold roomOK; simp [cutRows]; done) | (unfold roomOK; simp [cutRows]; omega)) ?_; conv => whnf) | (refine SliceG.fr ?_; conv => whnf) | fail)
  · rw [hc] at h; cases h
  · rw [hmm] at h; cases h
  refine .un 1 ?_
  conv => whnf
  repeat' (first | ((first | refine Split.mk (fun h => ?_) (fun h => ?_) | refine CondG.mk (fun h => ?_) (fun h => ?_)) <;> (try simp only [decide_eq_true_eq, decide_eq_false_iff_not, Bool.not_eq_true', Bool.not_eq_false', beq_iff_eq, beq_eq_false_iff_ne] at h) <;> (first | (exfalso; first | omega | exact h trivial) | (conv => whnf))) | (refine Ask.mk (by first | omega | (unfold roomOK; simp [cutRows]; done) | (unfold roomOK; simp [cutRows]; omega)) ?_; conv => whnf) | (refine AppG.mk (by first | omega | (unfold roomOK; simp [cutRows]; done) | (unfold roomOK; simp [cutRows]; omega)) ?_; conv => whnf) | (refine SliceG.fr ?_; conv => whnf) | fail)
  · refine .mk (encAc x) ⟨by show (0 : Int) ≤ 0; decide, rfl⟩ ?_
    conv => whnf
    repeat' (first | ((first | refine Split.mk (fun h => ?_) (fun h => ?_) | refine CondG.mk (fun h => ?_) (fun h => ?_)) <;> (try simp only [decide_eq_true_eq, decide_eq_false_iff_not, Bool.not_eq_true', Bool.not_eq_false', beq_iff_eq, beq_eq_false_iff_ne] at h) <;> (first | (exfalso; first | omega | exact h trivial) | (conv => whnf))) | (refine CallX.mk _ _ (by first | exact follow1_pc x hk) ?_; conv => whnf) | (refine CallG.mk _ _ (by first | exact follow1_pc x hk) ?_; conv => whnf) | (refine Ask.mk (by first | omega | (unfold roomOK; simp [cutRows]; done) | (unfold roomOK; simp [cutRows]; omega)) ?_; conv => whnf) | (refine AppG.mk (by first | omega | (unfold roomOK; simp [cutRows]; done) | (unfold roomOK; simp [cutRows]; omega)) ?_; conv => whnf) | (refine SliceG.fr ?_; conv => whnf) | fail)
    exact .mk ⟨rfl, rfl⟩
  · exact absurd (by simp) h

end Go.Proofs.YtllpjcgadfmipaaGreat

/- A list of one drum is sorted. -/
namespace Go.Proofs.YtllpjcgadfmipaaGreat
set_option linter.unusedVariables false
set_option linter.unusedSimpArgs false
open Abs

set_option maxRecDepth 100000 in
set_option maxHeartbeats 4000000 in
theorem len64_pc : PCp 182 [.c (.int .u64 1)] [] (.c (.int .i64 1)) [] := by
  refine fn_sound (mt := mts) tab_fits tab_mixed Tryz.func182 (by rfl) (by kernel_rfl) (by kernel_rfl) Tryz.results182 (Nat.le_of_ble_eq_true (by kernel_rfl)) ?_
  conv => whnf
  repeat' (first | ((first | refine Split.mk (fun h => ?_) (fun h => ?_) | refine CondG.mk (fun h => ?_) (fun h => ?_)) <;> (try simp only [decide_eq_true_eq, decide_eq_false_iff_not, Bool.not_eq_true', Bool.not_eq_false', beq_iff_eq, beq_eq_false_iff_ne] at h) <;> (first | (exfalso; first | omega | exact h trivial) | (conv => whnf))) | (refine Ask.mk (by first | omega | (unfold roomOK; simp [cutRows]; done) | (unfold roomOK; simp [cutRows]; omega)) ?_; conv => whnf) | (refine AppG.mk (by first | omega | (unfold roomOK; simp [cutRows]; done) | (unfold roomOK; simp [cutRows]; omega)) ?_; conv => whnf) | (refine SliceG.fr ?_; conv => whnf) | fail)
  all_goals first | (exfalso; revert h; decide) | skip
  refine .mk (by decide +kernel) ?_
  conv => whnf
  exact fini (by decide +kernel)
set_option maxRecDepth 100000 in
set_option maxHeartbeats 4000000 in
theorem len_pc : PCp 131 [.c (.int .u64 1)] [] (.c (.int .i64 1)) [] := by
  refine fn_sound (mt := mts) tab_fits tab_mixed Tryz.func131 (by rfl) (by kernel_rfl) (by kernel_rfl) Tryz.results131 (Nat.le_of_ble_eq_true (by kernel_rfl)) ?_
  conv => whnf
  repeat' (first | ((first | refine Split.mk (fun h => ?_) (fun h => ?_) | refine CondG.mk (fun h => ?_) (fun h => ?_)) <;> (try simp only [decide_eq_true_eq, decide_eq_false_iff_not, Bool.not_eq_true', Bool.not_eq_false', beq_iff_eq, beq_eq_false_iff_ne] at h) <;> (first | (exfalso; first | omega | exact h trivial) | (conv => whnf))) | (refine CallX.mk _ _ (by first | exact len64_pc) ?_; conv => whnf) | (refine CallG.mk _ _ (by first | exact len64_pc) ?_; conv => whnf) | (refine Ask.mk (by first | omega | (unfold roomOK; simp [cutRows]; done) | (unfold roomOK; simp [cutRows]; omega)) ?_; conv => whnf) | (refine AppG.mk (by first | omega | (unfold roomOK; simp [cutRows]; done) | (unfold roomOK; simp [cutRows]; omega)) ?_; conv => whnf) | (refine SliceG.fr ?_; conv => whnf) | fail)
  exact fini rfl
set_option maxRecDepth 100000 in
set_option maxHeartbeats 4000000 in
theorem ins1_pc (r : List V) (g : Nat) : PCp 173 [.c (.row 0), .c (.int .i64 0), .c (.int .i64 1), .c (.fn g [])] [.row 65 3 [r]] (.tup []) [.row 65 3 [r]] := by
  refine fn_sound (mt := mts) tab_fits tab_mixed Tryz.func173 (by rfl) (by kernel_rfl) (by kernel_rfl) Tryz.results173 (Nat.le_of_ble_eq_true (by kernel_rfl)) ?_
  conv => whnf
  refine .un 1 ?_
  conv => whnf
  repeat' (first | ((first | refine Split.mk (fun h => ?_) (fun h => ?_) | refine CondG.mk (fun h => ?_) (fun h => ?_)) <;> (try simp only [decide_eq_true_eq, decide_eq_false_iff_not, Bool.not_eq_true', Bool.not_eq_false', beq_iff_eq, beq_eq_false_iff_ne] at h) <;> (first | (exfalso; first | omega | exact h trivial) | (conv => whnf))) | (refine Ask.mk (by first | omega | (unfold roomOK; simp [cutRows]; done) | (unfold roomOK; simp [cutRows]; omega)) ?_; conv => whnf) | (refine AppG.mk (by first | omega | (unfold roomOK; simp [cutRows]; done) | (unfold roomOK; simp [cutRows]; omega)) ?_; conv => whnf) | (refine SliceG.fr ?_; conv => whnf) | fail)
  all_goals first | exact .mk ⟨rfl, rfl⟩ | (exfalso; revert h; decide)
set_option maxRecDepth 100000 in
set_option maxHeartbeats 4000000 in
theorem pdq1_pc (r : List V) (g : Nat) : PCp 130 [.c (.row 0), .c (.int .i64 0), .c (.int .i64 1), .c (.int .i64 1), .c (.fn g [])] [.row 65 3 [r]] (.tup []) [.row 65 3 [r]] := by
  refine fn_sound (mt := mts) tab_fits tab_mixed Tryz.func130 (by rfl) (by kernel_rfl) (by kernel_rfl) Tryz.results130 (Nat.le_of_ble_eq_true (by kernel_rfl)) ?_
  conv => whnf
  refine .un 1 ?_
  conv => whnf
  repeat' (first | ((first | refine Split.mk (fun h => ?_) (fun h => ?_) | refine CondG.mk (fun h => ?_) (fun h => ?_)) <;> (try simp only [decide_eq_true_eq, decide_eq_false_iff_not, Bool.not_eq_true', Bool.not_eq_false', beq_iff_eq, beq_eq_false_iff_ne] at h) <;> (first | (exfalso; first | omega | exact h trivial) | (conv => whnf))) | (refine CallX.mk _ _ (by first | exact ins1_pc _ _) ?_; conv => whnf) | (refine CallG.mk _ _ (by first | exact ins1_pc _ _) ?_; conv => whnf) | (refine Ask.mk (by first | omega | (unfold roomOK; simp [cutRows]; done) | (unfold roomOK; simp [cutRows]; omega)) ?_; conv => whnf) | (refine AppG.mk (by first | omega | (unfold roomOK; simp [cutRows]; done) | (unfold roomOK; simp [cutRows]; omega)) ?_; conv => whnf) | (refine SliceG.fr ?_; conv => whnf) | fail)
  all_goals first | exact .mk ⟨rfl, rfl⟩ | (exfalso; revert h; decide) | (exfalso; rename_i h2; revert h2; decide)
set_option maxRecDepth 100000 in
set_option maxHeartbeats 4000000 in
theorem sort1_pc (r : List V) (g : Nat) : PCp 76 [.c (.row 0), .c (.fn g [])] [.row 65 3 [r]] (.tup []) [.row 65 3 [r]] := by
  refine fn_sound (mt := mts) tab_fits tab_mixed Tryz.func76 (by rfl) (by kernel_rfl) (by kernel_rfl) Tryz.results76 (Nat.le_of_ble_eq_true (by kernel_rfl)) ?_
  conv => whnf
  repeat' (first | ((first | refine Split.mk (fun h => ?_) (fun h => ?_) | refine CondG.mk (fun h => ?_) (fun h => ?_)) <;> (try simp only [decide_eq_true_eq, decide_eq_false_iff_not, Bool.not_eq_true', Bool.not_eq_false', beq_iff_eq, beq_eq_false_iff_ne] at h) <;> (first | (exfalso; first | omega | exact h trivial) | (conv => whnf))) | (refine CallX.mk _ _ (by first | exact len_pc | exact pdq1_pc _ _) ?_; conv => whnf) | (refine CallG.mk _ _ (by first | exact len_pc | exact pdq1_pc _ _) ?_; conv => whnf) | (refine Ask.mk (by first | omega | (unfold roomOK; simp [cutRows]; done) | (unfold roomOK; simp [cutRows]; omega)) ?_; conv => whnf) | (refine AppG.mk (by first | omega | (unfold roomOK; simp [cutRows]; done) | (unfold roomOK; simp [cutRows]; omega)) ?_; conv => whnf) | (refine SliceG.fr ?_; conv => whnf) | fail)
  exact .mk ⟨rfl, rfl⟩
set_option maxRecDepth 100000 in
set_option maxHeartbeats 4000000 in
theorem stock_pc (x : Ac) (hk : x.kd = 1) (hx : actErr x = 0) (m : Int) (hm : x.mo ≤ m) (hmm : momB m = true) : PCp 32 [.c (.lst 6 [encAc x]), .c (.int .i64 m)] [] (.tup [.c (.row 0), .c (.int .i64 0)]) [.row 65 3 [[.str x.drum, .str x.ty, .int .i64 x.long]]] := by
  refine fn_sound (mt := mts) tab_fits tab_mixed Tryz.func32 (by rfl) (by kernel_rfl) (by kernel_rfl) Tryz.results32 (Nat.le_of_ble_eq_true (by kernel_rfl)) ?_
  conv => whnf
  repeat' (first | ((first | refine Split.mk (fun h => ?_) (fun h => ?_) | refine CondG.mk (fun h => ?_) (fun h => ?_)) <;> (try simp only [decide_eq_true_eq, decide_eq_false_iff_not, Bool.not_eq_true', Bool.not_eq_false', beq_iff_eq, beq_eq_false_iff_ne] at h) <;> (first | (exfalso; first | omega | exact h trivial) | (conv => whnf))) | (refine CallX.mk _ _ (by first | exact at_pc x hk hx m hm hmm) ?_; conv => whnf) | (refine CallG.mk _ _ (by first | exact at_pc x hk hx m hm hmm) ?_; conv => whnf) | (refine Ask.mk (by first | omega | (unfold roomOK; simp [cutRows]; done) | (unfold roomOK; simp [cutRows]; omega)) ?_; conv => whnf) | (refine AppG.mk (by first | omega | (unfold roomOK; simp [cutRows]; done) | (unfold roomOK; simp [cutRows]; omega)) ?_; conv => whnf) | (refine SliceG.fr ?_; conv => whnf) | fail)
  · cases h
  refine .un 2 ?_
  conv => whnf
  refine .mk rfl ?_
  conv => whnf
  refine .mk (α := Nat × S × S) (fun e => e) [(0, .c (.str x.drum), .agg [.str x.ty, .int .i64 x.long])] rfl (by intro h; cases h) ?_
  intro e he
  simp only [List.mem_singleton] at he
  subst he
  conv => whnf
  repeat' (first | ((first | refine Split.mk (fun h => ?_) (fun h => ?_) | refine CondG.mk (fun h => ?_) (fun h => ?_)) <;> (try simp only [decide_eq_true_eq, decide_eq_false_iff_not, Bool.not_eq_true', Bool.not_eq_false', beq_iff_eq, beq_eq_false_iff_ne] at h) <;> (first | (exfalso; first | omega | exact h trivial) | (conv => whnf))) | (refine Ask.mk (by first | omega | (unfold roomOK; simp [cutRows]; done) | (unfold roomOK; simp [cutRows]; omega)) ?_; conv => whnf) | (refine AppG.mk (by first | omega | (unfold roomOK; simp [cutRows]; done) | (unfold roomOK; simp [cutRows]; omega)) ?_; conv => whnf) | (refine SliceG.fr ?_; conv => whnf) | fail)
  refine .mk _ _ rfl ?_
  conv => whnf
  repeat' (first | ((first | refine Split.mk (fun h => ?_) (fun h => ?_) | refine CondG.mk (fun h => ?_) (fun h => ?_)) <;> (try simp only [decide_eq_true_eq, decide_eq_false_iff_not, Bool.not_eq_true', Bool.not_eq_false', beq_iff_eq, beq_eq_false_iff_ne] at h) <;> (first | (exfalso; first | omega | exact h trivial) | (conv => whnf))) | (refine Ask.mk (by first | omega | (unfold roomOK; simp [cutRows]; done) | (unfold roomOK; simp [cutRows]; omega)) ?_; conv => whnf) | (refine AppG.mk (by first | omega | (unfold roomOK; simp [cutRows]; done) | (unfold roomOK; simp [cutRows]; omega)) ?_; conv => whnf) | (refine SliceG.fr ?_; conv => whnf) | fail)
  refine .mk (α := Nat × S × S) (fun e => e) [] rfl (fun _ => ?_) (by intro e he; cases he)
  conv => whnf
  repeat' (first | ((first | refine Split.mk (fun h => ?_) (fun h => ?_) | refine CondG.mk (fun h => ?_) (fun h => ?_)) <;> (try simp only [decide_eq_true_eq, decide_eq_false_iff_not, Bool.not_eq_true', Bool.not_eq_false', beq_iff_eq, beq_eq_false_iff_ne] at h) <;> (first | (exfalso; first | omega | exact h trivial) | (conv => whnf))) | (refine CallX.mk _ _ (by first | exact sort1_pc _ _) ?_; conv => whnf) | (refine CallG.mk _ _ (by first | exact sort1_pc _ _) ?_; conv => whnf) | (refine Ask.mk (by first | omega | (unfold roomOK; simp [cutRows]; done) | (unfold roomOK; simp [cutRows]; omega)) ?_; conv => whnf) | (refine AppG.mk (by first | omega | (unfold roomOK; simp [cutRows]; done) | (unfold roomOK; simp [cutRows]; omega)) ?_; conv => whnf) | (refine SliceG.fr ?_; conv => whnf) | fail)
  exact .mk ⟨rfl, rfl⟩
end Go.Proofs.YtllpjcgadfmipaaGreat

/- The law PlansWeighed, by the abstract walk. -/
namespace Go.Proofs.YtllpjcgadfmipaaGreat
set_option linter.unusedVariables false
set_option linter.unusedSimpArgs false
open Abs

end Go.Proofs.YtllpjcgadfmipaaGreat

/- Lists of acts are sorted. -/
namespace Go.Proofs.YtllpjcgadfmipaaGreat
set_option linter.unusedVariables false
set_option linter.unusedSimpArgs false
open Abs

/-! the length of a small number -/
deriving instance DecidableEq for Ac
end Go.Proofs.YtllpjcgadfmipaaGreat

/- Acts are made. -/
namespace Go.Proofs.YtllpjcgadfmipaaGreat
set_option linter.unusedVariables false
set_option linter.unusedSimpArgs false
open Abs

def oddV (L : List Int) (p lo hi : Int) : Int := if nextV L p 12 == 0 then pickV L (p + 1) [lo - 1, hi + 1, lo, hi, -1099511627776, 1099511627776] else rangeV L (p + 1) lo hi
set_option maxRecDepth 100000 in
set_option maxHeartbeats 4000000 in
theorem odd_ok {L : List Int} {p : Int} (h : StOk L p) (h2 : StOk L (p + 1)) (lo hi : Int) (hlo : small lo) (hhi : small hi) (hlh : lo ≤ hi) : PCp 120 [.c (.ptr 0 0), .c (.int .i64 lo), .c (.int .i64 hi)] [stO L p] (.c (.int .i64 (oddV L p lo hi))) [stO L (p + 1 + 1)] := by
  have w1 : IntKind.i64.wrap (lo - 1) = lo - 1 := wrap_in (by unfold small at *; omega) (by unfold small at *; omega)
  have w2 : IntKind.i64.wrap (hi + 1) = hi + 1 := wrap_in (by unfold small at *; omega) (by unfold small at *; omega)
  refine fn_sound (mt := mts) tab_fits tab_mixed Tryz.func120 (by rfl) (by kernel_rfl) (by kernel_rfl) Tryz.results120 (Nat.le_of_ble_eq_true (by kernel_rfl)) ?_
  conv => whnf
  repeat' (first | ((first | refine Split.mk (fun h => ?_) (fun h => ?_) | refine CondG.mk (fun h => ?_) (fun h => ?_)) <;> (try simp only [decide_eq_true_eq, decide_eq_false_iff_not, Bool.not_eq_true', Bool.not_eq_false', beq_iff_eq, beq_eq_false_iff_ne] at h) <;> (first | (exfalso; first | omega | exact h trivial) | (conv => whnf))) | (refine CallX.mk _ _ (by first | exact flip_ok h 12 (by omega) | exact range_ok h2 lo hi hlh hlo hhi | exact (by rw [w1, w2]; exact pick_ok h2 [lo - 1, hi + 1, lo, hi, -1099511627776, 1099511627776] (by simp) (by simp))) ?_; conv => whnf) | (refine CallG.mk _ _ (by first | exact flip_ok h 12 (by omega) | exact range_ok h2 lo hi hlh hlo hhi | exact (by rw [w1, w2]; exact pick_ok h2 [lo - 1, hi + 1, lo, hi, -1099511627776, 1099511627776] (by simp) (by simp))) ?_; conv => whnf) | (refine Ask.mk (by first | omega | (unfold roomOK; simp [cutRows]; done) | (unfold roomOK; simp [cutRows]; omega)) ?_; conv => whnf) | (refine AppG.mk (by first | omega | (unfold roomOK; simp [cutRows]; done) | (unfold roomOK; simp [cutRows]; omega)) ?_; conv => whnf) | (refine SliceG.fr ?_; conv => whnf) | fail)
  · exact fini' (by rw [oddV, if_pos (by simpa using h)]) rfl
  · exact fini' (by rw [oddV, if_neg (by simpa using h)]) rfl
end Go.Proofs.YtllpjcgadfmipaaGreat

/- A store, as the program follows it. -/
namespace Go.Proofs.YtllpjcgadfmipaaGreat
set_option linter.unusedVariables false
set_option linter.unusedSimpArgs false
open Abs

structure Sto where
  d : SM ByteArray (ByteArray × Int)
  k : SM ByteArray ByteArray
structure Sto.ok (s : Sto) : Prop where
  d : s.d.ok
  k : s.k.ok
end Go.Proofs.YtllpjcgadfmipaaGreat

/- What was used, as the program counts it. -/
namespace Go.Proofs.YtllpjcgadfmipaaGreat
set_option linter.unusedVariables false
set_option linter.unusedSimpArgs false
open Abs

end Go.Proofs.YtllpjcgadfmipaaGreat

/- The least stock, as the program finds it. -/
namespace Go.Proofs.YtllpjcgadfmipaaGreat
set_option linter.unusedVariables false
set_option linter.unusedSimpArgs false
open Abs

end Go.Proofs.YtllpjcgadfmipaaGreat

/- The least stock, as the program finds it: all acts. -/
namespace Go.Proofs.YtllpjcgadfmipaaGreat
set_option linter.unusedVariables false
set_option linter.unusedSimpArgs false
open Abs

end Go.Proofs.YtllpjcgadfmipaaGreat

/- The document's store. -/
namespace Go.Proofs.YtllpjcgadfmipaaGreat
set_option linter.unusedVariables false
set_option linter.unusedSimpArgs false
open Abs

structure Rto where
  l : SM ByteArray Int
  k : SM ByteArray ByteArray
structure Rto.ok (s : Rto) : Prop where
  l : s.l.ok
  k : s.k.ok
end Go.Proofs.YtllpjcgadfmipaaGreat

/- What was used, by the document. -/
namespace Go.Proofs.YtllpjcgadfmipaaGreat
set_option linter.unusedVariables false
set_option linter.unusedSimpArgs false
open Abs

end Go.Proofs.YtllpjcgadfmipaaGreat

/- Stock at a moment, by the document. -/
namespace Go.Proofs.YtllpjcgadfmipaaGreat
set_option linter.unusedVariables false
set_option linter.unusedSimpArgs false
open Abs

end Go.Proofs.YtllpjcgadfmipaaGreat

/- Stock at a moment, by the document: the list. -/
namespace Go.Proofs.YtllpjcgadfmipaaGreat
set_option linter.unusedVariables false
set_option linter.unusedSimpArgs false
open Abs

end Go.Proofs.YtllpjcgadfmipaaGreat

/- Errors of acts and windows, by the document. -/
namespace Go.Proofs.YtllpjcgadfmipaaGreat
set_option linter.unusedVariables false
set_option linter.unusedSimpArgs false
open Abs
end Go.Proofs.YtllpjcgadfmipaaGreat

/- Comparisons, one behind another; sorting by insertion keeps the order of equal ones. -/
namespace Go.Proofs.YtllpjcgadfmipaaGreat
set_option linter.unusedVariables false
set_option linter.unusedSimpArgs false
open Abs

/-- a comparison -/
structure Cmp {α : Type} (c : α → α → Int) : Prop where
  anti : ∀ a b, c b a = - c a b
  trans : ∀ a b d, c a b ≤ 0 → c b d ≤ 0 → c a d ≤ 0
theorem Cmp.lt {α : Type} {c : α → α → Int} (h : Cmp c) {a b d : α} (h1 : c a b ≤ 0) (h2 : c b d ≤ 0) (h3 : c a b < 0 ∨ c b d < 0) : c a d < 0 := by
  have h4 := h.trans a b d h1 h2
  rcases Int.lt_or_le (c a d) 0 with h5 | h5
  · exact h5
  · have a1 := h.anti a d
    have a2 := h.anti a b
    have a3 := h.anti b d
    rcases h3 with h3 | h3
    · have := h.trans b d a h2 (by omega); omega
    · have := h.trans d a b (by omega) h1; omega
theorem Cmp.swo {α : Type} {c : α → α → Int} (h : Cmp c) : SWOc c where
  irrefl x := by have := h.anti x x; omega
  trans x y z h1 h2 := h.lt (by omega) (by omega) (.inl h1)
  ntrans x y z h1 h2 := by
    have a1 := h.anti x y
    have a2 := h.anti y z
    have a3 := h.anti x z
    have := h.trans z y x (by omega) (by omega)
    omega
end Go.Proofs.YtllpjcgadfmipaaGreat

/- Strings sorted (a few), and what numbers look like: Itoa by the kit's contract. -/
namespace Go.Proofs.YtllpjcgadfmipaaGreat
set_option linter.unusedVariables false
set_option linter.unusedSimpArgs false
open Abs

/-! what a function of the library gives that makes new memory of its own -/
theorem Nx.grown {F : Nat → Prop} {φ : Nat → Option Value} {w : World} {N : Nat → Prop} {h : Nat → Option Ob} (k : Nat) (os : Array Obj) : Nx F φ w h N [] F φ (Sort.grow (w.drewN k) os) where
  hF _ h := h
  hφ _ _ h := h
  nφ _ _ h := .inl h
  os := rfl
  tape := rfl
  output := rfl
  drawn := Nat.le_add_right _ _
  size := by simp [Sort.grow, World.drewN]
  keep b hb hne := (hne (by simp only [Sort.grow, World.drewN]; rw [Array.getElem?_append_left hb])).elim
  nF b h := .inl h
  objs l o h := by simp [chGet] at h
  own l o b h := by simp [chGet] at h
  inj l l' o o' b h := by simp [chGet] at h
end Go.Proofs.YtllpjcgadfmipaaGreat

/- What each element affects by itself: the plain part, and sorts. -/
namespace Go.Proofs.YtllpjcgadfmipaaGreat
set_option linter.unusedVariables false
set_option linter.unusedSimpArgs false
open Abs

/-! elements and customers, one behind another -/
/-! how they are ordered -/
end Go.Proofs.YtllpjcgadfmipaaGreat

/- What each element affects by itself: walked. -/
namespace Go.Proofs.YtllpjcgadfmipaaGreat
set_option linter.unusedVariables false
set_option linter.unusedSimpArgs false
open Abs

/-! the program's -/
end Go.Proofs.YtllpjcgadfmipaaGreat

/- What each element affects by itself, by the document; the law. -/
namespace Go.Proofs.YtllpjcgadfmipaaGreat
set_option linter.unusedVariables false
set_option linter.unusedSimpArgs false
open Abs

end Go.Proofs.YtllpjcgadfmipaaGreat

/- Sets as bits: sizes, orders, lists. -/
namespace Go.Proofs.YtllpjcgadfmipaaGreat
set_option linter.unusedVariables false
set_option linter.unusedSimpArgs false
open Abs

theorem u64N {n : Nat} (h : n < 18446744073709551616) : IntKind.u64.wrap (n : Int) = (n : Int) := IntWalk.u64_in _ ⟨by omega, by omega⟩
theorem ofInt_nat (n : Nat) : BitVec.ofInt 64 (n : Int) = BitVec.ofNat 64 n := by
  apply BitVec.eq_of_toNat_eq
  rw [BitVec.toNat_ofInt, BitVec.toNat_ofNat]
  omega
theorem bits_and {a b : Nat} (ha : a < 18446744073709551616) (hb : b < 18446744073709551616) : bitsV .and .u64 (a : Int) (b : Int) = ((a &&& b : Nat) : Int) := by
  have h1 : (BitVec.ofInt 64 (a : Int) &&& BitVec.ofInt 64 (b : Int)).toNat = a &&& b := by
    rw [ofInt_nat, ofInt_nat, BitVec.toNat_and, BitVec.toNat_ofNat, BitVec.toNat_ofNat, Nat.mod_eq_of_lt (by simpa using ha), Nat.mod_eq_of_lt (by simpa using hb)]
  have h2 : a &&& b ≤ a := Nat.and_le_left
  show IntKind.u64.wrap (((BitVec.ofInt 64 (a : Int) &&& BitVec.ofInt 64 (b : Int)).toNat : Nat) : Int) = _
  rw [h1, u64N (by omega)]
theorem bits_or {a b : Nat} (ha : a < 18446744073709551616) (hb : b < 18446744073709551616) : bitsV .or .u64 (a : Int) (b : Int) = ((a ||| b : Nat) : Int) := by
  have h1 : (BitVec.ofInt 64 (a : Int) ||| BitVec.ofInt 64 (b : Int)).toNat = a ||| b := by
    rw [ofInt_nat, ofInt_nat, BitVec.toNat_or, BitVec.toNat_ofNat, BitVec.toNat_ofNat, Nat.mod_eq_of_lt (by simpa using ha), Nat.mod_eq_of_lt (by simpa using hb)]
  have h2 : a ||| b < 18446744073709551616 := by
    have := Nat.or_lt_two_pow (n := 64) (x := a) (y := b) (by simpa using ha) (by simpa using hb)
    simpa using this
  show IntKind.u64.wrap (((BitVec.ofInt 64 (a : Int) ||| BitVec.ofInt 64 (b : Int)).toNat : Nat) : Int) = _
  rw [h1, u64N h2]
theorem bits_xor {a b : Nat} (ha : a < 18446744073709551616) (hb : b < 18446744073709551616) : bitsV .xor .u64 (a : Int) (b : Int) = ((a ^^^ b : Nat) : Int) := by
  have h1 : (BitVec.ofInt 64 (a : Int) ^^^ BitVec.ofInt 64 (b : Int)).toNat = a ^^^ b := by
    rw [ofInt_nat, ofInt_nat, BitVec.toNat_xor, BitVec.toNat_ofNat, BitVec.toNat_ofNat, Nat.mod_eq_of_lt (by simpa using ha), Nat.mod_eq_of_lt (by simpa using hb)]
  have h2 : a ^^^ b < 18446744073709551616 := by
    have := Nat.xor_lt_two_pow (n := 64) (x := a) (y := b) (by simpa using ha) (by simpa using hb)
    simpa using this
  show IntKind.u64.wrap (((BitVec.ofInt 64 (a : Int) ^^^ BitVec.ofInt 64 (b : Int)).toNat : Nat) : Int) = _
  rw [h1, u64N h2]
/-! how many -/
def popF : Nat → Nat → Nat
  | 0, _ => 0
  | n + 1, m => m % 2 + popF n (m / 2)
def popc (m : Nat) : Nat := popF 14 m
/-- for all small numbers, by trying -/
def allB (p : Nat → Bool) : Bool := (List.range 128).all fun a => (List.range 128).all fun b => p (a * 128 + b)
theorem allB_at {p : Nat → Bool} (h : allB p = true) {m : Nat} (hm : m < 16384) : p m = true := by
  have h1 := List.all_eq_true.1 h (m / 128) (by rw [List.mem_range]; omega)
  have h2 := List.all_eq_true.1 h1 (m % 128) (by rw [List.mem_range]; omega)
  have : m / 128 * 128 + m % 128 = m := by omega
  rwa [this] at h2
theorem pop_less {m : Nat} (h : m < 16384) (h0 : m ≠ 0) : popc (m &&& (m - 1)) + 1 = popc m := by
  have := allB_at (p := fun m => decide (m = 0) || decide (popc (m &&& (m - 1)) + 1 = popc m)) (by decide +kernel) h
  simpa [h0] using this
/-- the lowest bit -/
def lowF : Nat → Nat → Nat
  | 0, _ => 0
  | n + 1, m => if m % 2 = 1 then 0 else lowF n (m / 2) + 1
def low (m : Nat) : Nat := lowF 14 m
theorem low_bit {d : Nat} (h : d < 16384) (h0 : d ≠ 0) : d &&& (18446744073709551616 - d) = 2 ^ low d := by
  have := allB_at (p := fun d => decide (d = 0) || decide (d &&& (18446744073709551616 - d) = 2 ^ low d)) (by decide +kernel) h
  simpa [h0] using this
theorem lowF_spec : ∀ (n m : Nat), m < 2 ^ n → m ≠ 0 → m.testBit (lowF n m) = true ∧ ∀ j, j < lowF n m → m.testBit j = false
  | 0, m, h, h0 => by simp at h; omega
  | n + 1, m, h, h0 => by
    rw [lowF]
    by_cases q : m % 2 = 1
    · rw [if_pos q]
      refine ⟨by rw [Nat.testBit_zero]; simpa using q, fun j hj => by omega⟩
    · rw [if_neg q]
      obtain ⟨h1, h2⟩ := lowF_spec n (m / 2) (by rw [Nat.pow_succ] at h; omega) (by omega)
      refine ⟨by rw [Nat.testBit_succ]; exact h1, fun j hj => ?_⟩
      cases j with
      | zero => rw [Nat.testBit_zero]; simpa using q
      | succ j => rw [Nat.testBit_succ]; exact h2 j (by omega)
theorem low_spec {m : Nat} (h : m < 16384) (h0 : m ≠ 0) : m.testBit (low m) = true ∧ ∀ j, j < low m → m.testBit j = false := lowF_spec 14 m (by simpa using h) h0
/-- which of two sets has the first index that is not in both -/
def befB (a b : Nat) : Bool := a.testBit (low (a ^^^ b))
def LowLt (a b : Nat) : Prop := ∃ i, a.testBit i = true ∧ b.testBit i = false ∧ ∀ j, j < i → a.testBit j = b.testBit j
theorem LowLt.trans {a b c : Nat} (h1 : LowLt a b) (h2 : LowLt b c) : LowLt a c := by
  obtain ⟨i, a1, a2, a3⟩ := h1
  obtain ⟨k, b1, b2, b3⟩ := h2
  rcases Nat.lt_trichotomy i k with h | h | h
  · exact ⟨i, a1, by rw [← b3 i h]; exact a2, fun j hj => by rw [a3 j hj, b3 j (by omega)]⟩
  · subst h; rw [a2] at b1; cases b1
  · exact ⟨k, by rw [a3 k h]; exact b1, b2, fun j hj => by rw [a3 j (by omega), b3 j hj]⟩
theorem LowLt.asym {a b : Nat} (h1 : LowLt a b) (h2 : LowLt b a) : False := by
  obtain ⟨i, a1, a2, a3⟩ := h1
  obtain ⟨k, b1, b2, b3⟩ := h2
  rcases Nat.lt_trichotomy i k with h | h | h
  · rw [b3 i h, a1] at a2; cases a2
  · subst h; rw [a1] at b2; cases b2
  · rw [a3 k h, b1] at b2; cases b2
theorem befB_iff {a b : Nat} (ha : a < 16384) (hb : b < 16384) (hne : a ≠ b) : (befB a b = true ↔ LowLt a b) ∧ (befB a b = false ↔ LowLt b a) := by
  have hx : a ^^^ b < 16384 := by
    have := Nat.xor_lt_two_pow (n := 14) (x := a) (y := b) (by simpa using ha) (by simpa using hb)
    simpa using this
  have h0 : a ^^^ b ≠ 0 := fun e => hne (by
    apply Nat.eq_of_testBit_eq
    intro j
    have h := congrArg (fun m : Nat => m.testBit j) e
    simp only [Nat.testBit_xor, Nat.zero_testBit] at h
    cases ha : a.testBit j <;> cases hb : b.testBit j <;> simp_all)
  obtain ⟨h1, h2⟩ := low_spec hx h0
  unfold befB
  generalize low (a ^^^ b) = i at *
  rw [Nat.testBit_xor] at h1
  have h3 : ∀ j, j < i → a.testBit j = b.testBit j := by
    intro j hj
    have := h2 j hj
    rw [Nat.testBit_xor] at this
    simpa using this
  cases hA : a.testBit i with
  | true =>
    have hB : b.testBit i = false := by rw [hA] at h1; simpa using h1
    have hl : LowLt a b := ⟨i, hA, hB, h3⟩
    exact ⟨⟨fun _ => hl, fun _ => rfl⟩, ⟨fun h => (by cases h), fun h => (hl.asym h).elim⟩⟩
  | false =>
    have hB : b.testBit i = true := by rw [hA] at h1; simpa using h1
    have hl : LowLt b a := ⟨i, hB, hA, fun j hj => (h3 j hj).symm⟩
    exact ⟨⟨fun h => (by cases h), fun h => (hl.asym h).elim⟩, ⟨fun _ => hl, fun _ => rfl⟩⟩
end Go.Proofs.YtllpjcgadfmipaaGreat

/- Sets as bits: what the program counts and compares. -/
namespace Go.Proofs.YtllpjcgadfmipaaGreat
set_option linter.unusedVariables false
set_option linter.unusedSimpArgs false
open Abs

theorem shN (x d : Nat) (si : Int) (h : (2 : Int) ^ (min si.toNat IntKind.u64.bits) = (d : Int)) : shV .shr .u64 (x : Int) si = ((x / d : Nat) : Int) := by
  show (x : Int).fdiv _ = _
  rw [h, Int.ofNat_fdiv]
def o1 (x : Nat) : Nat := (x / 2 &&& 6148914691236517205) + (x &&& 6148914691236517205)
def o2 (x : Nat) : Nat := (x / 4 &&& 3689348814741910323) + (x &&& 3689348814741910323)
def o3 (x : Nat) : Nat := (x / 16 + x) &&& 1085102592571150095
def o4 (x : Nat) : Nat := x + x / 256
def o5 (x : Nat) : Nat := x + x / 65536
def o6 (x : Nat) : Nat := x + x / 4294967296
theorem o1_lt (x : Nat) : o1 x ≤ 2 * x := by
  have h1 : x / 2 &&& 6148914691236517205 ≤ x / 2 := Nat.and_le_left
  have h2 : x &&& 6148914691236517205 ≤ x := Nat.and_le_left
  unfold o1; omega
theorem o2_lt (x : Nat) : o2 x ≤ 2 * x := by
  have h1 : x / 4 &&& 3689348814741910323 ≤ x / 4 := Nat.and_le_left
  have h2 : x &&& 3689348814741910323 ≤ x := Nat.and_le_left
  unfold o2; omega
theorem o3_lt (x : Nat) : o3 x ≤ 2 * x := by
  have h1 : (x / 16 + x) &&& 1085102592571150095 ≤ x / 16 + x := Nat.and_le_left
  unfold o3; omega
theorem i1 (x : Nat) (h : x < 1099511627776) : IntKind.u64.wrap (bitsV .and .u64 (shV .shr .u64 (x : Int) 1) 6148914691236517205 + bitsV .and .u64 (x : Int) 6148914691236517205) = ((o1 x : Nat) : Int) := by
  have h1 := bits_and (a := x / 2) (b := 6148914691236517205) (by omega) (by decide)
  have h2 := bits_and (a := x) (b := 6148914691236517205) (by omega) (by decide)
  have h3 := o1_lt x
  rw [shN x 2 1 (by decide)]
  exact (congr (congrArg (fun a b : Int => IntKind.u64.wrap (a + b)) h1) h2).trans (u64N (n := o1 x) (by omega))
theorem i2 (x : Nat) (h : x < 1099511627776) : IntKind.u64.wrap (bitsV .and .u64 (shV .shr .u64 (x : Int) 2) 3689348814741910323 + bitsV .and .u64 (x : Int) 3689348814741910323) = ((o2 x : Nat) : Int) := by
  have h1 := bits_and (a := x / 4) (b := 3689348814741910323) (by omega) (by decide)
  have h2 := bits_and (a := x) (b := 3689348814741910323) (by omega) (by decide)
  have h3 := o2_lt x
  rw [shN x 4 2 (by decide)]
  exact (congr (congrArg (fun a b : Int => IntKind.u64.wrap (a + b)) h1) h2).trans (u64N (n := o2 x) (by omega))
theorem i3 (x : Nat) (h : x < 1099511627776) : bitsV .and .u64 (IntKind.u64.wrap (shV .shr .u64 (x : Int) 4 + (x : Int))) 1085102592571150095 = ((o3 x : Nat) : Int) := by
  have h1 := bits_and (a := x / 16 + x) (b := 1085102592571150095) (by omega) (by decide)
  rw [shN x 16 4 (by decide), show IntKind.u64.wrap (((x / 16 : Nat) : Int) + (x : Int)) = ((x / 16 + x : Nat) : Int) from u64N (by omega)]
  exact h1
theorem i4 (x : Nat) (h : x < 1099511627776) : IntKind.u64.wrap ((x : Int) + shV .shr .u64 (x : Int) 8) = ((o4 x : Nat) : Int) := by
  rw [shN x 256 8 (by decide)]
  exact u64N (n := o4 x) (by unfold o4; omega)
theorem i5 (x : Nat) (h : x < 1099511627776) : IntKind.u64.wrap ((x : Int) + shV .shr .u64 (x : Int) 16) = ((o5 x : Nat) : Int) := by
  rw [shN x 65536 16 (by decide)]
  exact u64N (n := o5 x) (by unfold o5; omega)
theorem i6 (x : Nat) (h : x < 1099511627776) : IntKind.u64.wrap ((x : Int) + shV .shr .u64 (x : Int) 32) = ((o6 x : Nat) : Int) := by
  rw [shN x 4294967296 32 (by decide)]
  exact u64N (n := o6 x) (by unfold o6; omega)
theorem i7 (x : Nat) (h : x < 1099511627776) : bitsV .and .i64 (IntKind.i64.wrap (x : Int)) 127 = ((x &&& 127 : Nat) : Int) := by
  have h0 : x &&& 127 ≤ x := Nat.and_le_left
  rw [wrap_in (by omega) (by omega)]
  have h1 : (BitVec.ofInt 64 (x : Int) &&& BitVec.ofInt 64 ((127 : Nat) : Int)).toNat = x &&& 127 := by
    rw [ofInt_nat, ofInt_nat, BitVec.toNat_and, BitVec.toNat_ofNat, BitVec.toNat_ofNat, Nat.mod_eq_of_lt (by omega)]
  show IntKind.i64.wrap (((BitVec.ofInt 64 (x : Int) &&& BitVec.ofInt 64 ((127 : Nat) : Int)).toNat : Nat) : Int) = _
  rw [h1, wrap_in (by omega) (by omega)]
theorem ones_all {m : Nat} (h : m < 16384) : o6 (o5 (o4 (o3 (o2 (o1 m))))) &&& 127 = popc m := by
  have := allB_at (p := fun m => decide (o6 (o5 (o4 (o3 (o2 (o1 m))))) &&& 127 = popc m)) (by decide +kernel) h
  simpa using this
theorem popF_le : ∀ (n m : Nat), popF n m ≤ n
  | 0, _ => Nat.le_refl _
  | n + 1, m => by have := popF_le n (m / 2); rw [popF]; omega
theorem popc_le (m : Nat) : popc m ≤ 14 := popF_le 14 m
theorem low_test {a b : Nat} (ha : a < 16384) (hb : b < 16384) (hne : a ≠ b) :
    (bitsV .and .u64 (a : Int) (bitsV .and .u64 (bitsV .xor .u64 (a : Int) (b : Int)) (IntKind.u64.wrap (0 - (bitsV .xor .u64 (a : Int) (b : Int))))) != 0) = befB a b := by
  have hx : a ^^^ b < 16384 := by
    have := Nat.xor_lt_two_pow (n := 14) (x := a) (y := b) (by simpa using ha) (by simpa using hb)
    simpa using this
  have h0 : a ^^^ b ≠ 0 := fun e => hne (by
    apply Nat.eq_of_testBit_eq
    intro j
    have h := congrArg (fun m : Nat => m.testBit j) e
    simp only [Nat.testBit_xor, Nat.zero_testBit] at h
    cases ha : a.testBit j <;> cases hb : b.testBit j <;> simp_all)
  have hlow := low_bit hx h0
  rw [bits_xor (by omega) (by omega)]
  unfold befB
  generalize a ^^^ b = d at *
  have hn : IntKind.u64.wrap (0 - (d : Int)) = ((18446744073709551616 - d : Nat) : Int) := by
    show (0 - (d : Int)) % 18446744073709551616 = _
    omega
  have hp : 2 ^ low d < 18446744073709551616 := by rw [← hlow]; exact Nat.lt_of_le_of_lt Nat.and_le_left (by omega)
  rw [hn, bits_and (by omega) (by omega), hlow, bits_and (by omega) hp]
  cases hT : a.testBit (low d) with
  | true =>
    have : a &&& 2 ^ low d ≠ 0 := fun e => by
      have h := congrArg (fun m : Nat => m.testBit (low d)) e
      simp [Nat.testBit_and, hT, Nat.testBit_two_pow] at h
    simp; omega
  | false =>
    have : a &&& 2 ^ low d = 0 := by
      apply Nat.eq_of_testBit_eq
      intro j
      rw [Nat.testBit_and, Nat.testBit_two_pow, Nat.zero_testBit]
      by_cases q : low d = j
      · subst q; rw [hT]; rfl
      · simp [q]
    rw [this]; rfl
set_option maxRecDepth 100000 in
set_option maxHeartbeats 4000000 in
theorem ones64_pc (n : Nat) (hn : n < 16384) : PCp 207 [.c (.int .u64 n)] [] (.c (.int .i64 (popc n))) [] := by
  refine fn_sound (mt := mts) tab_fits tab_mixed Tryz.func207 (by rfl) (by kernel_rfl) (by kernel_rfl) Tryz.results207 (Nat.le_of_ble_eq_true (by kernel_rfl)) ?_
  conv => whnf
  repeat' (first | ((first | refine Split.mk (fun h => ?_) (fun h => ?_) | refine CondG.mk (fun h => ?_) (fun h => ?_)) <;> (try simp only [decide_eq_true_eq, decide_eq_false_iff_not, Bool.not_eq_true', Bool.not_eq_false', beq_iff_eq, beq_eq_false_iff_ne, bne_iff_ne, bne_eq_false_iff_eq] at h) <;> (first | (exfalso; first | omega | exact h trivial) | (conv => whnf))) | (refine Ask.mk (by first | omega | (unfold roomOK; simp [cutRows]; done) | (unfold roomOK; simp [cutRows]; omega) | (simp [cutRows]; done) | (simp [cutRows]; omega)) ?_; conv => whnf) | (refine AppG.mk (by first | omega | (unfold roomOK; simp [cutRows]; done) | (unfold roomOK; simp [cutRows]; omega) | (simp [cutRows]; done) | (simp [cutRows]; omega)) ?_; conv => whnf) | (refine SliceG.fr ?_; conv => whnf) | (refine idx_at _ (by with_reducible rfl) (by first | assumption | omega) ?_; conv => whnf) | ((with_reducible refine row_map (by first | assumption | omega) ?_); conv => whnf) | ((with_reducible refine row_set (by first | assumption | omega | (simp only [List.length_set]; omega) | (simp; omega)) ?_); conv => whnf) | fail)
  all_goals
    have e1 := o1_lt n
    have e2 := o2_lt (o1 n)
    have e3 := o3_lt (o2 (o1 n))
    refine fini ?_
    rw [i1 n (by omega), i2 (o1 n) (by omega), i3 (o2 (o1 n)) (by omega), i4 (o3 (o2 (o1 n))) (by omega), i5 (o4 (o3 (o2 (o1 n)))) (by unfold o4; omega), i6 (o5 (o4 (o3 (o2 (o1 n))))) (by unfold o5 o4; omega), i7 (o6 (o5 (o4 (o3 (o2 (o1 n)))))) (by unfold o6 o5 o4; omega), ones_all hn]
set_option maxRecDepth 100000 in
set_option maxHeartbeats 4000000 in
theorem ones_pc (n : Nat) (hn : n < 16384) : PCp 162 [.c (.int .u64 n)] [] (.c (.int .i64 (popc n))) [] := by
  refine fn_sound (mt := mts) tab_fits tab_mixed Tryz.func162 (by rfl) (by kernel_rfl) (by kernel_rfl) Tryz.results162 (Nat.le_of_ble_eq_true (by kernel_rfl)) ?_
  conv => whnf
  repeat' (first | ((first | refine Split.mk (fun h => ?_) (fun h => ?_) | refine CondG.mk (fun h => ?_) (fun h => ?_)) <;> (try simp only [decide_eq_true_eq, decide_eq_false_iff_not, Bool.not_eq_true', Bool.not_eq_false', beq_iff_eq, beq_eq_false_iff_ne, bne_iff_ne, bne_eq_false_iff_eq] at h) <;> (first | (exfalso; first | omega | exact h trivial) | (conv => whnf))) | (refine CallX.mk _ _ (by first | exact ones64_pc n hn) ?_; conv => whnf) | (refine CallG.mk _ _ (by first | exact ones64_pc n hn) ?_; conv => whnf) | (refine Ask.mk (by first | omega | (unfold roomOK; simp [cutRows]; done) | (unfold roomOK; simp [cutRows]; omega) | (simp [cutRows]; done) | (simp [cutRows]; omega)) ?_; conv => whnf) | (refine AppG.mk (by first | omega | (unfold roomOK; simp [cutRows]; done) | (unfold roomOK; simp [cutRows]; omega) | (simp [cutRows]; done) | (simp [cutRows]; omega)) ?_; conv => whnf) | (refine SliceG.fr ?_; conv => whnf) | (refine idx_at _ (by with_reducible rfl) (by first | assumption | omega) ?_; conv => whnf) | ((with_reducible refine row_map (by first | assumption | omega) ?_); conv => whnf) | ((with_reducible refine row_set (by first | assumption | omega | (simp only [List.length_set]; omega) | (simp; omega)) ?_); conv => whnf) | fail)
  exact fini rfl
set_option maxRecDepth 100000 in
set_option maxHeartbeats 4000000 in
theorem setBefore_pc (a b : Nat) (ha : a < 16384) (hb : b < 16384) (hne : a ≠ b) : PCp 112 [.c (.int .u64 a), .c (.int .u64 b)] [] (.c (.bool (decide (popc a < popc b ∨ popc a = popc b ∧ befB a b = true)))) [] := by
  refine fn_sound (mt := mts) tab_fits tab_mixed Tryz.func112 (by rfl) (by kernel_rfl) (by kernel_rfl) Tryz.results112 (Nat.le_of_ble_eq_true (by kernel_rfl)) ?_
  conv => whnf
  have p1 := popc_le a
  have p2 := popc_le b
  have hw : IntKind.i64.wrap ((popc a : Int) - (popc b : Int)) = (popc a : Int) - (popc b : Int) := wrap_in (by omega) (by omega)
  have hlt := low_test ha hb hne
  repeat' (first | ((first | refine Split.mk (fun h => ?_) (fun h => ?_) | refine CondG.mk (fun h => ?_) (fun h => ?_)) <;> (try simp only [decide_eq_true_eq, decide_eq_false_iff_not, Bool.not_eq_true', Bool.not_eq_false', beq_iff_eq, beq_eq_false_iff_ne, bne_iff_ne, bne_eq_false_iff_eq] at h) <;> (first | (exfalso; first | omega | exact h trivial) | (conv => whnf))) | (refine CallX.mk _ _ (by first | exact ones_pc a ha | exact ones_pc b hb) ?_; conv => whnf) | (refine CallG.mk _ _ (by first | exact ones_pc a ha | exact ones_pc b hb) ?_; conv => whnf) | (refine Ask.mk (by first | omega | (unfold roomOK; simp [cutRows]; done) | (unfold roomOK; simp [cutRows]; omega) | (simp [cutRows]; done) | (simp [cutRows]; omega)) ?_; conv => whnf) | (refine AppG.mk (by first | omega | (unfold roomOK; simp [cutRows]; done) | (unfold roomOK; simp [cutRows]; omega) | (simp [cutRows]; done) | (simp [cutRows]; omega)) ?_; conv => whnf) | (refine SliceG.fr ?_; conv => whnf) | (refine idx_at _ (by with_reducible rfl) (by first | assumption | omega) ?_; conv => whnf) | ((with_reducible refine row_map (by first | assumption | omega) ?_); conv => whnf) | ((with_reducible refine row_set (by first | assumption | omega | (simp only [List.length_set]; omega) | (simp; omega)) ?_); conv => whnf) | fail)
  all_goals simp only [hw] at *
  · exact finb (by simp; omega)
  · refine finb ?_
    rw [hlt]
    have : popc a = popc b := by omega
    simp [this]
  · exact finb (by simp; omega)
set_option maxRecDepth 100000 in
set_option maxHeartbeats 4000000 in
theorem fsize_pc (n : Nat) (hn : n < 16384) : PCp 109 [.c (.int .u64 n)] [] (.c (.int .i64 (popc n))) [] := by
  refine fn_sound (mt := mts) tab_fits tab_mixed Tryz.func109 (by rfl) (by kernel_rfl) (by kernel_rfl) Tryz.results109 (Nat.le_of_ble_eq_true (by kernel_rfl)) ?_
  conv => whnf
  refine loop_while2 (fun (m : Nat) (c : Nat) => m) [] [0, 3] (fun (m : Nat) (c : Nat) => [(0, .c (.int .u64 m)), (3, .c (.int .i64 c))]) (fun (m : Nat) (c : Nat) => []) (fun (m : Nat) (c : Nat) => m < 16384 ∧ c + popc m = popc n) (n) (0) ?_
  conv => whnf
  refine ⟨(by first | rfl | (simp; done) | (simp; rfl)), ?_, ?_⟩
  · exact ⟨hn, by omega⟩
  · intro m c ⟨g1, g2⟩
    conv => whnf
    repeat' (first | ((first | refine Split.mk (fun h => ?_) (fun h => ?_) | refine CondG.mk (fun h => ?_) (fun h => ?_)) <;> (try simp only [decide_eq_true_eq, decide_eq_false_iff_not, Bool.not_eq_true', Bool.not_eq_false', beq_iff_eq, beq_eq_false_iff_ne, bne_iff_ne, bne_eq_false_iff_eq] at h) <;> (first | (exfalso; first | omega | exact h trivial) | (conv => whnf))) | (refine Ask.mk (by first | omega | (unfold roomOK; simp [cutRows]; done) | (unfold roomOK; simp [cutRows]; omega) | (simp [cutRows]; done) | (simp [cutRows]; omega)) ?_; conv => whnf) | (refine AppG.mk (by first | omega | (unfold roomOK; simp [cutRows]; done) | (unfold roomOK; simp [cutRows]; omega) | (simp [cutRows]; done) | (simp [cutRows]; omega)) ?_; conv => whnf) | (refine SliceG.fr ?_; conv => whnf) | (refine idx_at _ (by with_reducible rfl) (by first | assumption | omega) ?_; conv => whnf) | ((with_reducible refine row_map (by first | assumption | omega) ?_); conv => whnf) | ((with_reducible refine row_set (by first | assumption | omega | (simp only [List.length_set]; omega) | (simp; omega)) ?_); conv => whnf) | fail)
    · have hm : m ≠ 0 := by intro e; subst e; contradiction
      have q1 := pop_less g1 hm
      have q2 : m &&& (m - 1) ≤ m - 1 := Nat.and_le_right
      have q3 := popc_le n
      refine meas_next (m &&& (m - 1), c + 1) (by simp only; omega) (by
        rw [show IntKind.u64.wrap ((m : Int) - 1) = ((m - 1 : Nat) : Int) by rw [show (m : Int) - 1 = ((m - 1 : Nat) : Int) by omega]; exact u64N (by omega), bits_and (by omega) (by omega), show IntKind.i64.wrap ((c : Int) + 1) = ((c + 1 : Nat) : Int) by rw [wrap_in (by omega) (by omega)]; rfl]; rfl) ⟨by simp only; omega, by simp only; omega⟩
    · have hm : m = 0 := by omega
      subst hm
      have : popc 0 = 0 := by decide
      exact fini (by omega)
set_option maxRecDepth 100000 in
set_option maxHeartbeats 4000000 in
theorem fMeets1_pc {b : List ByteArray} (h : Rise id b) (hl : b.length ≤ 1000000) (x : ByteArray) : PCp 104 [.c (.str x), .c (.ptr 0 0)] [.box [.lst 1 (b.map encS)]] (.c (.bool (decide (x ∈ b)))) [.box [.lst 1 (b.map encS)]] := by
  refine fn_sound (mt := mts) tab_fits tab_mixed Tryz.func104 (by rfl) (by kernel_rfl) (by kernel_rfl) Tryz.results104 (Nat.le_of_ble_eq_true (by kernel_rfl)) ?_
  conv => whnf
  repeat' (first | ((first | refine Split.mk (fun h => ?_) (fun h => ?_) | refine CondG.mk (fun h => ?_) (fun h => ?_)) <;> (try simp only [decide_eq_true_eq, decide_eq_false_iff_not, Bool.not_eq_true', Bool.not_eq_false', beq_iff_eq, beq_eq_false_iff_ne, bne_iff_ne, bne_eq_false_iff_eq] at h) <;> (first | (exfalso; first | omega | exact h trivial) | (conv => whnf))) | (refine CallX.mk _ _ (by first | exact fHas_pc h hl x) ?_; conv => whnf) | (refine CallG.mk _ _ (by first | exact fHas_pc h hl x) ?_; conv => whnf) | (refine Ask.mk (by first | omega | (unfold roomOK; simp [cutRows]; done) | (unfold roomOK; simp [cutRows]; omega) | (simp [cutRows]; done) | (simp [cutRows]; omega)) ?_; conv => whnf) | (refine AppG.mk (by first | omega | (unfold roomOK; simp [cutRows]; done) | (unfold roomOK; simp [cutRows]; omega) | (simp [cutRows]; done) | (simp [cutRows]; omega)) ?_; conv => whnf) | (refine SliceG.fr ?_; conv => whnf) | (refine idx_at _ (by with_reducible rfl) (by first | assumption | omega) ?_; conv => whnf) | ((with_reducible refine row_map (by first | assumption | omega) ?_); conv => whnf) | ((with_reducible refine row_set (by first | assumption | omega | (simp only [List.length_set]; omega) | (simp; omega)) ?_); conv => whnf) | fail)
  exact .mk ⟨rfl, rfl⟩
set_option maxRecDepth 100000 in
set_option maxHeartbeats 4000000 in
theorem fMeets_pc (a : List ByteArray) (ha : a.length ≤ 1000000) {b : List ByteArray} (h : Rise id b) (hl : b.length ≤ 1000000) : PCp 54 [.c (.lst 1 (a.map encS)), .c (.lst 1 (b.map encS))] [] (.c (.bool (a.any fun x => decide (x ∈ b)))) [] := by
  refine fn_sound (mt := mts) tab_fits tab_mixed Tryz.func54 (by rfl) (by kernel_rfl) (by kernel_rfl) Tryz.results54 (Nat.le_of_ble_eq_true (by kernel_rfl)) ?_
  conv => whnf
  repeat' (first | ((first | refine Split.mk (fun h => ?_) (fun h => ?_) | refine CondG.mk (fun h => ?_) (fun h => ?_)) <;> (try simp only [decide_eq_true_eq, decide_eq_false_iff_not, Bool.not_eq_true', Bool.not_eq_false', beq_iff_eq, beq_eq_false_iff_ne, bne_iff_ne, bne_eq_false_iff_eq] at h) <;> (first | (exfalso; first | omega | exact h trivial) | (conv => whnf))) | (refine CallX.mk _ _ (by first | exact ixUC_pc (b.map encS) 104 (fun x => decide (x ∈ b)) a ha (fun x _ => fMeets1_pc h hl x)) ?_; conv => whnf) | (refine CallG.mk _ _ (by first | exact ixUC_pc (b.map encS) 104 (fun x => decide (x ∈ b)) a ha (fun x _ => fMeets1_pc h hl x)) ?_; conv => whnf) | (refine Ask.mk (by first | omega | (unfold roomOK; simp [cutRows]; done) | (unfold roomOK; simp [cutRows]; omega) | (simp [cutRows]; done) | (simp [cutRows]; omega)) ?_; conv => whnf) | (refine AppG.mk (by first | omega | (unfold roomOK; simp [cutRows]; done) | (unfold roomOK; simp [cutRows]; omega) | (simp [cutRows]; done) | (simp [cutRows]; omega)) ?_; conv => whnf) | (refine SliceG.fr ?_; conv => whnf) | (refine idx_at _ (by with_reducible rfl) (by first | assumption | omega) ?_; conv => whnf) | ((with_reducible refine row_map (by first | assumption | omega) ?_); conv => whnf) | ((with_reducible refine row_set (by first | assumption | omega | (simp only [List.length_set]; omega) | (simp; omega)) ?_); conv => whnf) | fail)
  all_goals exact finb (by simp_all)
end Go.Proofs.YtllpjcgadfmipaaGreat

/- Explanations in plain Lean: needs, good sets, the best ones, sorted; what is unexplained. -/
namespace Go.Proofs.YtllpjcgadfmipaaGreat
set_option linter.unusedVariables false
set_option linter.unusedSimpArgs false
open Abs

/-- which elements of a list, as bits -/
def bitN (p : ByteArray → Bool) (l : List ByteArray) : Nat → Nat
  | 0 => 0
  | k + 1 => if p (l.getD k ⟨#[]⟩) then bitN p l k ||| 2 ^ k else bitN p l k
theorem bitN_lt (p : ByteArray → Bool) (l : List ByteArray) : ∀ k, bitN p l k < 2 ^ k
  | 0 => by simp [bitN]
  | k + 1 => by
    have ih := bitN_lt p l k
    have h1 : 2 ^ k < 2 ^ (k + 1) := by rw [Nat.pow_succ]; have := Nat.two_pow_pos k; omega
    rw [bitN]; split
    · exact Nat.or_lt_two_pow (by omega) h1
    · omega
theorem bitN_test (p : ByteArray → Bool) (l : List ByteArray) : ∀ k j, (bitN p l k).testBit j = (decide (j < k) && p (l.getD j ⟨#[]⟩))
  | 0, j => by simp [bitN]
  | k + 1, j => by
    have ih := bitN_test p l k j
    rw [bitN]
    by_cases hj : j = k
    · subst hj
      split
      · rename_i h
        rw [Nat.testBit_or, Nat.testBit_two_pow, h]; simp
      · rename_i h
        have hp : p (l.getD j ⟨#[]⟩) = false := Bool.eq_false_iff.2 h
        rw [ih, hp]; simp
    · have h2 : decide (j < k + 1) = decide (j < k) := by rw [decide_eq_decide]; omega
      rw [h2, ← ih]
      split
      · rw [Nat.testBit_or, Nat.testBit_two_pow]; simp [Ne.symm hj]
      · rfl
theorem pow14 {k : Nat} (h : k ≤ 14) : 2 ^ k ≤ 16384 := Nat.pow_le_pow_right (n := 2) (by decide) h
theorem shl1 {k : Nat} (h : k ≤ 14) : shV .shl .u64 1 (k : Int) = ((2 ^ k : Nat) : Int) := by
  have := pow14 h
  show IntKind.u64.wrap (1 * 2 ^ (min (k : Int).toNat IntKind.u64.bits)) = _
  rw [Int.one_mul, Int.toNat_natCast, Nat.min_eq_left (by show k ≤ 64; omega)]
  have h2 : ((2 : Int) ^ k) = ((2 ^ k : Nat) : Int) := by simp
  rw [h2, u64N (by omega)]
/-- the needs of what is down -/
def needO (s : List Sv) (l : List ByteArray) (k : ByteArray) : Nat := bitN (fun x => decide (x ∈ (svG s k).els)) l l.length
def needL (s : List Sv) (l down : List ByteArray) : List Nat := (down.map (needO s l)).filter fun n => decide (n ≠ 0)
theorem needL_succ (s : List Sv) (l down : List ByteArray) {k : Nat} (h : k < down.length) : needL s l (down.take (k + 1)) = needL s l (down.take k) ++ (if needO s l down[k] ≠ 0 then [needO s l down[k]] else []) := by
  unfold needL; rw [List.take_succ_eq_append_getElem h, List.map_append, List.filter_append, List.map_cons, List.map_nil, List.filter_cons, List.filter_nil]
  simp
theorem needL_len (s : List Sv) (l down : List ByteArray) : (needL s l down).length ≤ down.length := by
  refine Nat.le_trans (List.length_filter_le ..) ?_; simp
theorem needL_lt {s : List Sv} {l down : List ByteArray} (hl : l.length ≤ 14) : ∀ n ∈ needL s l down, n < 16384 := by
  intro n hn
  obtain ⟨k, _, rfl⟩ := List.mem_map.1 (List.mem_filter.1 hn).1
  have := bitN_lt (fun x => decide (x ∈ (svG s k).els)) l l.length
  have := pow14 hl
  unfold needO; omega
def goodM (ns : List Nat) (m : Nat) : Bool := !(ns.any fun n => decide (n &&& m = 0))
def beforeB (b : List Nat) (k : Nat) : List Nat := match b with | x :: _ => if popc k < popc x then [] else b | [] => []
def withB (b : List Nat) (k : Nat) : List Nat := match b with | x :: _ => if popc k = popc x then b ++ [k] else b | [] => [k]
def bestK (ns : List Nat) : Nat → List Nat
  | 0 => []
  | k + 1 => if goodM ns k then withB (beforeB (bestK ns k) k) k else bestK ns k
theorem bestK_lt (ns : List Nat) : ∀ k, (∀ x ∈ bestK ns k, x < k) ∧ (bestK ns k).length ≤ k
  | 0 => by simp [bestK]
  | k + 1 => by
    obtain ⟨h1, h2⟩ := bestK_lt ns k
    rw [bestK]
    split
    · have h3 : ∀ x ∈ beforeB (bestK ns k) k, x < k := by
        unfold beforeB
        split
        · split
          · simp
          · exact h1
        · simp
      have h4 : (beforeB (bestK ns k) k).length ≤ k := by
        unfold beforeB
        split
        · split
          · simp
          · exact h2
        · simp
      generalize beforeB (bestK ns k) k = b at *
      unfold withB
      split
      · split
        · refine ⟨fun x hx => ?_, by simp at h4 ⊢; omega⟩
          rcases List.mem_append.1 hx with h | h
          · have := h3 x h; omega
          · simp at h; omega
        · exact ⟨fun x hx => by have := h3 x hx; omega, by omega⟩
      · exact ⟨fun x hx => by simp at hx; omega, by simp⟩
    · exact ⟨fun x hx => by have := h1 x hx; omega, by omega⟩
abbrev encU (n : Nat) : List V := [.int .u64 (n : Int)]
abbrev M14 := { m : Nat // m < 16384 }
def befP (a b : M14) : Bool := decide (popc a.1 < popc b.1 ∨ popc a.1 = popc b.1 ∧ befB a.1 b.1 = true)
def cmpM (a b : M14) : Int := if a = b then 0 else if befP a b then -1 else 1
theorem cmpM_neg {a b : M14} : cmpM a b < 0 ↔ popc a.1 < popc b.1 ∨ popc a.1 = popc b.1 ∧ LowLt a.1 b.1 := by
  unfold cmpM
  by_cases h : a = b
  · subst h
    rw [if_pos rfl]
    constructor
    · intro h; omega
    · rintro (h | ⟨_, h⟩)
      · omega
      · exact (h.asym h).elim
  · have hne : a.1 ≠ b.1 := fun e => h (Subtype.ext e)
    have hb := (befB_iff a.2 b.2 hne).1
    rw [if_neg h, ← hb]
    unfold befP
    by_cases q : popc a.1 < popc b.1 ∨ popc a.1 = popc b.1 ∧ befB a.1 b.1 = true <;> simp [q]
theorem low_tri {a b : M14} (h : a ≠ b) : LowLt a.1 b.1 ∨ LowLt b.1 a.1 := by
  have hne : a.1 ≠ b.1 := fun e => h (Subtype.ext e)
  obtain ⟨h1, h2⟩ := befB_iff a.2 b.2 hne
  cases q : befB a.1 b.1 with
  | true => exact .inl (h1.1 q)
  | false => exact .inr (h2.1 q)
theorem cmpM_swo : SWOc cmpM where
  irrefl x := by
    rw [cmpM_neg]
    rintro (h | ⟨_, h⟩)
    · omega
    · exact h.asym h
  trans x y z h1 h2 := by
    rw [cmpM_neg] at *
    rcases h1 with h1 | ⟨h1, h3⟩ <;> rcases h2 with h2 | ⟨h2, h4⟩
    · left; omega
    · left; omega
    · left; omega
    · right; exact ⟨by omega, h3.trans h4⟩
  ntrans x y z h1 h2 := by
    rw [cmpM_neg] at *
    rintro (h | ⟨h, h3⟩)
    · by_cases q : popc x.1 < popc y.1
      · exact h1 (.inl q)
      · exact h2 (.inl (by omega))
    · by_cases q : popc x.1 < popc y.1
      · exact h1 (.inl q)
      · by_cases q2 : popc y.1 < popc z.1
        · exact h2 (.inl q2)
        · by_cases e : x = y
          · subst e; exact h2 (.inr ⟨by omega, h3⟩)
          · by_cases e2 : y = z
            · subst e2; exact h1 (.inr ⟨by omega, h3⟩)
            · rcases low_tri e with g | g
              · exact h1 (.inr ⟨by omega, g⟩)
              · rcases low_tri e2 with g2 | g2
                · exact h2 (.inr ⟨by omega, g2⟩)
                · exact h3.asym (g2.trans g)
theorem cmpM_one {a b : M14} (h1 : ¬ cmpM a b < 0) (h2 : ¬ cmpM b a < 0) : a = b := by
  rw [cmpM_neg] at h1 h2
  by_cases e : a = b
  · exact e
  · have q1 : popc a.1 = popc b.1 := by
      rcases Nat.lt_trichotomy (popc a.1) (popc b.1) with h | h | h
      · exact (h1 (.inl h)).elim
      · exact h
      · exact (h2 (.inl h)).elim
    rcases low_tri e with g | g
    · exact (h1 (.inr ⟨q1, g⟩)).elim
    · exact (h2 (.inr ⟨q1.symm, g⟩)).elim
def toM (l : List Nat) : List M14 := l.filterMap fun m => if h : m < 16384 then some ⟨m, h⟩ else none
theorem toM_val : ∀ {l : List Nat}, (∀ m ∈ l, m < 16384) → (toM l).map (·.1) = l
  | [], _ => rfl
  | a :: r, h => by
    have ih := toM_val (l := r) (fun m hm => h m (by simp [hm]))
    unfold toM at ih ⊢
    rw [List.filterMap_cons, dif_pos (h a (by simp)), List.map_cons, ih]
/-- the best sets in their order -/
def sortM (l : List Nat) : List Nat := (insSort cmpM (toM l)).map (·.1)
theorem sortM_len {l : List Nat} (h : ∀ m ∈ l, m < 16384) : (sortM l).length = l.length := by
  unfold sortM; rw [List.length_map, insSort_len, ← List.length_map (f := fun x : M14 => x.1), toM_val h]
theorem sortM_perm {l : List Nat} (h : ∀ m ∈ l, m < 16384) : (sortM l).Perm l := by
  have h1 := (insSort_perm cmpM (toM l)).map (fun x : M14 => x.1)
  have h2 : (toM l).map (fun x : M14 => x.1) = l := toM_val h
  rw [h2] at h1; exact h1
set_option maxRecDepth 100000 in
set_option maxHeartbeats 4000000 in
theorem fCmpM_pc (a b : M14) : PCp 111 [.c (.int .u64 (a.1 : Int)), .c (.int .u64 (b.1 : Int))] [] (.c (.int .i64 (cmpM a b))) [] := by
  by_cases e : a = b
  · subst e
    refine fn_sound (mt := mts) tab_fits tab_mixed Tryz.func111 (by rfl) (by kernel_rfl) (by kernel_rfl) Tryz.results111 (Nat.le_of_ble_eq_true (by kernel_rfl)) ?_
    conv => whnf
    repeat' (first | ((first | refine Split.mk (fun h => ?_) (fun h => ?_) | refine CondG.mk (fun h => ?_) (fun h => ?_)) <;> (try simp only [decide_eq_true_eq, decide_eq_false_iff_not, Bool.not_eq_true', Bool.not_eq_false', beq_iff_eq, beq_eq_false_iff_ne, bne_iff_ne, bne_eq_false_iff_eq] at h) <;> (first | (exfalso; first | omega | exact h trivial) | (conv => whnf))) | (refine Ask.mk (by first | omega | (unfold roomOK; simp [cutRows]; done) | (unfold roomOK; simp [cutRows]; omega) | (simp [cutRows]; done) | (simp [cutRows]; omega)) ?_; conv => whnf) | (refine AppG.mk (by first | omega | (unfold roomOK; simp [cutRows]; done) | (unfold roomOK; simp [cutRows]; omega) | (simp [cutRows]; done) | (simp [cutRows]; omega)) ?_; conv => whnf) | (refine SliceG.fr ?_; conv => whnf) | (refine idx_at _ (by with_reducible rfl) (by first | assumption | omega) ?_; conv => whnf) | ((with_reducible refine row_map (by first | assumption | omega) ?_); conv => whnf) | ((with_reducible refine row_set (by first | assumption | omega | (simp only [List.length_set]; omega) | (simp; omega)) ?_); conv => whnf) | fail)
    all_goals first | exact fini (by unfold cmpM; rw [if_pos rfl]) | contradiction | (rename_i h; simp at h; done)
  · have hne : a.1 ≠ b.1 := fun q => e (Subtype.ext q)
    have hi : ((a.1 : Int) = (b.1 : Int)) ↔ False := ⟨fun h => hne (by omega), False.elim⟩
    refine fn_sound (mt := mts) tab_fits tab_mixed Tryz.func111 (by rfl) (by kernel_rfl) (by kernel_rfl) Tryz.results111 (Nat.le_of_ble_eq_true (by kernel_rfl)) ?_
    conv => whnf
    repeat' (first | ((first | refine Split.mk (fun h => ?_) (fun h => ?_) | refine CondG.mk (fun h => ?_) (fun h => ?_)) <;> (try simp only [decide_eq_true_eq, decide_eq_false_iff_not, Bool.not_eq_true', Bool.not_eq_false', beq_iff_eq, beq_eq_false_iff_ne, bne_iff_ne, bne_eq_false_iff_eq] at h) <;> (first | (exfalso; first | omega | exact h trivial) | (conv => whnf))) | (refine CallX.mk _ _ (by first | exact setBefore_pc a.1 b.1 a.2 b.2 hne) ?_; conv => whnf) | (refine CallG.mk _ _ (by first | exact setBefore_pc a.1 b.1 a.2 b.2 hne) ?_; conv => whnf) | (refine Ask.mk (by first | omega | (unfold roomOK; simp [cutRows]; done) | (unfold roomOK; simp [cutRows]; omega) | (simp [cutRows]; done) | (simp [cutRows]; omega)) ?_; conv => whnf) | (refine AppG.mk (by first | omega | (unfold roomOK; simp [cutRows]; done) | (unfold roomOK; simp [cutRows]; omega) | (simp [cutRows]; done) | (simp [cutRows]; omega)) ?_; conv => whnf) | (refine SliceG.fr ?_; conv => whnf) | (refine idx_at _ (by with_reducible rfl) (by first | assumption | omega) ?_; conv => whnf) | ((with_reducible refine row_map (by first | assumption | omega) ?_); conv => whnf) | ((with_reducible refine row_set (by first | assumption | omega | (simp only [List.length_set]; omega) | (simp; omega)) ?_); conv => whnf) | fail)
    all_goals first | exact fini (by unfold cmpM befP; rw [if_neg e]; simp_all) | contradiction | (rename_i h; simp at h; omega)
theorem sortU_pc (l : List Nat) (h : ∀ m ∈ l, m < 16384) (hl : l.length ≤ 1000000) :
    PCp 110 [.c (.row 0), .c (.fn 111 [])] [.row 175 1 (l.map encU)] (.tup []) [.row 175 1 ((sortM l).map encU)] := by
  have hs := sort1_pcx layOneUint layOneNUint (encA := fun x : M14 => V.int .u64 (x.1 : Int)) cmpM_swo fCmpM_pc 175 (toM l) (by rw [← List.length_map (f := fun x : M14 => x.1), toM_val h]; omega)
  have hm : ∀ q : List M14, q.map (fun x => [V.int .u64 (x.1 : Int)]) = (q.map (·.1)).map encU := by intro q; rw [List.map_map]; rfl
  rw [hm, toM_val h] at hs
  have ht : PCq 110 [.c (.row 0), .c (.fn 111 [])] [.row 175 1 (l.map encU)] fun r os => r = .tup [] ∧ os = [.row 175 1 ((sortM l).map encU)] := by
    refine ⟨hs.fn, fun F φ w cs a b c => (hs.calls F φ w cs a b c).mono ?_⟩
    rintro e w' ⟨c, F', φ', r, os, ⟨l', hS, h1, h2⟩, rest⟩
    refine ⟨c, F', φ', r, os, ⟨h1, ?_⟩, rest⟩
    have : l' = insSort cmpM (toM l) := sorted_one cmpM_swo (fun _ _ => cmpM_one) (hS.1.trans (insSort_perm cmpM (toM l)).symm) hS.2 (insSort_srt cmpM_swo (toM l))
    rw [h2, this, hm]; rfl
  exact ht
end Go.Proofs.YtllpjcgadfmipaaGreat

/- The explanations of the program. -/
namespace Go.Proofs.YtllpjcgadfmipaaGreat
set_option linter.unusedVariables false
set_option linter.unusedSimpArgs false
open Abs

def setL (l : List ByteArray) (m : Nat) : Nat → List ByteArray
  | 0 => []
  | k + 1 => if m.testBit k then setL l m k ++ [l.getD k ⟨#[]⟩] else setL l m k
def pickM (l : List ByteArray) (m : Nat) : List ByteArray := setL l m l.length
theorem shbit {m j : Nat} (hm : m < 16384) (hj : j ≤ 14) : (bitsV .and .u64 (shV .shr .u64 (m : Int) (j : Int)) 1 = 1) ↔ m.testBit j = true := by
  have h1 : m / 2 ^ j ≤ m := Nat.div_le_self ..
  have h2 := bits_and (a := m / 2 ^ j) (b := 1) (by omega) (by decide)
  rw [shN m (2 ^ j) j (by rw [Int.toNat_natCast, Nat.min_eq_left (by show j ≤ 64; omega)]; simp)]
  refine ((by rw [← h2]; rfl : (bitsV .and .u64 ((m / 2 ^ j : Nat) : Int) 1 = 1) ↔ ((((m / 2 ^ j) &&& 1 : Nat) : Int) = 1))).trans ?_
  rw [Nat.and_one_is_mod, Nat.testBit_eq_decide_div_mod_eq, decide_eq_true_eq]
  omega
theorem setL_len (l : List ByteArray) (m : Nat) : ∀ k, (setL l m k).length ≤ k
  | 0 => by simp [setL]
  | k + 1 => by
    have := setL_len l m k
    rw [setL]; split
    · simp; omega
    · omega
abbrev encLs (x : List ByteArray) : List V := [.lst 1 (x.map encS)]
def bestL (s : List Sv) (l down : List ByteArray) : List Nat := bestK (needL s l down) (2 ^ l.length)
def explE (s : List Sv) (l down : List ByteArray) : Int := if 14 < l.length then 12 else if 1000 < (bestL s l down).length then 2 else 0
def explV (s : List Sv) (l down : List ByteArray) : List (List ByteArray) := if explE s l down = 0 then (sortM (bestL s l down)).map (pickM l) else []
/-- a row that is frozen from the second round on -/
def ndO (k : Nat) (rows : List (List V)) : Ob := match k with | 0 => .row 175 1 rows | _ + 1 => .frow 1 rows
theorem ndO_pos {k : Nat} (h : k ≠ 0) (rows : List (List V)) : ndO k rows = .frow 1 rows := by cases k with | zero => exact (h rfl).elim | succ k => rfl
set_option maxRecDepth 100000 in
set_option maxHeartbeats 4000000 in
theorem fExp1_pc (m : Nat) (hm : m < 16384) (n : Nat) (hn : n < 16384) : PCp 108 [.c (.int .u64 (n : Int)), .c (.ptr 0 0)] [.box [.int .u64 (m : Int)]] (.c (.bool (decide (n &&& m = 0)))) [.box [.int .u64 (m : Int)]] := by
  refine fn_sound (mt := mts) tab_fits tab_mixed Tryz.func108 (by rfl) (by kernel_rfl) (by kernel_rfl) Tryz.results108 (Nat.le_of_ble_eq_true (by kernel_rfl)) ?_
  conv => whnf
  rw [bits_and (by omega) (by omega)]
  repeat' (first | ((first | refine Split.mk (fun h => ?_) (fun h => ?_) | refine CondG.mk (fun h => ?_) (fun h => ?_)) <;> (try simp only [decide_eq_true_eq, decide_eq_false_iff_not, Bool.not_eq_true', Bool.not_eq_false', beq_iff_eq, beq_eq_false_iff_ne, bne_iff_ne, bne_eq_false_iff_eq] at h) <;> (first | (exfalso; first | omega | exact h trivial) | (conv => whnf))) | (refine Ask.mk (by first | omega | (unfold roomOK; simp [cutRows]; done) | (unfold roomOK; simp [cutRows]; omega) | (simp [cutRows]; done) | (simp [cutRows]; omega)) ?_; conv => whnf) | (refine AppG.mk (by first | omega | (unfold roomOK; simp [cutRows]; done) | (unfold roomOK; simp [cutRows]; omega) | (simp [cutRows]; done) | (simp [cutRows]; omega)) ?_; conv => whnf) | (refine SliceG.fr ?_; conv => whnf) | (refine idx_at _ (by with_reducible rfl) (by first | assumption | omega) ?_; conv => whnf) | ((with_reducible refine row_map (by first | assumption | omega) ?_); conv => whnf) | ((with_reducible refine row_set (by first | assumption | omega | (simp only [List.length_set]; omega) | (simp; omega)) ?_); conv => whnf) | fail)
  have h1 : (((n &&& m : Nat) : Int) == 0) = decide (n &&& m = 0) := by
    rw [Bool.eq_iff_iff, beq_iff_eq, decide_eq_true_eq]; omega
  rw [h1]
  exact .mk ⟨rfl, rfl⟩
set_option maxRecDepth 100000 in
set_option maxHeartbeats 4000000 in
theorem ixUm_pc (m : Nat) (g : Nat) (p : Nat → Bool) (l : List Nat) (hl : l.length ≤ 1000000) (hg : ∀ x ∈ l, PCp g [.c (.int .u64 (x : Nat)), .c (.ptr 0 0)] [.box [.int .u64 (m : Int)]] (.c (.bool (p x))) [.box [.int .u64 (m : Int)]]) : PCp 160 [.c (.lst 1 (l.map encU)), .c (.fn g [.ptr 0 0])] [.box [.int .u64 (m : Int)]] (.c (.int .i64 (idxP p l))) [.box [.int .u64 (m : Int)]] := by
  have hlm : (l.map encU).length = l.length := List.length_map ..
  refine fn_sound (mt := mts) tab_fits tab_mixed Tryz.func160 (by rfl) (by kernel_rfl) (by kernel_rfl) Tryz.results160 (Nat.le_of_ble_eq_true (by kernel_rfl)) ?_
  conv => whnf
  refine loop_count (l.length) [] [0, 1, 7, 8] (fun k (_ : Unit) => ⟨[(0, .c (.lst 1 (l.map encU))), (1, .c (.fn g [.ptr 0 0])), (7, .c (.int .i64 (l.map encU).length)), (8, .c (.int .i64 k))], [(0, .box [.int .u64 (m : Int)])], 1⟩) (fun k (_ : Unit) => ∀ i (hi : i < l.length), i < k → p l[i] = false) (()) ?_ ?_ ?_
  · conv => whnf
    exact ⟨rfl, by intro i hi h; omega⟩
  · intro k _ hk hi
    conv => whnf
    repeat' (first | ((first | refine Split.mk (fun h => ?_) (fun h => ?_) | refine CondG.mk (fun h => ?_) (fun h => ?_)) <;> (try simp only [decide_eq_true_eq, decide_eq_false_iff_not, Bool.not_eq_true', Bool.not_eq_false', beq_iff_eq, beq_eq_false_iff_ne, bne_iff_ne, bne_eq_false_iff_eq] at h) <;> (first | (exfalso; first | omega | exact h trivial) | (conv => whnf))) | (refine CallX.mk _ _ (by first | exact hg l[k] (List.getElem_mem hk)) ?_; conv => whnf) | (refine CallG.mk _ _ (by first | exact hg l[k] (List.getElem_mem hk)) ?_; conv => whnf) | (refine Ask.mk (by first | omega | (unfold roomOK; simp [cutRows]; done) | (unfold roomOK; simp [cutRows]; omega) | (simp [cutRows]; done) | (simp [cutRows]; omega)) ?_; conv => whnf) | (refine AppG.mk (by first | omega | (unfold roomOK; simp [cutRows]; done) | (unfold roomOK; simp [cutRows]; omega) | (simp [cutRows]; done) | (simp [cutRows]; omega)) ?_; conv => whnf) | (refine SliceG.fr ?_; conv => whnf) | (refine idx_at _ (by with_reducible rfl) (by first | assumption | omega) ?_; conv => whnf) | ((with_reducible refine row_map (by first | assumption | omega) ?_); conv => whnf) | ((with_reducible refine row_set (by first | assumption | omega | (simp only [List.length_set]; omega) | (simp; omega)) ?_); conv => whnf) | fail)
    · exact .mk ⟨by rw [idxP_hit hk (fun i hi' => hi i (by omega) hi') h]; rfl, rfl⟩
    · refine count_next () hk (by rw [wrap_succ hk (by omega)]; rfl) ?_
      exact all_succ' hi h
  · intro _ hi
    conv => whnf
    repeat' (first | ((first | refine Split.mk (fun h => ?_) (fun h => ?_) | refine CondG.mk (fun h => ?_) (fun h => ?_)) <;> (try simp only [decide_eq_true_eq, decide_eq_false_iff_not, Bool.not_eq_true', Bool.not_eq_false', beq_iff_eq, beq_eq_false_iff_ne] at h) <;> (first | (exfalso; first | omega | exact h trivial) | (conv => whnf))) | (refine Ask.mk (by first | omega | (unfold roomOK; simp [cutRows]; done) | (unfold roomOK; simp [cutRows]; omega)) ?_; conv => whnf) | (refine AppG.mk (by first | omega | (unfold roomOK; simp [cutRows]; done) | (unfold roomOK; simp [cutRows]; omega)) ?_; conv => whnf) | (refine SliceG.fr ?_; conv => whnf) | fail)
    exact .mk ⟨by rw [idxP_miss (fun i h => hi i h h)]; rfl, rfl⟩
set_option maxRecDepth 100000 in
set_option maxHeartbeats 4000000 in
theorem ixUmC_pc (m : Nat) (g : Nat) (p : Nat → Bool) (l : List Nat) (hl : l.length ≤ 1000000) (hg : ∀ x ∈ l, PCp g [.c (.int .u64 (x : Nat)), .c (.ptr 0 0)] [.box [.int .u64 (m : Int)]] (.c (.bool (p x))) [.box [.int .u64 (m : Int)]]) : PCp 107 [.c (.lst 1 (l.map encU)), .c (.fn g [.ptr 0 0])] [.box [.int .u64 (m : Int)]] (.c (.bool (l.any p))) [.box [.int .u64 (m : Int)]] := by
  refine fn_sound (mt := mts) tab_fits tab_mixed Tryz.func107 (by rfl) (by kernel_rfl) (by kernel_rfl) Tryz.results107 (Nat.le_of_ble_eq_true (by kernel_rfl)) ?_
  conv => whnf
  repeat' (first | ((first | refine Split.mk (fun h => ?_) (fun h => ?_) | refine CondG.mk (fun h => ?_) (fun h => ?_)) <;> (try simp only [decide_eq_true_eq, decide_eq_false_iff_not, Bool.not_eq_true', Bool.not_eq_false', beq_iff_eq, beq_eq_false_iff_ne] at h) <;> (first | (exfalso; first | omega | exact h trivial) | (conv => whnf))) | (refine CallX.mk _ _ (by first | exact ixUm_pc m g p l hl hg) ?_; conv => whnf) | (refine CallG.mk _ _ (by first | exact ixUm_pc m g p l hl hg) ?_; conv => whnf) | (refine Ask.mk (by first | omega | (unfold roomOK; simp [cutRows]; done) | (unfold roomOK; simp [cutRows]; omega)) ?_; conv => whnf) | (refine AppG.mk (by first | omega | (unfold roomOK; simp [cutRows]; done) | (unfold roomOK; simp [cutRows]; omega)) ?_; conv => whnf) | (refine SliceG.fr ?_; conv => whnf) | fail)
  exact .mk ⟨by rw [← idxP_any]; rfl, rfl⟩
set_option maxRecDepth 100000 in
set_option maxHeartbeats 4000000 in
theorem fExplain_pc (s : List Sv) (hs : SvOk s) (down up : List ByteArray) (hd : StOkL s down) (hu : StOkL s up) :
    PCp 56 [.c (.lst 3 (s.map encSv)), .c (.lst 1 (down.map encS)), .c (.lst 1 (up.map encS))] [] (.tup [.c (.lst 1 ((explV s (susV s down up) down).map encLs)), .c (.int .i64 (explE s (susV s down up) down))]) [] := by
  have hsl := hs.len
  have hdl := hd.len
  have hdm : (down.map encS).length = down.length := List.length_map ..
  have hat : ∀ k, hasSv s k = true → ∃ i, ∃ hi : i < s.length, svIx s k = ((i : Nat) : Int) ∧ s[i] = svG s k ∧ s[i].els.length ≤ 100 ∧ Rise id s[i].els := by
    intro k hk
    rcases svIx_or hs.rise k with ⟨h1, _⟩ | ⟨_, i, hi, h2, h3⟩
    · rw [h1] at hk; cases hk
    · have := hs.each _ (List.getElem_mem hi)
      exact ⟨i, hi, h2, h3, this.len, this.rise⟩
  have hsus := fSuspects_pc s hs down up hd hu
  generalize hl : susV s down up = l at hsus
  have hlm : (l.map encS).length = l.length := List.length_map ..
  refine fn_sound (mt := mts) tab_fits tab_mixed Tryz.func56 (by rfl) (by kernel_rfl) (by kernel_rfl) Tryz.results56 (Nat.le_of_ble_eq_true (by kernel_rfl)) ?_
  conv => whnf
  repeat' (first | ((first | refine Split.mk (fun h => ?_) (fun h => ?_) | refine CondG.mk (fun h => ?_) (fun h => ?_)) <;> (try simp only [decide_eq_true_eq, decide_eq_false_iff_not, Bool.not_eq_true', Bool.not_eq_false', beq_iff_eq, beq_eq_false_iff_ne, bne_iff_ne, bne_eq_false_iff_eq] at h) <;> (first | (exfalso; first | omega | exact h trivial) | (conv => whnf))) | (refine CallX.mk _ _ (by first | exact hsus) ?_; conv => whnf) | (refine CallG.mk _ _ (by first | exact hsus) ?_; conv => whnf) | (refine Ask.mk (by first | omega | (unfold roomOK; simp [cutRows]; done) | (unfold roomOK; simp [cutRows]; omega) | (simp [cutRows]; done) | (simp [cutRows]; omega)) ?_; conv => whnf) | (refine AppG.mk (by first | omega | (unfold roomOK; simp [cutRows]; done) | (unfold roomOK; simp [cutRows]; omega) | (simp [cutRows]; done) | (simp [cutRows]; omega)) ?_; conv => whnf) | (refine SliceG.fr ?_; conv => whnf) | (refine idx_at _ (by with_reducible rfl) (by first | assumption | omega) ?_; conv => whnf) | ((with_reducible refine row_map (by first | assumption | omega) ?_); conv => whnf) | ((with_reducible refine row_set (by first | assumption | omega | (simp only [List.length_set]; omega) | (simp; omega)) ?_); conv => whnf) | fail)
  · have h14 : 14 < l.length := by omega
    have he : explE s l down = 12 := by unfold explE; rw [if_pos h14]
    have hv : explV s l down = [] := by unfold explV; rw [he, if_neg (by decide)]
    rw [he, hv]
    refine .weak [] (.tup _ _ rfl ?_) rfl (Nat.le_refl _)
    intro i a b ha hb
    match i with
    | 0 => cases ha; cases hb; exact .nil 1
    | 1 => cases ha; cases hb; exact .refl _
  have h14 : l.length ≤ 14 := by omega
  refine loop_for (down.length) [.sl 9 175 1] [0, 8, 9, 30, 31, 32] (fun k (_ : Unit) => [(32, .c (.int .i64 (k : Int)))]) (fun k (_ : Unit) => [(0, .row 175 1 ((needL s l (down.take k)).map encU))]) (fun k (_ : Unit) => True) (()) ?_
  conv => whnf
  refine ⟨(by first | rfl | (simp; done) | (simp; rfl)), (by trivial), ?_, ?_⟩
  · intro k _ hk _
    obtain ⟨i, hi, h2, h3, h4, h5⟩ := hat _ (hd.has _ (List.getElem_mem hk))
    have hN := needL_len s l (down.take k)
    have htl : (down.take k).length = k := by rw [List.length_take]; omega
    have hNm : ((needL s l (down.take k)).map encU).length = (needL s l (down.take k)).length := List.length_map ..
    conv => whnf
    repeat' (first | ((first | refine Split.mk (fun h => ?_) (fun h => ?_) | refine CondG.mk (fun h => ?_) (fun h => ?_)) <;> (try simp only [decide_eq_true_eq, decide_eq_false_iff_not, Bool.not_eq_true', Bool.not_eq_false', beq_iff_eq, beq_eq_false_iff_ne, bne_iff_ne, bne_eq_false_iff_eq] at h) <;> (first | (exfalso; first | omega | exact h trivial) | (conv => whnf))) | (refine Ask.mk (by first | omega | (unfold roomOK; simp [cutRows]; done) | (unfold roomOK; simp [cutRows]; omega) | (simp [cutRows]; done) | (simp [cutRows]; omega)) ?_; conv => whnf) | (refine AppG.mk (by first | omega | (unfold roomOK; simp [cutRows]; done) | (unfold roomOK; simp [cutRows]; omega) | (simp [cutRows]; done) | (simp [cutRows]; omega)) ?_; conv => whnf) | (refine SliceG.fr ?_; conv => whnf) | (refine idx_at _ (by with_reducible rfl) (by first | assumption | omega) ?_; conv => whnf) | ((with_reducible refine row_map (by first | assumption | omega) ?_); conv => whnf) | ((with_reducible refine row_set (by first | assumption | omega | (simp only [List.length_set]; omega) | (simp; omega)) ?_); conv => whnf) | fail)
    refine loop_for (l.length) [] [0, 8, 9, 11, 12, 30, 31, 32, 36, 37, 38] (fun j (_ : Unit) => [(12, .c (.int .u64 ((bitN (fun x => decide (x ∈ (svG s down[k]).els)) l j : Nat) : Int))), (38, .c (.int .i64 (j : Int)))]) (fun j (_ : Unit) => []) (fun j (_ : Unit) => True) (()) ?_
    conv => whnf
    refine ⟨(by first | rfl | (simp; done) | (simp; rfl)), (by trivial), ?_, ?_⟩
    · intro j _ hj _
      have b1 := bitN_lt (fun x => decide (x ∈ (svG s down[k]).els)) l j
      have b2 := pow14 (k := j) (by omega)
      have e1 : bitN (fun x => decide (x ∈ (svG s down[k]).els)) l (j + 1) = if l[j] ∈ s[i].els then bitN (fun x => decide (x ∈ (svG s down[k]).els)) l j ||| 2 ^ j else bitN (fun x => decide (x ∈ (svG s down[k]).els)) l j := by
        rw [bitN, List.getD_eq_getElem?_getD, List.getElem?_eq_getElem hj, ← h3]; simp
      conv => whnf
      repeat' (first | ((first | refine Split.mk (fun h => ?_) (fun h => ?_) | refine CondG.mk (fun h => ?_) (fun h => ?_)) <;> (try simp only [decide_eq_true_eq, decide_eq_false_iff_not, Bool.not_eq_true', Bool.not_eq_false', beq_iff_eq, beq_eq_false_iff_ne, bne_iff_ne, bne_eq_false_iff_eq] at h) <;> (first | (exfalso; first | omega | exact h trivial) | (conv => whnf))) | (refine CallX.mk _ _ (by first | exact fFind_pc s hs.rise (by omega) _ | exact fHas_pc h5 (by omega) _) ?_; conv => whnf) | (refine CallG.mk _ _ (by first | exact fFind_pc s hs.rise (by omega) _ | exact fHas_pc h5 (by omega) _) ?_; conv => whnf) | (refine Ask.mk (by first | omega | (unfold roomOK; simp [cutRows]; done) | (unfold roomOK; simp [cutRows]; omega) | (simp [cutRows]; done) | (simp [cutRows]; omega)) ?_; conv => whnf) | (refine AppG.mk (by first | omega | (unfold roomOK; simp [cutRows]; done) | (unfold roomOK; simp [cutRows]; omega) | (simp [cutRows]; done) | (simp [cutRows]; omega)) ?_; conv => whnf) | (refine SliceG.fr ?_; conv => whnf) | (refine idx_at _ (by with_reducible rfl) (by first | assumption | omega) ?_; conv => whnf) | ((with_reducible refine row_map (by first | assumption | omega) ?_); conv => whnf) | ((with_reducible refine row_set (by first | assumption | omega | (simp only [List.length_set]; omega) | (simp; omega)) ?_); conv => whnf) | ((rw [h2]; refine idx_map i hi rfl ?_); conv => whnf) | fail)
      all_goals rename_i h
      · exact count_next () hj (by rw [wrap_succ hj (by omega), shl1 (by omega), bits_or (by omega) (by omega), e1, if_pos h]; rfl) trivial
      · exact count_next () hj (by rw [wrap_succ hj (by omega), e1, if_neg h]; rfl) trivial
    · intro _ _
      have hT := needL_succ s l down hk
      have hO : bitN (fun x => decide (x ∈ (svG s down[k]).els)) l l.length = needO s l down[k] := rfl
      rw [hO]
      conv => whnf
      repeat' (first | ((first | refine Split.mk (fun h => ?_) (fun h => ?_) | refine CondG.mk (fun h => ?_) (fun h => ?_)) <;> (try simp only [decide_eq_true_eq, decide_eq_false_iff_not, Bool.not_eq_true', Bool.not_eq_false', beq_iff_eq, beq_eq_false_iff_ne, bne_iff_ne, bne_eq_false_iff_eq] at h) <;> (first | (exfalso; first | omega | exact h trivial) | (conv => whnf))) | (refine Ask.mk (by first | omega | (unfold roomOK; simp [cutRows]; done) | (unfold roomOK; simp [cutRows]; omega) | (simp [cutRows]; done) | (simp [cutRows]; omega)) ?_; conv => whnf) | (refine AppG.mk (by first | omega | (unfold roomOK; simp [cutRows]; done) | (unfold roomOK; simp [cutRows]; omega) | (simp [cutRows]; done) | (simp [cutRows]; omega)) ?_; conv => whnf) | (refine SliceG.fr ?_; conv => whnf) | (refine idx_at _ (by with_reducible rfl) (by first | assumption | omega) ?_; conv => whnf) | ((with_reducible refine row_map (by first | assumption | omega) ?_); conv => whnf) | ((with_reducible refine row_set (by first | assumption | omega | (simp only [List.length_set]; omega) | (simp; omega)) ?_); conv => whnf) | fail)
      all_goals rename_i h
      · exact count_next () hk (by rw [wrap_succ hk (by omega), hT, if_pos (by omega), List.map_append]; rfl) trivial
      · exact count_next () hk (by rw [wrap_succ hk (by omega), hT, if_neg (by omega), List.append_nil]; rfl) trivial
  · intro _ _
    rw [List.take_length]
    have hnl := needL_lt (s := s) (down := down) h14
    have hnn := needL_len s l down
    have hV : bestL s l down = bestK (needL s l down) (2 ^ l.length) := rfl
    generalize needL s l down = ns at hnl hnn hV
    have hp := pow14 h14
    have hnm : (ns.map encU).length = ns.length := List.length_map ..
    conv => whnf
    repeat' (first | ((first | refine Split.mk (fun h => ?_) (fun h => ?_) | refine CondG.mk (fun h => ?_) (fun h => ?_)) <;> (try simp only [decide_eq_true_eq, decide_eq_false_iff_not, Bool.not_eq_true', Bool.not_eq_false', beq_iff_eq, beq_eq_false_iff_ne, bne_iff_ne, bne_eq_false_iff_eq] at h) <;> (first | (exfalso; first | omega | exact h trivial) | (conv => whnf))) | (refine Ask.mk (by first | omega | (unfold roomOK; simp [cutRows]; done) | (unfold roomOK; simp [cutRows]; omega) | (simp [cutRows]; done) | (simp [cutRows]; omega)) ?_; conv => whnf) | (refine AppG.mk (by first | omega | (unfold roomOK; simp [cutRows]; done) | (unfold roomOK; simp [cutRows]; omega) | (simp [cutRows]; done) | (simp [cutRows]; omega)) ?_; conv => whnf) | (refine SliceG.fr ?_; conv => whnf) | (refine idx_at _ (by with_reducible rfl) (by first | assumption | omega) ?_; conv => whnf) | ((with_reducible refine row_map (by first | assumption | omega) ?_); conv => whnf) | ((with_reducible refine row_set (by first | assumption | omega | (simp only [List.length_set]; omega) | (simp; omega)) ?_); conv => whnf) | fail)
    rw [hlm, shl1 h14]
    refine loop_count (2 ^ l.length) [.sl 15 175 1] [8, 9, 15, 66, 67] (fun k (_ : Unit) => ⟨[(8, .c (.lst 1 (l.map encS))), (9, .c (.row 0)), (15, .c (.row 1)), (66, .c (.int .u64 ((2 ^ l.length : Nat) : Int))), (67, .c (.int .u64 ((k : Nat) : Int)))], [(0, ndO k (ns.map encU)), (1, .row 175 1 ((bestK ns k).map encU))], 2⟩) (fun k (_ : Unit) => True) (()) ?_ ?_ ?_
    · conv => whnf
      exact ⟨rfl, trivial⟩
    · intro k _ hk _
      obtain ⟨c1, c2⟩ := bestK_lt ns k
      have hbs : bestK ns (k + 1) = if goodM ns k then withB (beforeB (bestK ns k) k) k else bestK ns k := rfl
      have hg : goodM ns k = !(ns.any fun n => decide (n &&& k = 0)) := rfl
      have hbm : ((bestK ns k).map encU).length = (bestK ns k).length := List.length_map ..
      have hw : IntKind.u64.wrap ((k : Int) + 1) = ((k + 1 : Nat) : Int) := u64N (n := k + 1) (by omega)
      rcases Nat.eq_zero_or_pos k with hk0 | hk0
      · have hb : bestK ns k = [] := by rw [hk0]; rfl
        have hn0 : ndO k (ns.map encU) = .row 175 1 (ns.map encU) := by rw [hk0]; rfl
        rw [hb] at hbs hbm
        rw [hn0, hb]
        conv => whnf
        repeat' (first | ((first | refine Split.mk (fun h => ?_) (fun h => ?_) | refine CondG.mk (fun h => ?_) (fun h => ?_)) <;> (try simp only [decide_eq_true_eq, decide_eq_false_iff_not, Bool.not_eq_true', Bool.not_eq_false', beq_iff_eq, beq_eq_false_iff_ne, bne_iff_ne, bne_eq_false_iff_eq] at h) <;> (first | (exfalso; first | omega | exact h trivial) | (conv => whnf))) | (refine CallX.mk _ _ (by first | exact ixUmC_pc k 108 (fun n => decide (n &&& k = 0)) ns (by omega) (fun n hn => fExp1_pc k (by omega) n (hnl n hn)) | exact fsize_pc k (by omega)) ?_; conv => whnf) | (refine CallG.mk _ _ (by first | exact ixUmC_pc k 108 (fun n => decide (n &&& k = 0)) ns (by omega) (fun n hn => fExp1_pc k (by omega) n (hnl n hn)) | exact fsize_pc k (by omega)) ?_; conv => whnf) | (refine Ask.mk (by first | omega | (unfold roomOK; simp [cutRows]; done) | (unfold roomOK; simp [cutRows]; omega) | (simp [cutRows]; done) | (simp [cutRows]; omega)) ?_; conv => whnf) | (refine AppG.mk (by first | omega | (unfold roomOK; simp [cutRows]; done) | (unfold roomOK; simp [cutRows]; omega) | (simp [cutRows]; done) | (simp [cutRows]; omega)) ?_; conv => whnf) | (refine SliceG.fr ?_; conv => whnf) | (refine idx_at _ (by with_reducible rfl) (by first | assumption | omega) ?_; conv => whnf) | ((with_reducible refine row_map (by first | assumption | omega) ?_); conv => whnf) | ((with_reducible refine row_set (by first | assumption | omega | (simp only [List.length_set]; omega) | (simp; omega)) ?_); conv => whnf) | fail)
        all_goals first | (exfalso; rename_i h; simp at h; done) | skip
        · exact count_next () hk (by rw [hw, hbs, hg, if_neg (by simp_all)]; rfl) trivial
        · exact count_next () hk (by rw [hw, hbs, hg, if_pos (by simp_all)]; rfl) trivial
      rw [ndO_pos (by omega)]
      rcases hb : bestK ns k with _ | ⟨x, r⟩
      · rw [hb] at hbs hbm
        conv => whnf
        repeat' (first | ((first | refine Split.mk (fun h => ?_) (fun h => ?_) | refine CondG.mk (fun h => ?_) (fun h => ?_)) <;> (try simp only [decide_eq_true_eq, decide_eq_false_iff_not, Bool.not_eq_true', Bool.not_eq_false', beq_iff_eq, beq_eq_false_iff_ne, bne_iff_ne, bne_eq_false_iff_eq] at h) <;> (first | (exfalso; first | omega | exact h trivial) | (conv => whnf))) | (refine CallX.mk _ _ (by first | exact ixUmC_pc k 108 (fun n => decide (n &&& k = 0)) ns (by omega) (fun n hn => fExp1_pc k (by omega) n (hnl n hn)) | exact fsize_pc k (by omega)) ?_; conv => whnf) | (refine CallG.mk _ _ (by first | exact ixUmC_pc k 108 (fun n => decide (n &&& k = 0)) ns (by omega) (fun n hn => fExp1_pc k (by omega) n (hnl n hn)) | exact fsize_pc k (by omega)) ?_; conv => whnf) | (refine Ask.mk (by first | omega | (unfold roomOK; simp [cutRows]; done) | (unfold roomOK; simp [cutRows]; omega) | (simp [cutRows]; done) | (simp [cutRows]; omega)) ?_; conv => whnf) | (refine AppG.mk (by first | omega | (unfold roomOK; simp [cutRows]; done) | (unfold roomOK; simp [cutRows]; omega) | (simp [cutRows]; done) | (simp [cutRows]; omega)) ?_; conv => whnf) | (refine SliceG.fr ?_; conv => whnf) | (refine idx_at _ (by with_reducible rfl) (by first | assumption | omega) ?_; conv => whnf) | ((with_reducible refine row_map (by first | assumption | omega) ?_); conv => whnf) | ((with_reducible refine row_set (by first | assumption | omega | (simp only [List.length_set]; omega) | (simp; omega)) ?_); conv => whnf) | fail)
        all_goals first | (exfalso; rename_i h; simp at h; done) | skip
        · exact count_next () hk (by rw [hw, hbs, hg, if_neg (by simp_all)]; rfl) trivial
        · exact count_next () hk (by rw [hw, hbs, hg, if_pos (by simp_all)]; rfl) trivial
      · rw [hb] at hbs hbm c1 c2
        have hx := c1 x (by simp)
        have hr : r.length + 1 ≤ 16384 := by simp only [List.length_cons] at c2; omega
        have hX : goodM ns k = true → bestK ns (k + 1) = if popc k < popc x then [k] else if popc k = popc x then (x :: r) ++ [k] else x :: r := by
          intro hgd
          rw [hbs, if_pos hgd]
          unfold beforeB
          by_cases q : popc k < popc x <;> simp [q, withB]
        have hbm2 : ((x :: r).map encU).length = r.length + 1 := by simp
        conv => whnf
        repeat' (first | ((first | refine Split.mk (fun h => ?_) (fun h => ?_) | refine CondG.mk (fun h => ?_) (fun h => ?_)) <;> (try simp only [decide_eq_true_eq, decide_eq_false_iff_not, Bool.not_eq_true', Bool.not_eq_false', beq_iff_eq, beq_eq_false_iff_ne, bne_iff_ne, bne_eq_false_iff_eq] at h) <;> (first | (exfalso; first | omega | exact h trivial) | (conv => whnf))) | (refine CallX.mk _ _ (by first | exact ixUmC_pc k 108 (fun n => decide (n &&& k = 0)) ns (by omega) (fun n hn => fExp1_pc k (by omega) n (hnl n hn)) | exact fsize_pc k (by omega) | exact fsize_pc x (by omega)) ?_; conv => whnf) | (refine CallG.mk _ _ (by first | exact ixUmC_pc k 108 (fun n => decide (n &&& k = 0)) ns (by omega) (fun n hn => fExp1_pc k (by omega) n (hnl n hn)) | exact fsize_pc k (by omega) | exact fsize_pc x (by omega)) ?_; conv => whnf) | (refine Ask.mk (by first | omega | (unfold roomOK; simp [cutRows]; done) | (unfold roomOK; simp [cutRows]; omega) | (simp [cutRows]; done) | (simp [cutRows]; omega)) ?_; conv => whnf) | (refine AppG.mk (by first | omega | (unfold roomOK; simp [cutRows]; done) | (unfold roomOK; simp [cutRows]; omega) | (simp [cutRows]; done) | (simp [cutRows]; omega)) ?_; conv => whnf) | (refine SliceG.fr ?_; conv => whnf) | (refine idx_at _ (by with_reducible rfl) (by first | assumption | omega) ?_; conv => whnf) | ((with_reducible refine row_map (by first | assumption | omega) ?_); conv => whnf) | ((with_reducible refine row_set (by first | assumption | omega | (simp only [List.length_set]; omega) | (simp; omega)) ?_); conv => whnf) | ((refine row_at 0 rfl (by simp) ?_); conv => whnf) | ((refine .mk (room_small (Nat.le_trans (Nat.add_le_add (show _ ≤ 16384 by rw [hbm2]; exact hr) (show _ ≤ 1 from Nat.le_refl _)) (by decide)) (by decide)) ?_); conv => whnf) | fail)
        · have ha : (ns.any fun n => decide (n &&& k = 0)) = true := by assumption
          have hgd : ¬ goodM ns k = true := by rw [hg, ha]; decide
          exact count_next () hk (by rw [hw, hbs, if_neg hgd]; rfl) trivial
        all_goals
          have ha : (ns.any fun n => decide (n &&& k = 0)) = false := by assumption
          have hgd : goodM ns k = true := by rw [hg, ha]; rfl
          have hX := hX hgd
        · have q : popc k < popc x := by omega
          rw [if_pos q] at hX
          exact count_next () hk (by rw [hw, hX]; rfl) trivial
        · have q : popc k = popc x := by omega
          rw [if_neg (by omega), if_pos q] at hX
          exact count_next () hk (by rw [hw, hX, List.map_append]; rfl) trivial
        · have q : popc k ≠ popc x := by omega
          rw [if_neg (by omega), if_neg q] at hX
          exact count_next () hk (by rw [hw, hX]; rfl) trivial
    · intro _ _
      rw [ndO_pos (by have := Nat.two_pow_pos l.length; omega), ← hV]
      have hbl : ∀ m ∈ bestL s l down, m < 16384 := by
        intro m hm
        have := (bestK_lt ns (2 ^ l.length)).1 m (by rw [← hV]; exact hm)
        omega
      have hbn : (bestL s l down).length ≤ 16384 := by
        have := (bestK_lt ns (2 ^ l.length)).2
        rw [hV]; omega
      have hbm : ((bestL s l down).map encU).length = (bestL s l down).length := List.length_map ..
      have hE : explE s l down = if 1000 < (bestL s l down).length then 2 else 0 := by unfold explE; rw [if_neg (by omega)]
      have hVV : explV s l down = if explE s l down = 0 then (sortM (bestL s l down)).map (pickM l) else [] := rfl
      have hsl2 := sortM_len hbl
      conv => whnf
      repeat' (first | ((first | refine Split.mk (fun h => ?_) (fun h => ?_) | refine CondG.mk (fun h => ?_) (fun h => ?_)) <;> (try simp only [decide_eq_true_eq, decide_eq_false_iff_not, Bool.not_eq_true', Bool.not_eq_false', beq_iff_eq, beq_eq_false_iff_ne, bne_iff_ne, bne_eq_false_iff_eq] at h) <;> (first | (exfalso; first | omega | exact h trivial) | (conv => whnf))) | (refine CallX.mk _ _ (by first | exact sortU_pc _ hbl (by omega)) ?_; conv => whnf) | (refine CallG.mk _ _ (by first | exact sortU_pc _ hbl (by omega)) ?_; conv => whnf) | (refine Ask.mk (by first | omega | (unfold roomOK; simp [cutRows]; done) | (unfold roomOK; simp [cutRows]; omega) | (simp [cutRows]; done) | (simp [cutRows]; omega)) ?_; conv => whnf) | (refine AppG.mk (by first | omega | (unfold roomOK; simp [cutRows]; done) | (unfold roomOK; simp [cutRows]; omega) | (simp [cutRows]; done) | (simp [cutRows]; omega)) ?_; conv => whnf) | (refine SliceG.fr ?_; conv => whnf) | (refine idx_at _ (by with_reducible rfl) (by first | assumption | omega) ?_; conv => whnf) | ((with_reducible refine row_map (by first | assumption | omega) ?_); conv => whnf) | ((with_reducible refine row_set (by first | assumption | omega | (simp only [List.length_set]; omega) | (simp; omega)) ?_); conv => whnf) | fail)
      · have h5 : 1000 < (bestL s l down).length := by omega
        rw [if_pos h5] at hE
        rw [hE, if_neg (by decide)] at hVV
        rw [hE, hVV]
        refine .weak [] (.tup _ _ rfl ?_) rfl (Nat.le_refl _)
        intro i a b ha hb
        match i with
        | 0 => cases ha; cases hb; exact .nil 1
        | 1 => cases ha; cases hb; exact .refl _
      · have h5 : ¬ 1000 < (bestL s l down).length := by omega
        rw [if_neg h5] at hE
        rw [hE, if_pos rfl] at hVV
        rw [hE, hVV]
        have hms2 : ∀ m ∈ sortM (bestL s l down), m < 16384 := fun m hm => hbl m ((sortM_perm hbl).mem_iff.1 hm)
        generalize sortM (bestL s l down) = ms at hsl2 hms2
        have hms : (ms.map encU).length = ms.length := List.length_map ..
        have hml : ∀ m ∈ ms, m < 16384 := hms2
        refine loop_for (ms.length) [.sl 17 28 1] [8, 17, 107, 108, 109] (fun k (_ : Unit) => [(109, .c (.int .i64 (k : Int)))]) (fun k (_ : Unit) => [(0, .row 28 1 (((ms.take k).map (pickM l)).map encLs))]) (fun k (_ : Unit) => True) (()) ?_
        conv => whnf
        refine ⟨(by first | rfl | (simp; done) | (simp; rfl)), (by trivial), ?_, ?_⟩
        · intro k _ hk _
          have hm := hml _ (List.getElem_mem hk)
          have hol : (((ms.take k).map (pickM l)).map encLs).length = k := by simp; omega
          conv => whnf
          repeat' (first | ((first | refine Split.mk (fun h => ?_) (fun h => ?_) | refine CondG.mk (fun h => ?_) (fun h => ?_)) <;> (try simp only [decide_eq_true_eq, decide_eq_false_iff_not, Bool.not_eq_true', Bool.not_eq_false', beq_iff_eq, beq_eq_false_iff_ne, bne_iff_ne, bne_eq_false_iff_eq] at h) <;> (first | (exfalso; first | omega | exact h trivial) | (conv => whnf))) | (refine Ask.mk (by first | omega | (unfold roomOK; simp [cutRows]; done) | (unfold roomOK; simp [cutRows]; omega) | (simp [cutRows]; done) | (simp [cutRows]; omega)) ?_; conv => whnf) | (refine AppG.mk (by first | omega | (unfold roomOK; simp [cutRows]; done) | (unfold roomOK; simp [cutRows]; omega) | (simp [cutRows]; done) | (simp [cutRows]; omega)) ?_; conv => whnf) | (refine SliceG.fr ?_; conv => whnf) | (refine idx_at _ (by with_reducible rfl) (by first | assumption | omega) ?_; conv => whnf) | ((with_reducible refine row_map (by first | assumption | omega) ?_); conv => whnf) | ((with_reducible refine row_set (by first | assumption | omega | (simp only [List.length_set]; omega) | (simp; omega)) ?_); conv => whnf) | ((refine row_at k toN (by omega) ?_); conv => whnf) | fail)
          refine loop_for (l.length) [.sl 20 9 1] [8, 17, 19, 20, 107, 108, 109, 113, 114, 115] (fun j (_ : Unit) => [(115, .c (.int .i64 (j : Int)))]) (fun j (_ : Unit) => [(1, .row 9 1 ((setL l ms[k] j).map encS))]) (fun j (_ : Unit) => True) (()) ?_
          conv => whnf
          refine ⟨(by first | rfl | (simp; done) | (simp; rfl)), (by trivial), ?_, ?_⟩
          · intro j _ hj _
            have hs1 := setL_len l ms[k] j
            have hsm1 : ((setL l ms[k] j).map encS).length = (setL l ms[k] j).length := List.length_map ..
            have hgd : l.getD j ⟨#[]⟩ = l[j] := by simp [List.getD_eq_getElem?_getD, List.getElem?_eq_getElem hj]
            have e1 : setL l ms[k] (j + 1) = if ms[k].testBit j = true then setL l ms[k] j ++ [l[j]] else setL l ms[k] j := by rw [setL, hgd]
            conv => whnf
            repeat' (first | ((first | refine Split.mk (fun h => ?_) (fun h => ?_) | refine CondG.mk (fun h => ?_) (fun h => ?_)) <;> (try simp only [decide_eq_true_eq, decide_eq_false_iff_not, Bool.not_eq_true', Bool.not_eq_false', beq_iff_eq, beq_eq_false_iff_ne, bne_iff_ne, bne_eq_false_iff_eq] at h) <;> (first | (exfalso; first | omega | exact h trivial) | (conv => whnf))) | (refine Ask.mk (by first | omega | (unfold roomOK; simp [cutRows]; done) | (unfold roomOK; simp [cutRows]; omega) | (simp [cutRows]; done) | (simp [cutRows]; omega)) ?_; conv => whnf) | (refine AppG.mk (by first | omega | (unfold roomOK; simp [cutRows]; done) | (unfold roomOK; simp [cutRows]; omega) | (simp [cutRows]; done) | (simp [cutRows]; omega)) ?_; conv => whnf) | (refine SliceG.fr ?_; conv => whnf) | (refine idx_at _ (by with_reducible rfl) (by first | assumption | omega) ?_; conv => whnf) | ((with_reducible refine row_map (by first | assumption | omega) ?_); conv => whnf) | ((with_reducible refine row_set (by first | assumption | omega | (simp only [List.length_set]; omega) | (simp; omega)) ?_); conv => whnf) | fail)
            · have q := (shbit hm (by omega : j ≤ 14)).1 (by assumption)
              exact count_next () hj (by rw [wrap_succ hj (by omega), e1, if_pos q, List.map_append]; rfl) trivial
            · have q : ¬ ms[k].testBit j = true := fun q => absurd ((shbit hm (by omega : j ≤ 14)).2 q) (by assumption)
              exact count_next () hj (by rw [wrap_succ hj (by omega), e1, if_neg q]; rfl) trivial
          · intro _ _
            conv => whnf
            repeat' (first | ((first | refine Split.mk (fun h => ?_) (fun h => ?_) | refine CondG.mk (fun h => ?_) (fun h => ?_)) <;> (try simp only [decide_eq_true_eq, decide_eq_false_iff_not, Bool.not_eq_true', Bool.not_eq_false', beq_iff_eq, beq_eq_false_iff_ne, bne_iff_ne, bne_eq_false_iff_eq] at h) <;> (first | (exfalso; first | omega | exact h trivial) | (conv => whnf))) | (refine Ask.mk (by first | omega | (unfold roomOK; simp [cutRows]; done) | (unfold roomOK; simp [cutRows]; omega) | (simp [cutRows]; done) | (simp [cutRows]; omega)) ?_; conv => whnf) | (refine AppG.mk (by first | omega | (unfold roomOK; simp [cutRows]; done) | (unfold roomOK; simp [cutRows]; omega) | (simp [cutRows]; done) | (simp [cutRows]; omega)) ?_; conv => whnf) | (refine SliceG.fr ?_; conv => whnf) | (refine idx_at _ (by with_reducible rfl) (by first | assumption | omega) ?_; conv => whnf) | ((with_reducible refine row_map (by first | assumption | omega) ?_); conv => whnf) | ((with_reducible refine row_set (by first | assumption | omega | (simp only [List.length_set]; omega) | (simp; omega)) ?_); conv => whnf) | fail)
            exact count_next () hk (by rw [wrap_succ hk (by omega), List.take_succ_eq_append_getElem hk, List.map_append, List.map_append]; rfl) trivial
        · intro _ _
          rw [List.take_length]
          conv => whnf
          repeat' (first | ((first | refine Split.mk (fun h => ?_) (fun h => ?_) | refine CondG.mk (fun h => ?_) (fun h => ?_)) <;> (try simp only [decide_eq_true_eq, decide_eq_false_iff_not, Bool.not_eq_true', Bool.not_eq_false', beq_iff_eq, beq_eq_false_iff_ne, bne_iff_ne, bne_eq_false_iff_eq] at h) <;> (first | (exfalso; first | omega | exact h trivial) | (conv => whnf))) | (refine Ask.mk (by first | omega | (unfold roomOK; simp [cutRows]; done) | (unfold roomOK; simp [cutRows]; omega) | (simp [cutRows]; done) | (simp [cutRows]; omega)) ?_; conv => whnf) | (refine AppG.mk (by first | omega | (unfold roomOK; simp [cutRows]; done) | (unfold roomOK; simp [cutRows]; omega) | (simp [cutRows]; done) | (simp [cutRows]; omega)) ?_; conv => whnf) | (refine SliceG.fr ?_; conv => whnf) | (refine idx_at _ (by with_reducible rfl) (by first | assumption | omega) ?_; conv => whnf) | ((with_reducible refine row_map (by first | assumption | omega) ?_); conv => whnf) | ((with_reducible refine row_set (by first | assumption | omega | (simp only [List.length_set]; omega) | (simp; omega)) ?_); conv => whnf) | fail)
          refine .frz 0 _ _ _ rfl (.weak [_] (.tup _ _ rfl ?_) rfl (Nat.le_refl _))
          intro i a b ha hb
          match i with
          | 0 => cases ha; cases hb; exact .fro 0 _ _ rfl
          | 1 => cases ha; cases hb; exact .refl _
end Go.Proofs.YtllpjcgadfmipaaGreat

/- What is unexplained, by the program; elements by captured lists. -/
namespace Go.Proofs.YtllpjcgadfmipaaGreat
set_option linter.unusedVariables false
set_option linter.unusedSimpArgs false
open Abs

theorem seen_ok {s : List Sv} {down up : List ByteArray} (h0 : seenErr s down up = 0) : SvOk s ∧ StOkL s down ∧ StOkL s up := by
  have hs0 : svFault s = 0 := by
    unfold seenErr at h0
    split at h0
    · omega
    · omega
  have hd0 : stErr s down = 0 := by
    unfold seenErr at h0
    rw [if_neg (by omega)] at h0
    split at h0
    · omega
    · omega
  have hu0 : stErr s up = 0 := by
    unfold seenErr at h0
    rw [if_neg (by omega), if_neg (by omega)] at h0
    split at h0
    · omega
    · omega
  exact ⟨svFault_ok hs0, stErr_ok hd0, stErr_ok hu0⟩
def needsB (s : List Sv) (l : List ByteArray) (k : ByteArray) : Bool := l.any fun x => decide (x ∈ (svG s k).els)
def unexV (s : List Sv) (l down : List ByteArray) : List ByteArray := down.filter fun k => !needsB s l k
set_option maxRecDepth 100000 in
set_option maxHeartbeats 4000000 in
theorem ixUr_pc (xs ss : List (List V)) (g : Nat) (p : ByteArray → Bool) (l : List ByteArray) (hl : l.length ≤ 1000000) (hg : ∀ x ∈ l, PCp g [.c (.str x), .c (.ptr 0 0), .c (.ptr 1 0)] [.box [.lst 1 xs], .box [.lst 3 ss]] (.c (.bool (p x))) [.box [.lst 1 xs], .box [.lst 3 ss]]) : PCp 68 [.c (.row 0), .c (.fn g [.ptr 1 0, .ptr 2 0])] [.row 9 1 (l.map encS), .box [.lst 1 xs], .box [.lst 3 ss]] (.c (.int .i64 (idxP p l))) [.row 9 1 (l.map encS), .box [.lst 1 xs], .box [.lst 3 ss]] := by
  have hlm : (l.map encS).length = l.length := List.length_map ..
  refine fn_sound (mt := mts) tab_fits tab_mixed Tryz.func68 (by rfl) (by kernel_rfl) (by kernel_rfl) Tryz.results68 (Nat.le_of_ble_eq_true (by kernel_rfl)) ?_
  conv => whnf
  refine loop_for (l.length) [] [0, 1, 7, 8] (fun k (_ : Unit) => [(8, .c (.int .i64 (k : Int)))]) (fun k (_ : Unit) => []) (fun k (_ : Unit) => ∀ i (hi : i < l.length), i < k → p l[i] = false) (()) ?_
  conv => whnf
  refine ⟨(by first | rfl | (simp; done) | (simp; rfl)), ?_, ?_, ?_⟩
  · intro i hi h; omega
  · intro k _ hk hi
    conv => whnf
    repeat' (first | ((first | refine Split.mk (fun h => ?_) (fun h => ?_) | refine CondG.mk (fun h => ?_) (fun h => ?_)) <;> (try simp only [decide_eq_true_eq, decide_eq_false_iff_not, Bool.not_eq_true', Bool.not_eq_false', beq_iff_eq, beq_eq_false_iff_ne, bne_iff_ne, bne_eq_false_iff_eq] at h) <;> (first | (exfalso; first | omega | exact h trivial) | (conv => whnf))) | (refine CallX.mk _ _ (by first | exact hg l[k] (List.getElem_mem hk)) ?_; conv => whnf) | (refine CallG.mk _ _ (by first | exact hg l[k] (List.getElem_mem hk)) ?_; conv => whnf) | (refine Ask.mk (by first | omega | (unfold roomOK; simp [cutRows]; done) | (unfold roomOK; simp [cutRows]; omega) | (simp [cutRows]; done) | (simp [cutRows]; omega)) ?_; conv => whnf) | (refine AppG.mk (by first | omega | (unfold roomOK; simp [cutRows]; done) | (unfold roomOK; simp [cutRows]; omega) | (simp [cutRows]; done) | (simp [cutRows]; omega)) ?_; conv => whnf) | (refine SliceG.fr ?_; conv => whnf) | (refine idx_at _ (by with_reducible rfl) (by first | assumption | omega) ?_; conv => whnf) | ((with_reducible refine row_map (by first | assumption | omega) ?_); conv => whnf) | ((with_reducible refine row_set (by first | assumption | omega | (simp only [List.length_set]; omega) | (simp; omega)) ?_); conv => whnf) | fail)
    · exact .mk ⟨by rw [idxP_hit hk (fun i hi' => hi i (by omega) hi') h]; rfl, rfl⟩
    · refine count_next () hk (by rw [wrap_succ hk (by omega)]; rfl) ?_
      exact all_succ' hi h
  · intro _ hi
    conv => whnf
    repeat' (first | ((first | refine Split.mk (fun h => ?_) (fun h => ?_) | refine CondG.mk (fun h => ?_) (fun h => ?_)) <;> (try simp only [decide_eq_true_eq, decide_eq_false_iff_not, Bool.not_eq_true', Bool.not_eq_false', beq_iff_eq, beq_eq_false_iff_ne] at h) <;> (first | (exfalso; first | omega | exact h trivial) | (conv => whnf))) | (refine Ask.mk (by first | omega | (unfold roomOK; simp [cutRows]; done) | (unfold roomOK; simp [cutRows]; omega)) ?_; conv => whnf) | (refine AppG.mk (by first | omega | (unfold roomOK; simp [cutRows]; done) | (unfold roomOK; simp [cutRows]; omega)) ?_; conv => whnf) | (refine SliceG.fr ?_; conv => whnf) | fail)
    exact .mk ⟨by rw [idxP_miss (fun i h => hi i h h)]; rfl, rfl⟩
set_option maxRecDepth 100000 in
set_option maxHeartbeats 4000000 in
theorem delfU_pc (xs ss : List (List V)) (g : Nat) (p : ByteArray → Bool) (l : List ByteArray) (hl : l.length ≤ 1000000) (hg : ∀ x ∈ l, PCp g [.c (.str x), .c (.ptr 0 0), .c (.ptr 1 0)] [.box [.lst 1 xs], .box [.lst 3 ss]] (.c (.bool (p x))) [.box [.lst 1 xs], .box [.lst 3 ss]]) : PCp 51 [.c (.row 0), .c (.fn g [.ptr 1 0, .ptr 2 0])] [.row 9 1 (l.map encS), .box [.lst 1 xs], .box [.lst 3 ss]] (.c (.row 3)) [.dead, .box [.lst 1 xs], .box [.lst 3 ss], .row 9 1 ((l.filter fun x => !p x).map encS)] := by
  have hlm : (l.map encS).length = l.length := List.length_map ..
  rcases idxP_or p l with ⟨hix, hno⟩ | ⟨i0, h0, hix, hp, hbef⟩
  · have hf : l.filter (fun x => !p x) = l := List.filter_eq_self.2 (fun x hx => by simp [hno x hx])
    refine fn_sound (mt := mts) tab_fits tab_mixed Tryz.func51 (by rfl) (by kernel_rfl) (by kernel_rfl) Tryz.results51 (Nat.le_of_ble_eq_true (by kernel_rfl)) ?_
    conv => whnf
    repeat' (first | ((first | refine Split.mk (fun h => ?_) (fun h => ?_) | refine CondG.mk (fun h => ?_) (fun h => ?_)) <;> (try simp only [decide_eq_true_eq, decide_eq_false_iff_not, Bool.not_eq_true', Bool.not_eq_false', beq_iff_eq, beq_eq_false_iff_ne] at h) <;> (first | (exfalso; first | omega | exact h trivial) | (conv => whnf))) | (refine CallX.mk _ _ (by first | exact ixUr_pc xs ss g p l hl hg) ?_; conv => whnf) | (refine CallG.mk _ _ (by first | exact ixUr_pc xs ss g p l hl hg) ?_; conv => whnf) | (refine Ask.mk (by first | omega | (unfold roomOK; simp [cutRows]; done) | (unfold roomOK; simp [cutRows]; omega)) ?_; conv => whnf) | (refine AppG.mk (by first | omega | (unfold roomOK; simp [cutRows]; done) | (unfold roomOK; simp [cutRows]; omega)) ?_; conv => whnf) | (refine SliceG.fr ?_; conv => whnf) | fail)
    · refine .cutv 0 _ _ l.length _ (.inr ⟨rfl, hlm.symm⟩) rfl (by omega) (.mk ⟨rfl, ?_⟩)
      rw [hf, show List.take l.length (l.map encS) = l.map encS from List.take_of_length_le (by omega)]; rfl
  · refine fn_sound (mt := mts) tab_fits tab_mixed Tryz.func51 (by rfl) (by kernel_rfl) (by kernel_rfl) Tryz.results51 (Nat.le_of_ble_eq_true (by kernel_rfl)) ?_
    conv => whnf
    refine .mk _ _ (ixUr_pc xs ss g p l hl hg) ?_
    rw [hix]
    conv => whnf
    refine .mk (fun h => ?_) (fun h => ?_)
    · first | omega | (simp at h; done) | (simp at h; omega)
    conv => whnf
    rw [wrap_succ h0 (by omega)]
    refine loop_for2 (l.length - (i0 + 1)) [] [0, 1, 5, 6] (fun m (i : Nat) (q : List ByteArray) => [(5, .c (.int .i64 ((i : Nat) : Int))), (6, .c (.int .i64 ((i0 + 1 + m : Nat) : Int)))]) (fun m (i : Nat) (q : List ByteArray) => [(0, .row 9 1 (q.map encS))]) (fun m (i : Nat) (q : List ByteArray) => q.length = l.length ∧ i < i0 + 1 + m ∧ q.drop (i0 + 1 + m) = l.drop (i0 + 1 + m) ∧ q.take i ++ (l.drop (i0 + 1 + m)).filter (fun x => !p x) = l.filter (fun x => !p x)) (i0) (l) ?_
    conv => whnf
    refine ⟨(by first | rfl | (simp; done) | (simp; rfl)), ?_, ?_, ?_⟩
    · exact ⟨rfl, by omega, rfl, delf_start h0 hp hbef⟩
    · intro m i q hm ⟨g1, g2, g3, g4⟩
      have hqm : (q.map encS).length = q.length := List.length_map ..
      have hj : i0 + 1 + m < l.length := by omega
      have q1 : q[i0 + 1 + m]'(by omega) = l[i0 + 1 + m] := getElem_of_drop g3 (by omega) (by omega) (by omega)
      rw [List.drop_eq_getElem_cons hj, List.filter_cons] at g4
      conv => whnf
      refine .mk (fun h => ?_) (fun h => ?_)
      rotate_left
      · first | omega | (simp at h; done) | (simp at h; omega)
      conv => whnf
      refine .mk (by omega) ?_
      conv => whnf
      refine row_at (i0 + 1 + m) toN (by omega) ?_
      conv => whnf
      rw [q1]
      refine .mk _ _ (hg _ (List.getElem_mem hj)) ?_
      conv => whnf
      refine .mk (fun h => ?_) (fun h => ?_)
      · conv => whnf
        refine .mk (by omega) ?_
        conv => whnf
        refine row_at i toN (by omega) ?_
        conv => whnf
        rw [if_pos h] at g4
        refine count_next (i + 1, q.set i (l[i0 + 1 + m]'(by omega))) hm (by rw [wrap_succ (n := l.length) (by omega) (by omega), wrap_succ (n := l.length) (by omega) (by omega), toN, List.map_set]; rfl) ⟨by simp [g1], by simp only; omega, ?_, ?_⟩
        · rw [List.drop_set_of_lt (by omega), show i0 + 1 + (m + 1) = i0 + 1 + m + 1 by omega, ← List.drop_drop, g3, List.drop_drop]
        · rw [delf_set (by omega), show i0 + 1 + (m + 1) = i0 + 1 + m + 1 by omega, List.append_assoc]; exact g4
      · conv => whnf
        rw [if_neg (by rw [h]; decide)] at g4
        refine count_next (i, q) hm (by rw [wrap_succ (n := l.length) (by omega) (by omega)]; rfl) ⟨g1, by simp only; omega, ?_, ?_⟩
        · rw [show i0 + 1 + (m + 1) = i0 + 1 + m + 1 by omega, ← List.drop_drop, g3, List.drop_drop]
        · rw [show i0 + 1 + (m + 1) = i0 + 1 + m + 1 by omega]; exact g4
    · intro i q ⟨g1, g2, g3, g4⟩
      have hqm : (q.map encS).length = q.length := List.length_map ..
      rw [List.drop_of_length_le (by omega), List.filter_nil, List.append_nil] at g4
      conv => whnf
      refine .mk (fun h => ?_) (fun h => ?_)
      · first | omega | (simp at h; done) | (simp at h; omega)
      conv => whnf
      refine .mk (by omega) ?_
      conv => whnf
      refine .vw ?_
      conv => whnf
      refine .mk (by rw [overR]; simp; omega) ?_
      conv => whnf
      refine .cut ⟨rfl, ?_⟩
      conv => whnf
      rw [toN]
      have hrow : ∀ z : List V, (overR (q.map encS) (List.replicate ((q.map encS).length - i) z) i).take i = (l.filter fun x => !p x).map encS := by
        intro z
        rw [← g4, List.map_take]; unfold overR
        rw [List.append_assoc, List.take_append_of_le_length (by simp; omega), List.take_take, Nat.min_self]
      rw [hrow]
      exact .mk ⟨rfl, rfl⟩
set_option maxRecDepth 100000 in
set_option maxHeartbeats 4000000 in
theorem fUn1_pc (s : List Sv) (hs : SvOk s) (l : List ByteArray) (hl : l.length ≤ 1000000) (k : ByteArray) (hk : hasSv s k = true) :
    PCp 53 [.c (.str k), .c (.ptr 0 0), .c (.ptr 1 0)] [.box [.lst 1 (l.map encS)], .box [.lst 3 (s.map encSv)]] (.c (.bool (needsB s l k))) [.box [.lst 1 (l.map encS)], .box [.lst 3 (s.map encSv)]] := by
  have hsl := hs.len
  obtain ⟨i, hi, h2, h3⟩ : ∃ i, ∃ hi : i < s.length, svIx s k = ((i : Nat) : Int) ∧ s[i] = svG s k := by
    rcases svIx_or hs.rise k with ⟨h1, _⟩ | ⟨_, i, hi, h2, h3⟩
    · rw [h1] at hk; cases hk
    · exact ⟨i, hi, h2, h3⟩
  have h4 := hs.each _ (List.getElem_mem hi)
  have h5 := h4.len
  refine fn_sound (mt := mts) tab_fits tab_mixed Tryz.func53 (by rfl) (by kernel_rfl) (by kernel_rfl) Tryz.results53 (Nat.le_of_ble_eq_true (by kernel_rfl)) ?_
  conv => whnf
  repeat' (first | ((first | refine Split.mk (fun h => ?_) (fun h => ?_) | refine CondG.mk (fun h => ?_) (fun h => ?_)) <;> (try simp only [decide_eq_true_eq, decide_eq_false_iff_not, Bool.not_eq_true', Bool.not_eq_false', beq_iff_eq, beq_eq_false_iff_ne, bne_iff_ne, bne_eq_false_iff_eq] at h) <;> (first | (exfalso; first | omega | exact h trivial) | (conv => whnf))) | (refine CallX.mk _ _ (by first | exact fFind_pc s hs.rise (by omega) _ | exact fMeets_pc l hl h4.rise (by omega)) ?_; conv => whnf) | (refine CallG.mk _ _ (by first | exact fFind_pc s hs.rise (by omega) _ | exact fMeets_pc l hl h4.rise (by omega)) ?_; conv => whnf) | (refine Ask.mk (by first | omega | (unfold roomOK; simp [cutRows]; done) | (unfold roomOK; simp [cutRows]; omega) | (simp [cutRows]; done) | (simp [cutRows]; omega)) ?_; conv => whnf) | (refine AppG.mk (by first | omega | (unfold roomOK; simp [cutRows]; done) | (unfold roomOK; simp [cutRows]; omega) | (simp [cutRows]; done) | (simp [cutRows]; omega)) ?_; conv => whnf) | (refine SliceG.fr ?_; conv => whnf) | (refine idx_at _ (by with_reducible rfl) (by first | assumption | omega) ?_; conv => whnf) | ((with_reducible refine row_map (by first | assumption | omega) ?_); conv => whnf) | ((with_reducible refine row_set (by first | assumption | omega | (simp only [List.length_set]; omega) | (simp; omega)) ?_); conv => whnf) | ((rw [h2]; refine idx_map i hi rfl ?_); conv => whnf) | fail)
  rw [h3]
  exact .mk ⟨rfl, rfl⟩
theorem nd_len : ∀ {l m : List ByteArray}, l.Nodup → (∀ x ∈ l, x ∈ m) → l.length ≤ m.length
  | [], _, _, _ => Nat.zero_le _
  | a :: r, m, h, hs => by
    rw [List.nodup_cons] at h
    have ha := hs a (by simp)
    have h1 := nd_len (l := r) (m := m.erase a) h.2 (fun x hx => by
      have hne : x ≠ a := fun e => by subst e; exact h.1 hx
      exact (List.mem_erase_of_ne hne).2 (hs x (by simp [hx])))
    have h2 := List.length_erase_of_mem ha
    have h3 := List.length_pos_of_mem ha
    simp only [List.length_cons]; omega
theorem susV_len {s : List Sv} (hs : SvOk s) {down : List ByteArray} (hd : StOkL s down) (up : List ByteArray) : (susV s down up).length ≤ 50000 := by
  have h1 : (susV s down up).Nodup := rise_nd (susV_rise s down up)
  have h2 : (susV s down up).length ≤ (elsOf s down).length := nd_len h1 fun x hx => ((susV_mem s down up x).1 hx).1
  have h3 := elsOf_len hs hd.has
  have := hd.len
  omega
set_option maxRecDepth 100000 in
set_option maxHeartbeats 4000000 in
theorem fUnex_pc (s : List Sv) (hx : ∀ x ∈ s, x.els.length ≤ 1000000) (down up : List ByteArray) : PCp 14 [.c (.lst 3 (s.map encSv)), .c (.lst 1 (down.map encS)), .c (.lst 1 (up.map encS))] [] (.tup [.c (.lst 1 ((if seenErr s down up = 0 then unexV s (susV s down up) down else []).map encS)), .c (.int .i64 (seenErr s down up))]) [] := by
  by_cases h0 : seenErr s down up = 0
  · obtain ⟨hs, hd, hu⟩ := seen_ok h0
    have hdl := hd.len
    have hst := fState_pc s hx down up
    rw [h0] at hst
    rw [if_pos h0, h0]
    refine fn_sound (mt := mts) tab_fits tab_mixed Tryz.func14 (by rfl) (by kernel_rfl) (by kernel_rfl) Tryz.results14 (Nat.le_of_ble_eq_true (by kernel_rfl)) ?_
    conv => whnf
    repeat' (first | ((first | refine Split.mk (fun h => ?_) (fun h => ?_) | refine CondG.mk (fun h => ?_) (fun h => ?_)) <;> (try simp only [decide_eq_true_eq, decide_eq_false_iff_not, Bool.not_eq_true', Bool.not_eq_false', beq_iff_eq, beq_eq_false_iff_ne, bne_iff_ne, bne_eq_false_iff_eq] at h) <;> (first | (exfalso; first | omega | exact h trivial) | (conv => whnf))) | (refine CallX.mk _ _ (by first | exact hst | exact fSuspects_pc s hs down up hd hu | exact cloneS_pc down (by omega) | exact delfU_pc ((susV s down up).map encS) (s.map encSv) 53 (fun k => needsB s (susV s down up) k) down (by omega) (fun k hk => fUn1_pc s hs _ (Nat.le_trans (susV_len hs hd up) (by decide)) k (hd.has k hk))) ?_; conv => whnf) | (refine CallG.mk _ _ (by first | exact hst | exact fSuspects_pc s hs down up hd hu | exact cloneS_pc down (by omega) | exact delfU_pc ((susV s down up).map encS) (s.map encSv) 53 (fun k => needsB s (susV s down up) k) down (by omega) (fun k hk => fUn1_pc s hs _ (Nat.le_trans (susV_len hs hd up) (by decide)) k (hd.has k hk))) ?_; conv => whnf) | (refine Ask.mk (by first | omega | (unfold roomOK; simp [cutRows]; done) | (unfold roomOK; simp [cutRows]; omega) | (simp [cutRows]; done) | (simp [cutRows]; omega)) ?_; conv => whnf) | (refine AppG.mk (by first | omega | (unfold roomOK; simp [cutRows]; done) | (unfold roomOK; simp [cutRows]; omega) | (simp [cutRows]; done) | (simp [cutRows]; omega)) ?_; conv => whnf) | (refine SliceG.fr ?_; conv => whnf) | (refine idx_at _ (by with_reducible rfl) (by first | assumption | omega) ?_; conv => whnf) | ((with_reducible refine row_map (by first | assumption | omega) ?_); conv => whnf) | ((with_reducible refine row_set (by first | assumption | omega | (simp only [List.length_set]; omega) | (simp; omega)) ?_); conv => whnf) | fail)
    refine .frz 0 _ _ _ rfl (.weak [_] (.tup _ _ rfl ?_) rfl (Nat.le_refl _))
    intro i a b ha hb
    match i with
    | 0 => cases ha; cases hb; exact .fro 0 _ _ rfl
    | 1 => cases ha; cases hb; exact .refl _
  · rw [if_neg h0]
    refine fn_sound (mt := mts) tab_fits tab_mixed Tryz.func14 (by rfl) (by kernel_rfl) (by kernel_rfl) Tryz.results14 (Nat.le_of_ble_eq_true (by kernel_rfl)) ?_
    conv => whnf
    repeat' (first | ((first | refine Split.mk (fun h => ?_) (fun h => ?_) | refine CondG.mk (fun h => ?_) (fun h => ?_)) <;> (try simp only [decide_eq_true_eq, decide_eq_false_iff_not, Bool.not_eq_true', Bool.not_eq_false', beq_iff_eq, beq_eq_false_iff_ne, bne_iff_ne, bne_eq_false_iff_eq] at h) <;> (first | (exfalso; first | omega | exact h trivial) | (conv => whnf))) | (refine CallX.mk _ _ (by first | exact fState_pc s hx down up) ?_; conv => whnf) | (refine CallG.mk _ _ (by first | exact fState_pc s hx down up) ?_; conv => whnf) | (refine Ask.mk (by first | omega | (unfold roomOK; simp [cutRows]; done) | (unfold roomOK; simp [cutRows]; omega) | (simp [cutRows]; done) | (simp [cutRows]; omega)) ?_; conv => whnf) | (refine AppG.mk (by first | omega | (unfold roomOK; simp [cutRows]; done) | (unfold roomOK; simp [cutRows]; omega) | (simp [cutRows]; done) | (simp [cutRows]; omega)) ?_; conv => whnf) | (refine SliceG.fr ?_; conv => whnf) | (refine idx_at _ (by with_reducible rfl) (by first | assumption | omega) ?_; conv => whnf) | ((with_reducible refine row_map (by first | assumption | omega) ?_); conv => whnf) | ((with_reducible refine row_set (by first | assumption | omega | (simp only [List.length_set]; omega) | (simp; omega)) ?_); conv => whnf) | fail)
    · refine .weak [] (.tup _ _ rfl ?_) rfl (Nat.le_refl _)
      intro i a b ha hb
      match i with
      | 0 => cases ha; cases hb; exact .nil 1
      | 1 => cases ha; cases hb; exact .refl _
    all_goals (exfalso; rename_i h; simp at h; omega)
set_option maxRecDepth 100000 in
set_option maxHeartbeats 4000000 in
theorem fExpls_pc (s : List Sv) (hx : ∀ x ∈ s, x.els.length ≤ 1000000) (down up : List ByteArray) : PCp 15 [.c (.lst 3 (s.map encSv)), .c (.lst 1 (down.map encS)), .c (.lst 1 (up.map encS))] [] (.tup [.c (.lst 1 ((if seenErr s down up = 0 then explV s (susV s down up) down else []).map encLs)), .c (.int .i64 (if seenErr s down up = 0 then explE s (susV s down up) down else seenErr s down up))]) [] := by
  by_cases h0 : seenErr s down up = 0
  · obtain ⟨hs, hd, hu⟩ := seen_ok h0
    have hst := fState_pc s hx down up
    rw [h0] at hst
    rw [if_pos h0, if_pos h0]
    refine fn_sound (mt := mts) tab_fits tab_mixed Tryz.func15 (by rfl) (by kernel_rfl) (by kernel_rfl) Tryz.results15 (Nat.le_of_ble_eq_true (by kernel_rfl)) ?_
    conv => whnf
    repeat' (first | ((first | refine Split.mk (fun h => ?_) (fun h => ?_) | refine CondG.mk (fun h => ?_) (fun h => ?_)) <;> (try simp only [decide_eq_true_eq, decide_eq_false_iff_not, Bool.not_eq_true', Bool.not_eq_false', beq_iff_eq, beq_eq_false_iff_ne, bne_iff_ne, bne_eq_false_iff_eq] at h) <;> (first | (exfalso; first | omega | exact h trivial) | (conv => whnf))) | (refine CallX.mk _ _ (by first | exact hst | exact fExplain_pc s hs down up hd hu) ?_; conv => whnf) | (refine CallG.mk _ _ (by first | exact hst | exact fExplain_pc s hs down up hd hu) ?_; conv => whnf) | (refine Ask.mk (by first | omega | (unfold roomOK; simp [cutRows]; done) | (unfold roomOK; simp [cutRows]; omega) | (simp [cutRows]; done) | (simp [cutRows]; omega)) ?_; conv => whnf) | (refine AppG.mk (by first | omega | (unfold roomOK; simp [cutRows]; done) | (unfold roomOK; simp [cutRows]; omega) | (simp [cutRows]; done) | (simp [cutRows]; omega)) ?_; conv => whnf) | (refine SliceG.fr ?_; conv => whnf) | (refine idx_at _ (by with_reducible rfl) (by first | assumption | omega) ?_; conv => whnf) | ((with_reducible refine row_map (by first | assumption | omega) ?_); conv => whnf) | ((with_reducible refine row_set (by first | assumption | omega | (simp only [List.length_set]; omega) | (simp; omega)) ?_); conv => whnf) | fail)
    exact .mk ⟨rfl, rfl⟩
  · rw [if_neg h0, if_neg h0]
    refine fn_sound (mt := mts) tab_fits tab_mixed Tryz.func15 (by rfl) (by kernel_rfl) (by kernel_rfl) Tryz.results15 (Nat.le_of_ble_eq_true (by kernel_rfl)) ?_
    conv => whnf
    repeat' (first | ((first | refine Split.mk (fun h => ?_) (fun h => ?_) | refine CondG.mk (fun h => ?_) (fun h => ?_)) <;> (try simp only [decide_eq_true_eq, decide_eq_false_iff_not, Bool.not_eq_true', Bool.not_eq_false', beq_iff_eq, beq_eq_false_iff_ne, bne_iff_ne, bne_eq_false_iff_eq] at h) <;> (first | (exfalso; first | omega | exact h trivial) | (conv => whnf))) | (refine CallX.mk _ _ (by first | exact fState_pc s hx down up) ?_; conv => whnf) | (refine CallG.mk _ _ (by first | exact fState_pc s hx down up) ?_; conv => whnf) | (refine Ask.mk (by first | omega | (unfold roomOK; simp [cutRows]; done) | (unfold roomOK; simp [cutRows]; omega) | (simp [cutRows]; done) | (simp [cutRows]; omega)) ?_; conv => whnf) | (refine AppG.mk (by first | omega | (unfold roomOK; simp [cutRows]; done) | (unfold roomOK; simp [cutRows]; omega) | (simp [cutRows]; done) | (simp [cutRows]; omega)) ?_; conv => whnf) | (refine SliceG.fr ?_; conv => whnf) | (refine idx_at _ (by with_reducible rfl) (by first | assumption | omega) ?_; conv => whnf) | ((with_reducible refine row_map (by first | assumption | omega) ?_); conv => whnf) | ((with_reducible refine row_set (by first | assumption | omega | (simp only [List.length_set]; omega) | (simp; omega)) ?_); conv => whnf) | fail)
    · refine .weak [] (.tup _ _ rfl ?_) rfl (Nat.le_refl _)
      intro i a b ha hb
      match i with
      | 0 => cases ha; cases hb; exact .nil 1
      | 1 => cases ha; cases hb; exact .refl _
    all_goals (exfalso; rename_i h; simp at h; omega)
end Go.Proofs.YtllpjcgadfmipaaGreat

/- Plain: the best sets are there, and they rise. -/
namespace Go.Proofs.YtllpjcgadfmipaaGreat
set_option linter.unusedVariables false
set_option linter.unusedSimpArgs false
open Abs

theorem bestK_keep (ns : List Nat) (k : Nat) (h : bestK ns k ≠ []) : bestK ns (k + 1) ≠ [] := by
  rw [bestK]
  split
  · cases hb : beforeB (bestK ns k) k with
    | nil => simp [withB]
    | cons x r => unfold withB; simp only; split <;> simp
  · exact h
theorem bestK_good (ns : List Nat) (k : Nat) (h : goodM ns k = true) : bestK ns (k + 1) ≠ [] := by
  rw [bestK, if_pos h]
  cases hb : beforeB (bestK ns k) k with
  | nil => simp [withB]
  | cons x r => unfold withB; simp only; split <;> simp
theorem bestL_some (s : List Sv) (l down : List ByteArray) : bestL s l down ≠ [] := by
  have h2 := Nat.two_pow_pos l.length
  obtain ⟨n, hn⟩ : ∃ n, 2 ^ l.length = n + 1 := ⟨2 ^ l.length - 1, by omega⟩
  unfold bestL
  rw [hn]
  refine bestK_good _ _ ?_
  unfold goodM
  rw [Bool.not_eq_true', List.any_eq_false]
  intro x hx
  obtain ⟨hx1, hx2⟩ := List.mem_filter.1 hx
  obtain ⟨k, _, rfl⟩ := List.mem_map.1 hx1
  have hlt : needO s l k < 2 ^ l.length := bitN_lt _ l l.length
  have h0 : needO s l k ≠ 0 := by simpa using hx2
  have hm : n = 2 ^ l.length - 1 := by omega
  rw [hm, Nat.and_two_pow_sub_one_eq_mod, Nat.mod_eq_of_lt hlt]
  simpa using h0
theorem setL_sub (l : List ByteArray) (m : Nat) : ∀ k, k ≤ l.length → (setL l m k).Sublist (l.take k)
  | 0, _ => by simp [setL]
  | k + 1, h => by
    have ih := setL_sub l m k (by omega)
    have hg : l.getD k ⟨#[]⟩ = l[k] := by simp [List.getD_eq_getElem?_getD, List.getElem?_eq_getElem (by omega : k < l.length)]
    rw [setL, List.take_succ_eq_append_getElem (by omega : k < l.length), hg]
    split
    · exact ih.append (List.Sublist.refl _)
    · exact ih.trans (List.sublist_append_left ..)
theorem pickM_rise {l : List ByteArray} (h : Rise id l) (m : Nat) : Rise id (pickM l m) := by
  have h1 := setL_sub l m l.length (Nat.le_refl _)
  rw [List.take_length] at h1
  exact List.Pairwise.sublist h1 h
theorem pickM_len (l : List ByteArray) (m : Nat) : (pickM l m).length ≤ l.length := setL_len l m l.length
theorem setL_mem (l : List ByteArray) (m : Nat) : ∀ k, k ≤ l.length → ∀ x, x ∈ setL l m k ↔ ∃ i, ∃ h : i < l.length, i < k ∧ m.testBit i = true ∧ l[i] = x
  | 0, _, x => by simp [setL]
  | k + 1, h, x => by
    have ih := setL_mem l m k (by omega) x
    have hg : l.getD k ⟨#[]⟩ = l[k] := by simp [List.getD_eq_getElem?_getD, List.getElem?_eq_getElem (by omega : k < l.length)]
    rw [setL, hg]
    constructor
    · intro hx
      split at hx
      · rename_i hb
        rcases List.mem_append.1 hx with h1 | h1
        · obtain ⟨i, hi, h3, h4, h5⟩ := ih.1 h1; exact ⟨i, hi, by omega, h4, h5⟩
        · rw [List.mem_singleton] at h1; exact ⟨k, by omega, by omega, hb, h1.symm⟩
      · obtain ⟨i, hi, h3, h4, h5⟩ := ih.1 hx; exact ⟨i, hi, by omega, h4, h5⟩
    · rintro ⟨i, hi, h3, h4, h5⟩
      by_cases e : i = k
      · subst e; rw [if_pos h4]; exact List.mem_append.2 (.inr (by simp [h5]))
      · have := ih.2 ⟨i, hi, by omega, h4, h5⟩
        split
        · exact List.mem_append.2 (.inl this)
        · exact this
end Go.Proofs.YtllpjcgadfmipaaGreat

/- What is in all sets, by the program. -/
namespace Go.Proofs.YtllpjcgadfmipaaGreat
set_option linter.unusedVariables false
set_option linter.unusedSimpArgs false
open Abs

set_option maxRecDepth 100000 in
set_option maxHeartbeats 4000000 in
theorem ixSS_pc (sx : ByteArray) (g : Nat) (p : (List ByteArray) → Bool) (l : List (List ByteArray)) (hl : l.length ≤ 1000000) (hg : ∀ x ∈ l, PCp g [.c (.lst 1 (x.map encS)), .c (.ptr 0 0)] [.box [.str sx]] (.c (.bool (p x))) [.box [.str sx]]) : PCp 116 [.c (.lst 1 (l.map encLs)), .c (.fn g [.ptr 0 0])] [.box [.str sx]] (.c (.int .i64 (idxP p l))) [.box [.str sx]] := by
  have hlm : (l.map encLs).length = l.length := List.length_map ..
  refine fn_sound (mt := mts) tab_fits tab_mixed Tryz.func116 (by rfl) (by kernel_rfl) (by kernel_rfl) Tryz.results116 (Nat.le_of_ble_eq_true (by kernel_rfl)) ?_
  conv => whnf
  refine loop_count (l.length) [] [0, 1, 7, 8] (fun k (_ : Unit) => ⟨[(0, .c (.lst 1 (l.map encLs))), (1, .c (.fn g [.ptr 0 0])), (7, .c (.int .i64 (l.map encLs).length)), (8, .c (.int .i64 k))], [(0, .box [.str sx])], 1⟩) (fun k (_ : Unit) => ∀ i (hi : i < l.length), i < k → p l[i] = false) (()) ?_ ?_ ?_
  · conv => whnf
    exact ⟨rfl, by intro i hi h; omega⟩
  · intro k _ hk hi
    conv => whnf
    repeat' (first | ((first | refine Split.mk (fun h => ?_) (fun h => ?_) | refine CondG.mk (fun h => ?_) (fun h => ?_)) <;> (try simp only [decide_eq_true_eq, decide_eq_false_iff_not, Bool.not_eq_true', Bool.not_eq_false', beq_iff_eq, beq_eq_false_iff_ne, bne_iff_ne, bne_eq_false_iff_eq] at h) <;> (first | (exfalso; first | omega | exact h trivial) | (conv => whnf))) | (refine CallX.mk _ _ (by first | exact hg l[k] (List.getElem_mem hk)) ?_; conv => whnf) | (refine CallG.mk _ _ (by first | exact hg l[k] (List.getElem_mem hk)) ?_; conv => whnf) | (refine Ask.mk (by first | omega | (unfold roomOK; simp [cutRows]; done) | (unfold roomOK; simp [cutRows]; omega) | (simp [cutRows]; done) | (simp [cutRows]; omega)) ?_; conv => whnf) | (refine AppG.mk (by first | omega | (unfold roomOK; simp [cutRows]; done) | (unfold roomOK; simp [cutRows]; omega) | (simp [cutRows]; done) | (simp [cutRows]; omega)) ?_; conv => whnf) | (refine SliceG.fr ?_; conv => whnf) | (refine idx_at _ (by with_reducible rfl) (by first | assumption | omega) ?_; conv => whnf) | ((with_reducible refine row_map (by first | assumption | omega) ?_); conv => whnf) | ((with_reducible refine row_set (by first | assumption | omega | (simp only [List.length_set]; omega) | (simp; omega)) ?_); conv => whnf) | fail)
    · exact .mk ⟨by rw [idxP_hit hk (fun i hi' => hi i (by omega) hi') h]; rfl, rfl⟩
    · refine count_next () hk (by rw [wrap_succ hk (by omega)]; rfl) ?_
      exact all_succ' hi h
  · intro _ hi
    conv => whnf
    repeat' (first | ((first | refine Split.mk (fun h => ?_) (fun h => ?_) | refine CondG.mk (fun h => ?_) (fun h => ?_)) <;> (try simp only [decide_eq_true_eq, decide_eq_false_iff_not, Bool.not_eq_true', Bool.not_eq_false', beq_iff_eq, beq_eq_false_iff_ne] at h) <;> (first | (exfalso; first | omega | exact h trivial) | (conv => whnf))) | (refine Ask.mk (by first | omega | (unfold roomOK; simp [cutRows]; done) | (unfold roomOK; simp [cutRows]; omega)) ?_; conv => whnf) | (refine AppG.mk (by first | omega | (unfold roomOK; simp [cutRows]; done) | (unfold roomOK; simp [cutRows]; omega)) ?_; conv => whnf) | (refine SliceG.fr ?_; conv => whnf) | fail)
    exact .mk ⟨by rw [idxP_miss (fun i h => hi i h h)]; rfl, rfl⟩
set_option maxRecDepth 100000 in
set_option maxHeartbeats 4000000 in
theorem ixSSC_pc (sx : ByteArray) (g : Nat) (p : (List ByteArray) → Bool) (l : List (List ByteArray)) (hl : l.length ≤ 1000000) (hg : ∀ x ∈ l, PCp g [.c (.lst 1 (x.map encS)), .c (.ptr 0 0)] [.box [.str sx]] (.c (.bool (p x))) [.box [.str sx]]) : PCp 63 [.c (.lst 1 (l.map encLs)), .c (.fn g [.ptr 0 0])] [.box [.str sx]] (.c (.bool (l.any p))) [.box [.str sx]] := by
  refine fn_sound (mt := mts) tab_fits tab_mixed Tryz.func63 (by rfl) (by kernel_rfl) (by kernel_rfl) Tryz.results63 (Nat.le_of_ble_eq_true (by kernel_rfl)) ?_
  conv => whnf
  repeat' (first | ((first | refine Split.mk (fun h => ?_) (fun h => ?_) | refine CondG.mk (fun h => ?_) (fun h => ?_)) <;> (try simp only [decide_eq_true_eq, decide_eq_false_iff_not, Bool.not_eq_true', Bool.not_eq_false', beq_iff_eq, beq_eq_false_iff_ne] at h) <;> (first | (exfalso; first | omega | exact h trivial) | (conv => whnf))) | (refine CallX.mk _ _ (by first | exact ixSS_pc sx g p l hl hg) ?_; conv => whnf) | (refine CallG.mk _ _ (by first | exact ixSS_pc sx g p l hl hg) ?_; conv => whnf) | (refine Ask.mk (by first | omega | (unfold roomOK; simp [cutRows]; done) | (unfold roomOK; simp [cutRows]; omega)) ?_; conv => whnf) | (refine AppG.mk (by first | omega | (unfold roomOK; simp [cutRows]; done) | (unfold roomOK; simp [cutRows]; omega)) ?_; conv => whnf) | (refine SliceG.fr ?_; conv => whnf) | fail)
  exact .mk ⟨by rw [← idxP_any]; rfl, rfl⟩
set_option maxRecDepth 100000 in
set_option maxHeartbeats 4000000 in
theorem ixS1_pc (xs : List (List V)) (g : Nat) (p : ByteArray → Bool) (l : List ByteArray) (hl : l.length ≤ 1000000) (hg : ∀ x ∈ l, PCp g [.c (.str x), .c (.ptr 0 0)] [.box [.lst 1 xs]] (.c (.bool (p x))) [.box [.lst 1 xs]]) : PCp 68 [.c (.row 0), .c (.fn g [.ptr 1 0])] [.row 9 1 (l.map encS), .box [.lst 1 xs]] (.c (.int .i64 (idxP p l))) [.row 9 1 (l.map encS), .box [.lst 1 xs]] := by
  have hlm : (l.map encS).length = l.length := List.length_map ..
  refine fn_sound (mt := mts) tab_fits tab_mixed Tryz.func68 (by rfl) (by kernel_rfl) (by kernel_rfl) Tryz.results68 (Nat.le_of_ble_eq_true (by kernel_rfl)) ?_
  conv => whnf
  refine loop_for (l.length) [] [0, 1, 7, 8] (fun k (_ : Unit) => [(8, .c (.int .i64 (k : Int)))]) (fun k (_ : Unit) => []) (fun k (_ : Unit) => ∀ i (hi : i < l.length), i < k → p l[i] = false) (()) ?_
  conv => whnf
  refine ⟨(by first | rfl | (simp; done) | (simp; rfl)), ?_, ?_, ?_⟩
  · intro i hi h; omega
  · intro k _ hk hi
    conv => whnf
    repeat' (first | ((first | refine Split.mk (fun h => ?_) (fun h => ?_) | refine CondG.mk (fun h => ?_) (fun h => ?_)) <;> (try simp only [decide_eq_true_eq, decide_eq_false_iff_not, Bool.not_eq_true', Bool.not_eq_false', beq_iff_eq, beq_eq_false_iff_ne, bne_iff_ne, bne_eq_false_iff_eq] at h) <;> (first | (exfalso; first | omega | exact h trivial) | (conv => whnf))) | (refine CallX.mk _ _ (by first | exact hg l[k] (List.getElem_mem hk)) ?_; conv => whnf) | (refine CallG.mk _ _ (by first | exact hg l[k] (List.getElem_mem hk)) ?_; conv => whnf) | (refine Ask.mk (by first | omega | (unfold roomOK; simp [cutRows]; done) | (unfold roomOK; simp [cutRows]; omega) | (simp [cutRows]; done) | (simp [cutRows]; omega)) ?_; conv => whnf) | (refine AppG.mk (by first | omega | (unfold roomOK; simp [cutRows]; done) | (unfold roomOK; simp [cutRows]; omega) | (simp [cutRows]; done) | (simp [cutRows]; omega)) ?_; conv => whnf) | (refine SliceG.fr ?_; conv => whnf) | (refine idx_at _ (by with_reducible rfl) (by first | assumption | omega) ?_; conv => whnf) | ((with_reducible refine row_map (by first | assumption | omega) ?_); conv => whnf) | ((with_reducible refine row_set (by first | assumption | omega | (simp only [List.length_set]; omega) | (simp; omega)) ?_); conv => whnf) | fail)
    · exact .mk ⟨by rw [idxP_hit hk (fun i hi' => hi i (by omega) hi') h]; rfl, rfl⟩
    · refine count_next () hk (by rw [wrap_succ hk (by omega)]; rfl) ?_
      exact all_succ' hi h
  · intro _ hi
    conv => whnf
    repeat' (first | ((first | refine Split.mk (fun h => ?_) (fun h => ?_) | refine CondG.mk (fun h => ?_) (fun h => ?_)) <;> (try simp only [decide_eq_true_eq, decide_eq_false_iff_not, Bool.not_eq_true', Bool.not_eq_false', beq_iff_eq, beq_eq_false_iff_ne] at h) <;> (first | (exfalso; first | omega | exact h trivial) | (conv => whnf))) | (refine Ask.mk (by first | omega | (unfold roomOK; simp [cutRows]; done) | (unfold roomOK; simp [cutRows]; omega)) ?_; conv => whnf) | (refine AppG.mk (by first | omega | (unfold roomOK; simp [cutRows]; done) | (unfold roomOK; simp [cutRows]; omega)) ?_; conv => whnf) | (refine SliceG.fr ?_; conv => whnf) | fail)
    exact .mk ⟨by rw [idxP_miss (fun i h => hi i h h)]; rfl, rfl⟩
set_option maxRecDepth 100000 in
set_option maxHeartbeats 4000000 in
theorem delfS1_pc (xs : List (List V)) (g : Nat) (p : ByteArray → Bool) (l : List ByteArray) (hl : l.length ≤ 1000000) (hg : ∀ x ∈ l, PCp g [.c (.str x), .c (.ptr 0 0)] [.box [.lst 1 xs]] (.c (.bool (p x))) [.box [.lst 1 xs]]) : PCp 51 [.c (.row 0), .c (.fn g [.ptr 1 0])] [.row 9 1 (l.map encS), .box [.lst 1 xs]] (.c (.row 2)) [.dead, .box [.lst 1 xs], .row 9 1 ((l.filter fun x => !p x).map encS)] := by
  have hlm : (l.map encS).length = l.length := List.length_map ..
  rcases idxP_or p l with ⟨hix, hno⟩ | ⟨i0, h0, hix, hp, hbef⟩
  · have hf : l.filter (fun x => !p x) = l := List.filter_eq_self.2 (fun x hx => by simp [hno x hx])
    refine fn_sound (mt := mts) tab_fits tab_mixed Tryz.func51 (by rfl) (by kernel_rfl) (by kernel_rfl) Tryz.results51 (Nat.le_of_ble_eq_true (by kernel_rfl)) ?_
    conv => whnf
    repeat' (first | ((first | refine Split.mk (fun h => ?_) (fun h => ?_) | refine CondG.mk (fun h => ?_) (fun h => ?_)) <;> (try simp only [decide_eq_true_eq, decide_eq_false_iff_not, Bool.not_eq_true', Bool.not_eq_false', beq_iff_eq, beq_eq_false_iff_ne] at h) <;> (first | (exfalso; first | omega | exact h trivial) | (conv => whnf))) | (refine CallX.mk _ _ (by first | exact ixS1_pc xs g p l hl hg) ?_; conv => whnf) | (refine CallG.mk _ _ (by first | exact ixS1_pc xs g p l hl hg) ?_; conv => whnf) | (refine Ask.mk (by first | omega | (unfold roomOK; simp [cutRows]; done) | (unfold roomOK; simp [cutRows]; omega)) ?_; conv => whnf) | (refine AppG.mk (by first | omega | (unfold roomOK; simp [cutRows]; done) | (unfold roomOK; simp [cutRows]; omega)) ?_; conv => whnf) | (refine SliceG.fr ?_; conv => whnf) | fail)
    · refine .cutv 0 _ _ l.length _ (.inr ⟨rfl, hlm.symm⟩) rfl (by omega) (.mk ⟨rfl, ?_⟩)
      rw [hf, show List.take l.length (l.map encS) = l.map encS from List.take_of_length_le (by omega)]; rfl
  · refine fn_sound (mt := mts) tab_fits tab_mixed Tryz.func51 (by rfl) (by kernel_rfl) (by kernel_rfl) Tryz.results51 (Nat.le_of_ble_eq_true (by kernel_rfl)) ?_
    conv => whnf
    refine .mk _ _ (ixS1_pc xs g p l hl hg) ?_
    rw [hix]
    conv => whnf
    refine .mk (fun h => ?_) (fun h => ?_)
    · first | omega | (simp at h; done) | (simp at h; omega)
    conv => whnf
    rw [wrap_succ h0 (by omega)]
    refine loop_for2 (l.length - (i0 + 1)) [] [0, 1, 5, 6] (fun m (i : Nat) (q : List ByteArray) => [(5, .c (.int .i64 ((i : Nat) : Int))), (6, .c (.int .i64 ((i0 + 1 + m : Nat) : Int)))]) (fun m (i : Nat) (q : List ByteArray) => [(0, .row 9 1 (q.map encS))]) (fun m (i : Nat) (q : List ByteArray) => q.length = l.length ∧ i < i0 + 1 + m ∧ q.drop (i0 + 1 + m) = l.drop (i0 + 1 + m) ∧ q.take i ++ (l.drop (i0 + 1 + m)).filter (fun x => !p x) = l.filter (fun x => !p x)) (i0) (l) ?_
    conv => whnf
    refine ⟨(by first | rfl | (simp; done) | (simp; rfl)), ?_, ?_, ?_⟩
    · exact ⟨rfl, by omega, rfl, delf_start h0 hp hbef⟩
    · intro m i q hm ⟨g1, g2, g3, g4⟩
      have hqm : (q.map encS).length = q.length := List.length_map ..
      have hj : i0 + 1 + m < l.length := by omega
      have q1 : q[i0 + 1 + m]'(by omega) = l[i0 + 1 + m] := getElem_of_drop g3 (by omega) (by omega) (by omega)
      rw [List.drop_eq_getElem_cons hj, List.filter_cons] at g4
      conv => whnf
      refine .mk (fun h => ?_) (fun h => ?_)
      rotate_left
      · first | omega | (simp at h; done) | (simp at h; omega)
      conv => whnf
      refine .mk (by omega) ?_
      conv => whnf
      refine row_at (i0 + 1 + m) toN (by omega) ?_
      conv => whnf
      rw [q1]
      refine .mk _ _ (hg _ (List.getElem_mem hj)) ?_
      conv => whnf
      refine .mk (fun h => ?_) (fun h => ?_)
      · conv => whnf
        refine .mk (by omega) ?_
        conv => whnf
        refine row_at i toN (by omega) ?_
        conv => whnf
        rw [if_pos h] at g4
        refine count_next (i + 1, q.set i (l[i0 + 1 + m]'(by omega))) hm (by rw [wrap_succ (n := l.length) (by omega) (by omega), wrap_succ (n := l.length) (by omega) (by omega), toN, List.map_set]; rfl) ⟨by simp [g1], by simp only; omega, ?_, ?_⟩
        · rw [List.drop_set_of_lt (by omega), show i0 + 1 + (m + 1) = i0 + 1 + m + 1 by omega, ← List.drop_drop, g3, List.drop_drop]
        · rw [delf_set (by omega), show i0 + 1 + (m + 1) = i0 + 1 + m + 1 by omega, List.append_assoc]; exact g4
      · conv => whnf
        rw [if_neg (by rw [h]; decide)] at g4
        refine count_next (i, q) hm (by rw [wrap_succ (n := l.length) (by omega) (by omega)]; rfl) ⟨g1, by simp only; omega, ?_, ?_⟩
        · rw [show i0 + 1 + (m + 1) = i0 + 1 + m + 1 by omega, ← List.drop_drop, g3, List.drop_drop]
        · rw [show i0 + 1 + (m + 1) = i0 + 1 + m + 1 by omega]; exact g4
    · intro i q ⟨g1, g2, g3, g4⟩
      have hqm : (q.map encS).length = q.length := List.length_map ..
      rw [List.drop_of_length_le (by omega), List.filter_nil, List.append_nil] at g4
      conv => whnf
      refine .mk (fun h => ?_) (fun h => ?_)
      · first | omega | (simp at h; done) | (simp at h; omega)
      conv => whnf
      refine .mk (by omega) ?_
      conv => whnf
      refine .vw ?_
      conv => whnf
      refine .mk (by rw [overR]; simp; omega) ?_
      conv => whnf
      refine .cut ⟨rfl, ?_⟩
      conv => whnf
      rw [toN]
      have hrow : ∀ z : List V, (overR (q.map encS) (List.replicate ((q.map encS).length - i) z) i).take i = (l.filter fun x => !p x).map encS := by
        intro z
        rw [← g4, List.map_take]; unfold overR
        rw [List.append_assoc, List.take_append_of_le_length (by simp; omega), List.take_take, Nat.min_self]
      rw [hrow]
      exact .mk ⟨rfl, rfl⟩
set_option maxRecDepth 100000 in
set_option maxHeartbeats 4000000 in
theorem fSure11_pc {q : List ByteArray} (h : Rise id q) (hl : q.length ≤ 1000000) (x : ByteArray) : PCp 64 [.c (.lst 1 (q.map encS)), .c (.ptr 0 0)] [.box [.str x]] (.c (.bool (!decide (x ∈ q)))) [.box [.str x]] := by
  refine fn_sound (mt := mts) tab_fits tab_mixed Tryz.func64 (by rfl) (by kernel_rfl) (by kernel_rfl) Tryz.results64 (Nat.le_of_ble_eq_true (by kernel_rfl)) ?_
  conv => whnf
  repeat' (first | ((first | refine Split.mk (fun h => ?_) (fun h => ?_) | refine CondG.mk (fun h => ?_) (fun h => ?_)) <;> (try simp only [decide_eq_true_eq, decide_eq_false_iff_not, Bool.not_eq_true', Bool.not_eq_false', beq_iff_eq, beq_eq_false_iff_ne, bne_iff_ne, bne_eq_false_iff_eq] at h) <;> (first | (exfalso; first | omega | exact h trivial) | (conv => whnf))) | (refine CallX.mk _ _ (by first | exact fHas_pc h hl x) ?_; conv => whnf) | (refine CallG.mk _ _ (by first | exact fHas_pc h hl x) ?_; conv => whnf) | (refine Ask.mk (by first | omega | (unfold roomOK; simp [cutRows]; done) | (unfold roomOK; simp [cutRows]; omega) | (simp [cutRows]; done) | (simp [cutRows]; omega)) ?_; conv => whnf) | (refine AppG.mk (by first | omega | (unfold roomOK; simp [cutRows]; done) | (unfold roomOK; simp [cutRows]; omega) | (simp [cutRows]; done) | (simp [cutRows]; omega)) ?_; conv => whnf) | (refine SliceG.fr ?_; conv => whnf) | (refine idx_at _ (by with_reducible rfl) (by first | assumption | omega) ?_; conv => whnf) | ((with_reducible refine row_map (by first | assumption | omega) ?_); conv => whnf) | ((with_reducible refine row_set (by first | assumption | omega | (simp only [List.length_set]; omega) | (simp; omega)) ?_); conv => whnf) | fail)
  exact .mk ⟨rfl, rfl⟩
set_option maxRecDepth 100000 in
set_option maxHeartbeats 4000000 in
theorem fSure1_pc (L : List (List ByteArray)) (hL : L.length ≤ 1000000) (hr : ∀ q ∈ L, Rise id q ∧ q.length ≤ 1000000) (x : ByteArray) : PCp 62 [.c (.str x), .c (.ptr 0 0)] [.box [.lst 1 (L.map encLs)]] (.c (.bool (L.any fun q => !decide (x ∈ q)))) [.box [.lst 1 (L.map encLs)]] := by
  refine fn_sound (mt := mts) tab_fits tab_mixed Tryz.func62 (by rfl) (by kernel_rfl) (by kernel_rfl) Tryz.results62 (Nat.le_of_ble_eq_true (by kernel_rfl)) ?_
  conv => whnf
  repeat' (first | ((first | refine Split.mk (fun h => ?_) (fun h => ?_) | refine CondG.mk (fun h => ?_) (fun h => ?_)) <;> (try simp only [decide_eq_true_eq, decide_eq_false_iff_not, Bool.not_eq_true', Bool.not_eq_false', beq_iff_eq, beq_eq_false_iff_ne, bne_iff_ne, bne_eq_false_iff_eq] at h) <;> (first | (exfalso; first | omega | exact h trivial) | (conv => whnf))) | (refine CallX.mk _ _ (by first | exact ixSSC_pc x 64 (fun q => !decide (x ∈ q)) L hL (fun q hq => fSure11_pc (hr q hq).1 (hr q hq).2 x)) ?_; conv => whnf) | (refine CallG.mk _ _ (by first | exact ixSSC_pc x 64 (fun q => !decide (x ∈ q)) L hL (fun q hq => fSure11_pc (hr q hq).1 (hr q hq).2 x)) ?_; conv => whnf) | (refine Ask.mk (by first | omega | (unfold roomOK; simp [cutRows]; done) | (unfold roomOK; simp [cutRows]; omega) | (simp [cutRows]; done) | (simp [cutRows]; omega)) ?_; conv => whnf) | (refine AppG.mk (by first | omega | (unfold roomOK; simp [cutRows]; done) | (unfold roomOK; simp [cutRows]; omega) | (simp [cutRows]; done) | (simp [cutRows]; omega)) ?_; conv => whnf) | (refine SliceG.fr ?_; conv => whnf) | (refine idx_at _ (by with_reducible rfl) (by first | assumption | omega) ?_; conv => whnf) | ((with_reducible refine row_map (by first | assumption | omega) ?_); conv => whnf) | ((with_reducible refine row_set (by first | assumption | omega | (simp only [List.length_set]; omega) | (simp; omega)) ?_); conv => whnf) | fail)
  exact .mk ⟨rfl, rfl⟩
def sureV (L : List (List ByteArray)) : List ByteArray := (L.headD []).filter fun x => !(L.any fun q => !decide (x ∈ q))
theorem explV_ok {s : List Sv} {l down : List ByteArray} (hl : Rise id l) (h0 : explE s l down = 0) : explV s l down ≠ [] ∧ (explV s l down).length ≤ 1000 ∧ l.length ≤ 14 ∧ ∀ q ∈ explV s l down, Rise id q ∧ q.length ≤ 1000000 := by
  have h14 : l.length ≤ 14 := by
    unfold explE at h0
    split at h0 <;> omega
  have hb : (bestL s l down).length ≤ 1000 := by
    unfold explE at h0
    rw [if_neg (by omega)] at h0
    split at h0 <;> omega
  have hlt : ∀ m ∈ bestL s l down, m < 16384 := by
    intro m hm
    have := (bestK_lt (needL s l down) (2 ^ l.length)).1 m hm
    have := pow14 h14
    omega
  have hsl := sortM_len hlt
  unfold explV
  rw [if_pos h0]
  refine ⟨?_, by rw [List.length_map]; omega, h14, ?_⟩
  · intro e
    have h1 : (sortM (bestL s l down)).length = 0 := by
      have := congrArg List.length e
      simpa using this
    exact bestL_some s l down (List.eq_nil_of_length_eq_zero (by omega))
  · intro q hq
    obtain ⟨m, _, rfl⟩ := List.mem_map.1 hq
    have := pickM_len l m
    exact ⟨pickM_rise hl m, by omega⟩
set_option maxRecDepth 100000 in
set_option maxHeartbeats 4000000 in
theorem fSure_pc (s : List Sv) (hx : ∀ x ∈ s, x.els.length ≤ 1000000) (down up : List ByteArray) (e : Int) (L : List (List ByteArray))
    (he : e = if seenErr s down up = 0 then explE s (susV s down up) down else seenErr s down up) (hL : L = if seenErr s down up = 0 then explV s (susV s down up) down else []) :
    PCp 21 [.c (.lst 3 (s.map encSv)), .c (.lst 1 (down.map encS)), .c (.lst 1 (up.map encS))] [] (.tup [.c (.lst 1 ((if e = 0 then sureV L else []).map encS)), .c (.int .i64 e)]) [] := by
  have hp := fExpls_pc s hx down up
  rw [← he, ← hL] at hp
  by_cases h0 : e = 0
  · have hs0 : seenErr s down up = 0 := by
      by_cases q : seenErr s down up = 0
      · exact q
      · rw [if_neg q] at he; omega
    rw [if_pos hs0] at he hL
    obtain ⟨k1, k2, _, k4⟩ := explV_ok (susV_rise s down up) (by omega : explE s (susV s down up) down = 0)
    rw [← hL] at k1 k2 k4
    subst h0
    rw [if_pos rfl]
    clear hL he
    rcases L with _ | ⟨q, r⟩
    · exact (k1 rfl).elim
    have hq := k4 q (by simp)
    refine fn_sound (mt := mts) tab_fits tab_mixed Tryz.func21 (by rfl) (by kernel_rfl) (by kernel_rfl) Tryz.results21 (Nat.le_of_ble_eq_true (by kernel_rfl)) ?_
    conv => whnf
    repeat' (first | ((first | refine Split.mk (fun h => ?_) (fun h => ?_) | refine CondG.mk (fun h => ?_) (fun h => ?_)) <;> (try simp only [decide_eq_true_eq, decide_eq_false_iff_not, Bool.not_eq_true', Bool.not_eq_false', beq_iff_eq, beq_eq_false_iff_ne, bne_iff_ne, bne_eq_false_iff_eq] at h) <;> (first | (exfalso; first | omega | exact h trivial) | (conv => whnf))) | (refine CallX.mk _ _ (by first | exact hp | exact cloneS_pc q hq.2 | exact delfS1_pc ((q :: r).map encLs) 62 (fun x => (q :: r).any fun z => !decide (x ∈ z)) q hq.2 (fun x _ => fSure1_pc (q :: r) (by omega) k4 x)) ?_; conv => whnf) | (refine CallG.mk _ _ (by first | exact hp | exact cloneS_pc q hq.2 | exact delfS1_pc ((q :: r).map encLs) 62 (fun x => (q :: r).any fun z => !decide (x ∈ z)) q hq.2 (fun x _ => fSure1_pc (q :: r) (by omega) k4 x)) ?_; conv => whnf) | (refine Ask.mk (by first | omega | (unfold roomOK; simp [cutRows]; done) | (unfold roomOK; simp [cutRows]; omega) | (simp [cutRows]; done) | (simp [cutRows]; omega)) ?_; conv => whnf) | (refine AppG.mk (by first | omega | (unfold roomOK; simp [cutRows]; done) | (unfold roomOK; simp [cutRows]; omega) | (simp [cutRows]; done) | (simp [cutRows]; omega)) ?_; conv => whnf) | (refine SliceG.fr ?_; conv => whnf) | (refine idx_at _ (by with_reducible rfl) (by first | assumption | omega) ?_; conv => whnf) | ((with_reducible refine row_map (by first | assumption | omega) ?_); conv => whnf) | ((with_reducible refine row_set (by first | assumption | omega | (simp only [List.length_set]; omega) | (simp; omega)) ?_); conv => whnf) | ((refine idx_map 0 (by simp) rfl ?_); conv => whnf) | fail)
    refine .frz 0 _ _ _ rfl (.weak [_] (.tup _ _ rfl ?_) rfl (Nat.le_refl _))
    intro i a b ha hb
    match i with
    | 0 => cases ha; cases hb; exact .fro 0 _ _ rfl
    | 1 => cases ha; cases hb; exact .refl _
  · rw [if_neg h0]
    refine fn_sound (mt := mts) tab_fits tab_mixed Tryz.func21 (by rfl) (by kernel_rfl) (by kernel_rfl) Tryz.results21 (Nat.le_of_ble_eq_true (by kernel_rfl)) ?_
    conv => whnf
    repeat' (first | ((first | refine Split.mk (fun h => ?_) (fun h => ?_) | refine CondG.mk (fun h => ?_) (fun h => ?_)) <;> (try simp only [decide_eq_true_eq, decide_eq_false_iff_not, Bool.not_eq_true', Bool.not_eq_false', beq_iff_eq, beq_eq_false_iff_ne, bne_iff_ne, bne_eq_false_iff_eq] at h) <;> (first | (exfalso; first | omega | exact h trivial) | (conv => whnf))) | (refine CallX.mk _ _ (by first | exact hp) ?_; conv => whnf) | (refine CallG.mk _ _ (by first | exact hp) ?_; conv => whnf) | (refine Ask.mk (by first | omega | (unfold roomOK; simp [cutRows]; done) | (unfold roomOK; simp [cutRows]; omega) | (simp [cutRows]; done) | (simp [cutRows]; omega)) ?_; conv => whnf) | (refine AppG.mk (by first | omega | (unfold roomOK; simp [cutRows]; done) | (unfold roomOK; simp [cutRows]; omega) | (simp [cutRows]; done) | (simp [cutRows]; omega)) ?_; conv => whnf) | (refine SliceG.fr ?_; conv => whnf) | (refine idx_at _ (by with_reducible rfl) (by first | assumption | omega) ?_; conv => whnf) | ((with_reducible refine row_map (by first | assumption | omega) ?_); conv => whnf) | ((with_reducible refine row_set (by first | assumption | omega | (simp only [List.length_set]; omega) | (simp; omega)) ?_); conv => whnf) | fail)
    · refine .weak [] (.tup _ _ rfl ?_) rfl (Nat.le_refl _)
      intro i a b ha hb
      match i with
      | 0 => cases ha; cases hb; exact .nil 1
      | 1 => cases ha; cases hb; exact .refl _
    all_goals (exfalso; omega)
end Go.Proofs.YtllpjcgadfmipaaGreat

/- What to ask, by the program. -/
namespace Go.Proofs.YtllpjcgadfmipaaGreat
set_option linter.unusedVariables false
set_option linter.unusedSimpArgs false
open Abs

def hitN (L : List (List ByteArray)) (x : Sv) : Nat := (L.filter fun q => q.any fun z => decide (z ∈ x.els)).length
theorem hitN_succ (L : List (List ByteArray)) (x : Sv) {j : Nat} (h : j < L.length) : hitN (L.take (j + 1)) x = hitN (L.take j) x + if (L[j].any fun z => decide (z ∈ x.els)) then 1 else 0 := by
  unfold hitN
  rw [List.take_succ_eq_append_getElem h, List.filter_append, List.length_append, List.filter_cons, List.filter_nil]
  split <;> simp
theorem hitN_le (L : List (List ByteArray)) (x : Sv) : hitN L x ≤ L.length := List.length_filter_le ..
def worstN (L : List (List ByteArray)) (x : Sv) : Nat := max (hitN L x) (L.length - hitN L x)
theorem worst_if {L : List (List ByteArray)} (h : L.length ≤ 1000) (x : Sv) : (if ((hitN L x : Nat) : Int) < IntKind.i64.wrap (((L.map encLs).length : Int) - ((hitN L x : Nat) : Int)) then IntKind.i64.wrap (((L.map encLs).length : Int) - ((hitN L x : Nat) : Int)) else ((hitN L x : Nat) : Int)) = ((worstN L x : Nat) : Int) := by
  have hn := hitN_le L x
  have hwI : IntKind.i64.wrap ((L.length : Int) - (hitN L x : Int)) = ((L.length - hitN L x : Nat) : Int) := by rw [wrap_in (by omega) (by omega)]; omega
  have hwd : worstN L x = max (hitN L x) (L.length - hitN L x) := rfl
  rw [List.length_map, hwI, hwd]
  split <;> omega
def askIf (s : List Sv) (L : List (List ByteArray)) (x : Sv) : Option (Nat × Nat) → Bool
  | none => decide (worstN L x < L.length)
  | some (b, le) => decide (worstN L x < L.length) && (decide (worstN L x < le) || (decide (worstN L x = le) && decide (((s[b]?).map Sv.cust).getD 0 < x.cust)))
def askK (s : List Sv) (L : List (List ByteArray)) (p : Sv → Bool) : Nat → Option (Nat × Nat)
  | 0 => none
  | k + 1 => match s[k]? with
    | none => askK s L p k
    | some x => if p x then askK s L p k else if askIf s L x (askK s L p k) then some (k, worstN L x) else askK s L p k
theorem askK_succ (s : List Sv) (L : List (List ByteArray)) (p : Sv → Bool) {k : Nat} (h : k < s.length) : askK s L p (k + 1) = if p s[k] then askK s L p k else if askIf s L s[k] (askK s L p k) then some (k, worstN L s[k]) else askK s L p k := by
  rw [askK, List.getElem?_eq_getElem h]
theorem askK_lt (s : List Sv) (L : List (List ByteArray)) (p : Sv → Bool) : ∀ (k : Nat) (b w : Nat), askK s L p k = some (b, w) → b < k ∧ b < s.length ∧ w ≤ L.length
  | 0, b, w, h => by cases h
  | k + 1, b, w, h => by
    have ih := askK_lt s L p k b w
    by_cases hk : k < s.length
    · rw [askK_succ s L p hk] at h
      have hw : worstN L s[k] ≤ L.length := by have := hitN_le L s[k]; unfold worstN; omega
      split at h
      · have := ih h; omega
      · split at h
        · cases h; exact ⟨by omega, hk, hw⟩
        · have := ih h; omega
    · rw [askK, List.getElem?_eq_none (by omega)] at h
      have := ih h; omega
def bestI : Option (Nat × Nat) → Int | none => -1 | some (b, _) => (b : Int)
def leastI : Option (Nat × Nat) → Int | none => 0 | some (_, w) => (w : Int)
def skipB (down up : List ByteArray) (x : Sv) : Bool := decide (x.key ∈ down) || decide (x.key ∈ up)
def askV (s : List Sv) (L : List (List ByteArray)) (down up : List ByteArray) : Option (Nat × Nat) := askK s L (skipB down up) s.length
def askKey (s : List Sv) : Option (Nat × Nat) → ByteArray | none => ⟨#[]⟩ | some (b, _) => ((s[b]?).map Sv.key).getD ⟨#[]⟩
set_option maxRecDepth 100000 in
set_option maxHeartbeats 4000000 in
theorem fAsk_pc (s : List Sv) (hx : ∀ x ∈ s, x.els.length ≤ 1000000) (down up : List ByteArray) (h0 : seenErr s down up = 0) (h1 : explE s (susV s down up) down = 0) (L : List (List ByteArray)) (hL : L = explV s (susV s down up) down) :
    PCp 28 [.c (.lst 3 (s.map encSv)), .c (.lst 1 (down.map encS)), .c (.lst 1 (up.map encS))] [] (.tup [.c (.str (askKey s (askV s L down up))), .c (.int .i64 (leastI (askV s L down up))), .c (.bool (askV s L down up).isSome), .c (.int .i64 0)]) [] := by
  have hp := fExpls_pc s hx down up
  rw [if_pos h0, if_pos h0, h1, ← hL] at hp
  obtain ⟨hs, hd, hu⟩ := seen_ok h0
  obtain ⟨_, k2, _, k4⟩ := explV_ok (susV_rise s down up) h1
  rw [← hL] at k2 k4
  clear hL h1
  have hsl := hs.len
  have hdl := hd.len
  have hul := hu.len
  have hLm : (L.map encLs).length = L.length := List.length_map ..
  have hsm : (s.map encSv).length = s.length := List.length_map ..
  refine fn_sound (mt := mts) tab_fits tab_mixed Tryz.func28 (by rfl) (by kernel_rfl) (by kernel_rfl) Tryz.results28 (Nat.le_of_ble_eq_true (by kernel_rfl)) ?_
  conv => whnf
  repeat' (first | ((first | refine Split.mk (fun h => ?_) (fun h => ?_) | refine CondG.mk (fun h => ?_) (fun h => ?_)) <;> (try simp only [decide_eq_true_eq, decide_eq_false_iff_not, Bool.not_eq_true', Bool.not_eq_false', beq_iff_eq, beq_eq_false_iff_ne, bne_iff_ne, bne_eq_false_iff_eq] at h) <;> (first | (exfalso; first | omega | exact h trivial) | (conv => whnf))) | (refine CallX.mk _ _ (by first | exact hp) ?_; conv => whnf) | (refine CallG.mk _ _ (by first | exact hp) ?_; conv => whnf) | (refine Ask.mk (by first | omega | (unfold roomOK; simp [cutRows]; done) | (unfold roomOK; simp [cutRows]; omega) | (simp [cutRows]; done) | (simp [cutRows]; omega)) ?_; conv => whnf) | (refine AppG.mk (by first | omega | (unfold roomOK; simp [cutRows]; done) | (unfold roomOK; simp [cutRows]; omega) | (simp [cutRows]; done) | (simp [cutRows]; omega)) ?_; conv => whnf) | (refine SliceG.fr ?_; conv => whnf) | (refine idx_at _ (by with_reducible rfl) (by first | assumption | omega) ?_; conv => whnf) | ((with_reducible refine row_map (by first | assumption | omega) ?_); conv => whnf) | ((with_reducible refine row_set (by first | assumption | omega | (simp only [List.length_set]; omega) | (simp; omega)) ?_); conv => whnf) | fail)
  refine loop_for (s.length) [] [0, 1, 2, 10, 12, 13, 30, 31, 32] (fun k (_ : Unit) => [(12, .c (.int .i64 (bestI (askK s L (skipB down up) k)))), (13, .c (.int .i64 (leastI (askK s L (skipB down up) k)))), (32, .c (.int .i64 (k : Int)))]) (fun k (_ : Unit) => []) (fun k (_ : Unit) => True) (()) ?_
  conv => whnf
  refine ⟨(by first | rfl | (simp; done) | (simp; rfl)), (by trivial), ?_, ?_⟩
  · intro k _ hk _
    have hv := hs.each _ (List.getElem_mem hk)
    have hvl := hv.len
    have hA := askK_succ s L (skipB down up) hk
    have hlt := askK_lt s L (skipB down up) k
    generalize askK s L (skipB down up) k = st at hA hlt
    conv => whnf
    repeat' (first | ((first | refine Split.mk (fun h => ?_) (fun h => ?_) | refine CondG.mk (fun h => ?_) (fun h => ?_)) <;> (try simp only [decide_eq_true_eq, decide_eq_false_iff_not, Bool.not_eq_true', Bool.not_eq_false', beq_iff_eq, beq_eq_false_iff_ne, bne_iff_ne, bne_eq_false_iff_eq] at h) <;> (first | (exfalso; first | omega | exact h trivial) | (conv => whnf))) | (refine CallX.mk _ _ (by first | exact fHas_pc hd.rise (by omega) _ | exact fHas_pc hu.rise (by omega) _) ?_; conv => whnf) | (refine CallG.mk _ _ (by first | exact fHas_pc hd.rise (by omega) _ | exact fHas_pc hu.rise (by omega) _) ?_; conv => whnf) | (refine Ask.mk (by first | omega | (unfold roomOK; simp [cutRows]; done) | (unfold roomOK; simp [cutRows]; omega) | (simp [cutRows]; done) | (simp [cutRows]; omega)) ?_; conv => whnf) | (refine AppG.mk (by first | omega | (unfold roomOK; simp [cutRows]; done) | (unfold roomOK; simp [cutRows]; omega) | (simp [cutRows]; done) | (simp [cutRows]; omega)) ?_; conv => whnf) | (refine SliceG.fr ?_; conv => whnf) | (refine idx_at _ (by with_reducible rfl) (by first | assumption | omega) ?_; conv => whnf) | ((with_reducible refine row_map (by first | assumption | omega) ?_); conv => whnf) | ((with_reducible refine row_set (by first | assumption | omega | (simp only [List.length_set]; omega) | (simp; omega)) ?_); conv => whnf) | fail)
    · have hsk : skipB down up s[k] = true := by unfold skipB; simp_all
      exact count_next () hk (by rw [wrap_succ hk (by omega), hA, if_pos hsk]; rfl) trivial
    · have hsk : skipB down up s[k] = true := by unfold skipB; simp_all
      exact count_next () hk (by rw [wrap_succ hk (by omega), hA, if_pos hsk]; rfl) trivial
    have hsk : ¬ skipB down up s[k] = true := by unfold skipB; simp_all
    rw [if_neg hsk] at hA
    refine loop_for (L.length) [] [0, 1, 2, 10, 12, 13, 14, 15, 16, 30, 31, 32, 47, 48, 49] (fun j (_ : Unit) => [(16, .c (.int .i64 ((hitN (L.take j) s[k] : Nat) : Int))), (49, .c (.int .i64 (j : Int)))]) (fun j (_ : Unit) => []) (fun j (_ : Unit) => True) (()) ?_
    conv => whnf
    refine ⟨(by first | rfl | (simp; done) | (simp; rfl)), (by trivial), ?_, ?_⟩
    · intro j _ hj _
      have hq := k4 _ (List.getElem_mem hj)
      have hH := hitN_succ L s[k] hj
      have hHl := hitN_le (L.take j) s[k]
      have hjl : (L.take j).length = j := by rw [List.length_take]; omega
      conv => whnf
      repeat' (first | ((first | refine Split.mk (fun h => ?_) (fun h => ?_) | refine CondG.mk (fun h => ?_) (fun h => ?_)) <;> (try simp only [decide_eq_true_eq, decide_eq_false_iff_not, Bool.not_eq_true', Bool.not_eq_false', beq_iff_eq, beq_eq_false_iff_ne, bne_iff_ne, bne_eq_false_iff_eq] at h) <;> (first | (exfalso; first | omega | exact h trivial) | (conv => whnf))) | (refine CallX.mk _ _ (by first | exact fMeets_pc L[j] hq.2 hv.rise (by omega)) ?_; conv => whnf) | (refine CallG.mk _ _ (by first | exact fMeets_pc L[j] hq.2 hv.rise (by omega)) ?_; conv => whnf) | (refine Ask.mk (by first | omega | (unfold roomOK; simp [cutRows]; done) | (unfold roomOK; simp [cutRows]; omega) | (simp [cutRows]; done) | (simp [cutRows]; omega)) ?_; conv => whnf) | (refine AppG.mk (by first | omega | (unfold roomOK; simp [cutRows]; done) | (unfold roomOK; simp [cutRows]; omega) | (simp [cutRows]; done) | (simp [cutRows]; omega)) ?_; conv => whnf) | (refine SliceG.fr ?_; conv => whnf) | (refine idx_at _ (by with_reducible rfl) (by first | assumption | omega) ?_; conv => whnf) | ((with_reducible refine row_map (by first | assumption | omega) ?_); conv => whnf) | ((with_reducible refine row_set (by first | assumption | omega | (simp only [List.length_set]; omega) | (simp; omega)) ?_); conv => whnf) | fail)
      · have ha : (L[j].any fun z => decide (z ∈ s[k].els)) = true := by assumption
        rw [if_pos ha] at hH
        exact count_next () hj (by rw [wrap_succ hj (by omega), hH, show IntKind.i64.wrap (((hitN (L.take j) s[k] : Nat) : Int) + 1) = ((hitN (L.take j) s[k] + 1 : Nat) : Int) by rw [wrap_in (by omega) (by omega)]; rfl]; rfl) trivial
      · have ha : ¬ (L[j].any fun z => decide (z ∈ s[k].els)) = true := by simp_all
        rw [if_neg ha] at hH
        exact count_next () hj (by rw [wrap_succ hj (by omega), hH]; rfl) trivial
    · intro _ _
      rw [List.take_length]
      have hn := hitN_le L s[k]
      have hwI : IntKind.i64.wrap ((L.length : Int) - (hitN L s[k] : Int)) = ((L.length - hitN L s[k] : Nat) : Int) := by rw [wrap_in (by omega) (by omega)]; omega
      have hwd : worstN L s[k] = max (hitN L s[k]) (L.length - hitN L s[k]) := rfl
      rcases st with _ | ⟨b, le⟩
      · rw [show bestI none = -1 from rfl, show leastI none = 0 from rfl]
        conv => whnf
        repeat' (first | ((first | refine Split.mk (fun h => ?_) (fun h => ?_) | refine CondG.mk (fun h => ?_) (fun h => ?_)) <;> (try simp only [decide_eq_true_eq, decide_eq_false_iff_not, Bool.not_eq_true', Bool.not_eq_false', beq_iff_eq, beq_eq_false_iff_ne, bne_iff_ne, bne_eq_false_iff_eq] at h) <;> (first | (exfalso; first | omega | exact h trivial) | (conv => whnf))) | (refine Ask.mk (by first | omega | (unfold roomOK; simp [cutRows]; done) | (unfold roomOK; simp [cutRows]; omega) | (simp [cutRows]; done) | (simp [cutRows]; omega)) ?_; conv => whnf) | (refine AppG.mk (by first | omega | (unfold roomOK; simp [cutRows]; done) | (unfold roomOK; simp [cutRows]; omega) | (simp [cutRows]; done) | (simp [cutRows]; omega)) ?_; conv => whnf) | (refine SliceG.fr ?_; conv => whnf) | (refine idx_at _ (by with_reducible rfl) (by first | assumption | omega) ?_; conv => whnf) | ((with_reducible refine row_map (by first | assumption | omega) ?_); conv => whnf) | ((with_reducible refine row_set (by first | assumption | omega | (simp only [List.length_set]; omega) | (simp; omega)) ?_); conv => whnf) | fail)
        all_goals first | (exfalso; omega) | skip
        all_goals simp only [worst_if k2] at *
        · have hI : askIf s L s[k] none = true := by simp only [askIf, decide_eq_true_eq]; omega
          exact count_next () hk (by rw [wrap_succ hk (by omega), hA, if_pos hI]; rfl) trivial
        · have hI : ¬ askIf s L s[k] none = true := by simp only [askIf, decide_eq_true_eq]; omega
          exact count_next () hk (by rw [wrap_succ hk (by omega), hA, if_neg hI]; rfl) trivial
      · obtain ⟨g1, g2, g3⟩ := hlt b le rfl
        rw [show bestI (some (b, le)) = ((b : Nat) : Int) from rfl, show leastI (some (b, le)) = ((le : Nat) : Int) from rfl]
        conv => whnf
        repeat' (first | ((first | refine Split.mk (fun h => ?_) (fun h => ?_) | refine CondG.mk (fun h => ?_) (fun h => ?_)) <;> (try simp only [decide_eq_true_eq, decide_eq_false_iff_not, Bool.not_eq_true', Bool.not_eq_false', beq_iff_eq, beq_eq_false_iff_ne, bne_iff_ne, bne_eq_false_iff_eq] at h) <;> (first | (exfalso; first | omega | exact h trivial) | (conv => whnf))) | (refine Ask.mk (by first | omega | (unfold roomOK; simp [cutRows]; done) | (unfold roomOK; simp [cutRows]; omega) | (simp [cutRows]; done) | (simp [cutRows]; omega)) ?_; conv => whnf) | (refine AppG.mk (by first | omega | (unfold roomOK; simp [cutRows]; done) | (unfold roomOK; simp [cutRows]; omega) | (simp [cutRows]; done) | (simp [cutRows]; omega)) ?_; conv => whnf) | (refine SliceG.fr ?_; conv => whnf) | (refine idx_at _ (by with_reducible rfl) (by first | assumption | omega) ?_; conv => whnf) | ((with_reducible refine row_map (by first | assumption | omega) ?_); conv => whnf) | ((with_reducible refine row_set (by first | assumption | omega | (simp only [List.length_set]; omega) | (simp; omega)) ?_); conv => whnf) | ((refine idx_map b g2 rfl ?_); conv => whnf) | fail)
        all_goals first | (exfalso; omega) | skip
        all_goals simp only [worst_if k2] at *
        all_goals
          have hC : ((s[b]?).map Sv.cust).getD 0 = s[b].cust := by rw [List.getElem?_eq_getElem g2]; rfl
        · have hI : askIf s L s[k] (some (b, le)) = true := by simp only [askIf, hC, Bool.and_eq_true, Bool.or_eq_true, decide_eq_true_eq]; omega
          exact count_next () hk (by rw [wrap_succ hk (by omega), hA, if_pos hI]; rfl) trivial
        · have hI : askIf s L s[k] (some (b, le)) = true := by simp only [askIf, hC, Bool.and_eq_true, Bool.or_eq_true, decide_eq_true_eq]; omega
          exact count_next () hk (by rw [wrap_succ hk (by omega), hA, if_pos hI]; rfl) trivial
        all_goals
          have hI : ¬ askIf s L s[k] (some (b, le)) = true := by simp only [askIf, hC, Bool.and_eq_true, Bool.or_eq_true, decide_eq_true_eq]; omega
          exact count_next () hk (by rw [wrap_succ hk (by omega), hA, if_neg hI]; rfl) trivial
  · intro _ _
    have hV : askV s L down up = askK s L (skipB down up) s.length := rfl
    rw [hV]
    have hlt := askK_lt s L (skipB down up) s.length
    generalize askK s L (skipB down up) s.length = st at hlt
    rcases st with _ | ⟨b, le⟩
    · rw [show bestI none = -1 from rfl, show leastI none = 0 from rfl]
      conv => whnf
      repeat' (first | ((first | refine Split.mk (fun h => ?_) (fun h => ?_) | refine CondG.mk (fun h => ?_) (fun h => ?_)) <;> (try simp only [decide_eq_true_eq, decide_eq_false_iff_not, Bool.not_eq_true', Bool.not_eq_false', beq_iff_eq, beq_eq_false_iff_ne, bne_iff_ne, bne_eq_false_iff_eq] at h) <;> (first | (exfalso; first | omega | exact h trivial) | (conv => whnf))) | (refine Ask.mk (by first | omega | (unfold roomOK; simp [cutRows]; done) | (unfold roomOK; simp [cutRows]; omega) | (simp [cutRows]; done) | (simp [cutRows]; omega)) ?_; conv => whnf) | (refine AppG.mk (by first | omega | (unfold roomOK; simp [cutRows]; done) | (unfold roomOK; simp [cutRows]; omega) | (simp [cutRows]; done) | (simp [cutRows]; omega)) ?_; conv => whnf) | (refine SliceG.fr ?_; conv => whnf) | (refine idx_at _ (by with_reducible rfl) (by first | assumption | omega) ?_; conv => whnf) | ((with_reducible refine row_map (by first | assumption | omega) ?_); conv => whnf) | ((with_reducible refine row_set (by first | assumption | omega | (simp only [List.length_set]; omega) | (simp; omega)) ?_); conv => whnf) | fail)
      all_goals first | exact .mk ⟨rfl, rfl⟩ | (exfalso; omega)
    · obtain ⟨g1, g2, g3⟩ := hlt b le rfl
      have hK : askKey s (some (b, le)) = s[b].key := by unfold askKey; simp only; rw [List.getElem?_eq_getElem g2]; rfl
      rw [show bestI (some (b, le)) = ((b : Nat) : Int) from rfl, show leastI (some (b, le)) = ((le : Nat) : Int) from rfl, hK]
      conv => whnf
      repeat' (first | ((first | refine Split.mk (fun h => ?_) (fun h => ?_) | refine CondG.mk (fun h => ?_) (fun h => ?_)) <;> (try simp only [decide_eq_true_eq, decide_eq_false_iff_not, Bool.not_eq_true', Bool.not_eq_false', beq_iff_eq, beq_eq_false_iff_ne, bne_iff_ne, bne_eq_false_iff_eq] at h) <;> (first | (exfalso; first | omega | exact h trivial) | (conv => whnf))) | (refine Ask.mk (by first | omega | (unfold roomOK; simp [cutRows]; done) | (unfold roomOK; simp [cutRows]; omega) | (simp [cutRows]; done) | (simp [cutRows]; omega)) ?_; conv => whnf) | (refine AppG.mk (by first | omega | (unfold roomOK; simp [cutRows]; done) | (unfold roomOK; simp [cutRows]; omega) | (simp [cutRows]; done) | (simp [cutRows]; omega)) ?_; conv => whnf) | (refine SliceG.fr ?_; conv => whnf) | (refine idx_at _ (by with_reducible rfl) (by first | assumption | omega) ?_; conv => whnf) | ((with_reducible refine row_map (by first | assumption | omega) ?_); conv => whnf) | ((with_reducible refine row_set (by first | assumption | omega | (simp only [List.length_set]; omega) | (simp; omega)) ?_); conv => whnf) | ((refine idx_map b g2 rfl ?_); conv => whnf) | fail)
      all_goals first | exact .mk ⟨rfl, rfl⟩ | (exfalso; omega)
end Go.Proofs.YtllpjcgadfmipaaGreat

/- Ask with an error. -/
namespace Go.Proofs.YtllpjcgadfmipaaGreat
set_option linter.unusedVariables false
set_option linter.unusedSimpArgs false
open Abs

end Go.Proofs.YtllpjcgadfmipaaGreat

/- The document: which service needs one of a list. -/
namespace Go.Proofs.YtllpjcgadfmipaaGreat
set_option linter.unusedVariables false
set_option linter.unusedSimpArgs false
open Abs

set_option maxRecDepth 100000 in
set_option maxHeartbeats 4000000 in
theorem ixSvK_pc (key : ByteArray) (g : Nat) (p : Sv → Bool) (l : List Sv) (hl : l.length ≤ 1000000) (hg : ∀ x ∈ l, PCp g [.agg (encSv x), .c (.ptr 0 0)] [.box [.str key]] (.c (.bool (p x))) [.box [.str key]]) : PCp 163 [.c (.lst 3 (l.map encSv)), .c (.fn g [.ptr 0 0])] [.box [.str key]] (.c (.int .i64 (idxP p l))) [.box [.str key]] := by
  have hlm : (l.map encSv).length = l.length := List.length_map ..
  refine fn_sound (mt := mts) tab_fits tab_mixed Tryz.func163 (by rfl) (by kernel_rfl) (by kernel_rfl) Tryz.results163 (Nat.le_of_ble_eq_true (by kernel_rfl)) ?_
  conv => whnf
  refine loop_count (l.length) [] [0, 1, 7, 8] (fun k (_ : Unit) => ⟨[(0, .c (.lst 3 (l.map encSv))), (1, .c (.fn g [.ptr 0 0])), (7, .c (.int .i64 (l.map encSv).length)), (8, .c (.int .i64 k))], [(0, .box [.str key])], 1⟩) (fun k (_ : Unit) => ∀ i (hi : i < l.length), i < k → p l[i] = false) (()) ?_ ?_ ?_
  · conv => whnf
    exact ⟨rfl, by intro i hi h; omega⟩
  · intro k _ hk hi
    conv => whnf
    repeat' (first | ((first | refine Split.mk (fun h => ?_) (fun h => ?_) | refine CondG.mk (fun h => ?_) (fun h => ?_)) <;> (try simp only [decide_eq_true_eq, decide_eq_false_iff_not, Bool.not_eq_true', Bool.not_eq_false', beq_iff_eq, beq_eq_false_iff_ne, bne_iff_ne, bne_eq_false_iff_eq] at h) <;> (first | (exfalso; first | omega | exact h trivial) | (conv => whnf))) | (refine CallX.mk _ _ (by first | exact hg l[k] (List.getElem_mem hk)) ?_; conv => whnf) | (refine CallG.mk _ _ (by first | exact hg l[k] (List.getElem_mem hk)) ?_; conv => whnf) | (refine Ask.mk (by first | omega | (unfold roomOK; simp [cutRows]; done) | (unfold roomOK; simp [cutRows]; omega) | (simp [cutRows]; done) | (simp [cutRows]; omega)) ?_; conv => whnf) | (refine AppG.mk (by first | omega | (unfold roomOK; simp [cutRows]; done) | (unfold roomOK; simp [cutRows]; omega) | (simp [cutRows]; done) | (simp [cutRows]; omega)) ?_; conv => whnf) | (refine SliceG.fr ?_; conv => whnf) | (refine idx_at _ (by with_reducible rfl) (by first | assumption | omega) ?_; conv => whnf) | ((with_reducible refine row_map (by first | assumption | omega) ?_); conv => whnf) | ((with_reducible refine row_set (by first | assumption | omega | (simp only [List.length_set]; omega) | (simp; omega)) ?_); conv => whnf) | fail)
    · exact .mk ⟨by rw [idxP_hit hk (fun i hi' => hi i (by omega) hi') h]; rfl, rfl⟩
    · refine count_next () hk (by rw [wrap_succ hk (by omega)]; rfl) ?_
      exact all_succ' hi h
  · intro _ hi
    conv => whnf
    repeat' (first | ((first | refine Split.mk (fun h => ?_) (fun h => ?_) | refine CondG.mk (fun h => ?_) (fun h => ?_)) <;> (try simp only [decide_eq_true_eq, decide_eq_false_iff_not, Bool.not_eq_true', Bool.not_eq_false', beq_iff_eq, beq_eq_false_iff_ne] at h) <;> (first | (exfalso; first | omega | exact h trivial) | (conv => whnf))) | (refine Ask.mk (by first | omega | (unfold roomOK; simp [cutRows]; done) | (unfold roomOK; simp [cutRows]; omega)) ?_; conv => whnf) | (refine AppG.mk (by first | omega | (unfold roomOK; simp [cutRows]; done) | (unfold roomOK; simp [cutRows]; omega)) ?_; conv => whnf) | (refine SliceG.fr ?_; conv => whnf) | fail)
    exact .mk ⟨by rw [idxP_miss (fun i h => hi i h h)]; rfl, rfl⟩
set_option maxRecDepth 100000 in
set_option maxHeartbeats 4000000 in
theorem rAt1_pc (key : ByteArray) (x : Sv) : PCp 164 [.agg (encSv x), .c (.ptr 0 0)] [.box [.str key]] (.c (.bool (decide (x.key = key)))) [.box [.str key]] := by
  refine fn_sound (mt := mts) tab_fits tab_mixed Tryz.func164 (by rfl) (by kernel_rfl) (by kernel_rfl) Tryz.results164 (Nat.le_of_ble_eq_true (by kernel_rfl)) ?_
  conv => whnf
  repeat' (first | ((first | refine Split.mk (fun h => ?_) (fun h => ?_) | refine CondG.mk (fun h => ?_) (fun h => ?_)) <;> (try simp only [decide_eq_true_eq, decide_eq_false_iff_not, Bool.not_eq_true', Bool.not_eq_false', beq_iff_eq, beq_eq_false_iff_ne, bne_iff_ne, bne_eq_false_iff_eq] at h) <;> (first | (exfalso; first | omega | exact h trivial) | (conv => whnf))) | (refine Ask.mk (by first | omega | (unfold roomOK; simp [cutRows]; done) | (unfold roomOK; simp [cutRows]; omega) | (simp [cutRows]; done) | (simp [cutRows]; omega)) ?_; conv => whnf) | (refine AppG.mk (by first | omega | (unfold roomOK; simp [cutRows]; done) | (unfold roomOK; simp [cutRows]; omega) | (simp [cutRows]; done) | (simp [cutRows]; omega)) ?_; conv => whnf) | (refine SliceG.fr ?_; conv => whnf) | (refine idx_at _ (by with_reducible rfl) (by first | assumption | omega) ?_; conv => whnf) | ((with_reducible refine row_map (by first | assumption | omega) ?_); conv => whnf) | ((with_reducible refine row_set (by first | assumption | omega | (simp only [List.length_set]; omega) | (simp; omega)) ?_); conv => whnf) | fail)
  have hb : (x.key.toList == key.toList) = decide (x.key = key) := by rw [Bool.eq_iff_iff, eqSb, decide_eq_true_eq]
  rw [hb]
  exact .mk ⟨rfl, rfl⟩
set_option maxRecDepth 100000 in
set_option maxHeartbeats 4000000 in
theorem rAt_pc (s : List Sv) (hs : SvOk s) (k : ByteArray) (hk : hasSv s k = true) : PCp 115 [.c (.lst 3 (s.map encSv)), .c (.str k)] [] (.tup [.agg (encSv (svG s k)), .c (.bool true)]) [] := by
  have hsl := hs.len
  obtain ⟨x, hx, hxk⟩ := hasSv_iff.1 hk
  rcases idxP_or (fun x : Sv => decide (x.key = k)) s with ⟨_, h2⟩ | ⟨i, hi, h3, h4, _⟩
  · have := h2 x hx; simp [hxk] at this
  have h5 : s[i] = svG s k := by
    have h6 : s[i].key = k := by simpa using h4
    rw [← h6]; exact (svG_mem hs.rise (List.getElem_mem hi)).symm
  have hc := ixSvK_pc k 164 (fun x : Sv => decide (x.key = k)) s (by omega) (fun x _ => rAt1_pc k x)
  rw [h3] at hc
  refine fn_sound (mt := mts) tab_fits tab_mixed Tryz.func115 (by rfl) (by kernel_rfl) (by kernel_rfl) Tryz.results115 (Nat.le_of_ble_eq_true (by kernel_rfl)) ?_
  conv => whnf
  repeat' (first | ((first | refine Split.mk (fun h => ?_) (fun h => ?_) | refine CondG.mk (fun h => ?_) (fun h => ?_)) <;> (try simp only [decide_eq_true_eq, decide_eq_false_iff_not, Bool.not_eq_true', Bool.not_eq_false', beq_iff_eq, beq_eq_false_iff_ne, bne_iff_ne, bne_eq_false_iff_eq] at h) <;> (first | (exfalso; first | omega | exact h trivial) | (conv => whnf))) | (refine CallX.mk _ _ (by first | exact hc) ?_; conv => whnf) | (refine CallG.mk _ _ (by first | exact hc) ?_; conv => whnf) | (refine Ask.mk (by first | omega | (unfold roomOK; simp [cutRows]; done) | (unfold roomOK; simp [cutRows]; omega) | (simp [cutRows]; done) | (simp [cutRows]; omega)) ?_; conv => whnf) | (refine AppG.mk (by first | omega | (unfold roomOK; simp [cutRows]; done) | (unfold roomOK; simp [cutRows]; omega) | (simp [cutRows]; done) | (simp [cutRows]; omega)) ?_; conv => whnf) | (refine SliceG.fr ?_; conv => whnf) | (refine idx_at _ (by with_reducible rfl) (by first | assumption | omega) ?_; conv => whnf) | ((with_reducible refine row_map (by first | assumption | omega) ?_); conv => whnf) | ((with_reducible refine row_set (by first | assumption | omega | (simp only [List.length_set]; omega) | (simp; omega)) ?_); conv => whnf) | ((refine idx_map i hi rfl ?_); conv => whnf) | fail)
  all_goals first | (exfalso; omega) | skip
  rw [h5]
  exact .mk ⟨rfl, rfl⟩
def needB (s : List Sv) (l : List ByteArray) (k : ByteArray) : Bool := (svG s k).els.any fun x => decide (x ∈ l)
end Go.Proofs.YtllpjcgadfmipaaGreat

/- The document: elements of the services that a captured list holds. -/
namespace Go.Proofs.YtllpjcgadfmipaaGreat
set_option linter.unusedVariables false
set_option linter.unusedSimpArgs false
open Abs

end Go.Proofs.YtllpjcgadfmipaaGreat

/- The document: suspects. -/
namespace Go.Proofs.YtllpjcgadfmipaaGreat
set_option linter.unusedVariables false
set_option linter.unusedSimpArgs false
open Abs

end Go.Proofs.YtllpjcgadfmipaaGreat

/- The document: what is unexplained. -/
namespace Go.Proofs.YtllpjcgadfmipaaGreat
set_option linter.unusedVariables false
set_option linter.unusedSimpArgs false
open Abs

end Go.Proofs.YtllpjcgadfmipaaGreat

/- Plain: both suspects are one. -/
namespace Go.Proofs.YtllpjcgadfmipaaGreat
set_option linter.unusedVariables false
set_option linter.unusedSimpArgs false
open Abs

end Go.Proofs.YtllpjcgadfmipaaGreat

/- Plain: the best sets of the document and of the program are one. -/
namespace Go.Proofs.YtllpjcgadfmipaaGreat
set_option linter.unusedVariables false
set_option linter.unusedSimpArgs false
open Abs

/-! from the begin on -/
def pickF : List ByteArray → Nat → List ByteArray
  | [], _ => []
  | x :: r, m => if m.testBit 0 then x :: pickF r (m / 2) else pickF r (m / 2)
theorem setL_cons (x : ByteArray) (r : List ByteArray) (m : Nat) : ∀ k, setL (x :: r) m (k + 1) = (if m.testBit 0 then [x] else []) ++ setL r (m / 2) k
  | 0 => by simp [setL]
  | k + 1 => by
    have ih := setL_cons x r m k
    rw [setL, ih, setL, Nat.testBit_succ, show (x :: r).getD (k + 1) ⟨#[]⟩ = r.getD k ⟨#[]⟩ by simp]
    by_cases h : (m / 2).testBit k = true
    · rw [if_pos h, if_pos h, List.append_assoc]
    · rw [if_neg h, if_neg h]
theorem pickM_F : ∀ (l : List ByteArray) (m : Nat), pickM l m = pickF l m
  | [], m => rfl
  | x :: r, m => by
    have ih := pickM_F r (m / 2)
    unfold pickM at ih ⊢
    rw [List.length_cons, setL_cons, ih, pickF]
    split <;> simp
theorem pickF_len : ∀ (l : List ByteArray) (m : Nat), (pickF l m).length = popF l.length m
  | [], m => rfl
  | x :: r, m => by
    have ih := pickF_len r (m / 2)
    have hb : m.testBit 0 = decide (m % 2 = 1) := Nat.testBit_zero ..
    rw [pickF, List.length_cons, popF, hb]
    by_cases h : m % 2 = 1
    · rw [if_pos (by simpa using h), List.length_cons, ih]; omega
    · rw [if_neg (by simpa using h), ih]; omega
theorem popF_zero : ∀ n, popF n 0 = 0
  | 0 => rfl
  | n + 1 => by rw [popF, popF_zero n]
theorem popF_ext : ∀ (n k m : Nat), n ≤ k → m < 2 ^ n → popF k m = popF n m
  | 0, k, m, _, h => by
    have : m = 0 := by simp at h; omega
    rw [this, popF_zero, popF_zero]
  | n + 1, 0, m, h, _ => by omega
  | n + 1, k + 1, m, h, hm => by
    rw [popF, popF, popF_ext n k (m / 2) (by omega) (by rw [Nat.pow_succ] at hm; omega)]
theorem popc_len {l : List ByteArray} (h : l.length ≤ 14) {m : Nat} (hm : m < 2 ^ l.length) : (pickM l m).length = popc m := by
  rw [pickM_F, pickF_len]; exact (popF_ext l.length 14 m h hm).symm
/-! the order of the sets -/
theorem pickF_mem : ∀ (l : List ByteArray) (m : Nat) {x : ByteArray}, x ∈ pickF l m → x ∈ l
  | [], _, _, h => by simp [pickF] at h
  | a :: r, m, x, h => by
    rw [pickF] at h
    split at h
    · rcases List.mem_cons.1 h with e | h
      · simp [e]
      · have := pickF_mem r (m / 2) h; simp [this]
    · have := pickF_mem r (m / 2) h; simp [this]
/-! the best ones, told anew -/
theorem and_ne {n m : Nat} : n &&& m ≠ 0 ↔ ∃ j, n.testBit j = true ∧ m.testBit j = true := by
  constructor
  · intro h
    obtain ⟨j, hj⟩ := Nat.exists_testBit_of_ne_zero h
    rw [Nat.testBit_and, Bool.and_eq_true] at hj
    exact ⟨j, hj⟩
  · rintro ⟨j, h1, h2⟩ h
    have := congrArg (fun q : Nat => q.testBit j) h
    simp [Nat.testBit_and, h1, h2] at this
theorem needO_test (s : List Sv) (l : List ByteArray) (k : ByteArray) (j : Nat) : (needO s l k).testBit j = true ↔ ∃ h : j < l.length, l[j] ∈ (svG s k).els := by
  unfold needO
  rw [bitN_test, Bool.and_eq_true, decide_eq_true_eq, decide_eq_true_eq]
  constructor
  · rintro ⟨h, h1⟩
    refine ⟨h, ?_⟩
    simpa [List.getD_eq_getElem?_getD, List.getElem?_eq_getElem h] using h1
  · rintro ⟨h, h1⟩
    refine ⟨h, ?_⟩
    simpa [List.getD_eq_getElem?_getD, List.getElem?_eq_getElem h] using h1
theorem needO_zero (s : List Sv) (l : List ByteArray) (k : ByteArray) : needO s l k ≠ 0 ↔ needsB s l k = true := by
  unfold needsB
  rw [List.any_eq_true]
  constructor
  · intro h
    obtain ⟨j, hj⟩ := Nat.exists_testBit_of_ne_zero h
    obtain ⟨h1, h2⟩ := (needO_test s l k j).1 hj
    exact ⟨_, List.getElem_mem h1, by simpa using h2⟩
  · rintro ⟨x, hx, h2⟩ h
    obtain ⟨j, hj, rfl⟩ := List.getElem_of_mem hx
    have := (needO_test s l k j).2 ⟨hj, by simpa using h2⟩
    rw [h, Nat.zero_testBit] at this; cases this
theorem needO_pick (s : List Sv) (l : List ByteArray) (k : ByteArray) (m : Nat) : needO s l k &&& m ≠ 0 ↔ needB s (pickM l m) k = true := by
  unfold needB
  rw [and_ne, List.any_eq_true]
  constructor
  · rintro ⟨j, h1, h2⟩
    obtain ⟨h3, h4⟩ := (needO_test s l k j).1 h1
    exact ⟨l[j], h4, by rw [decide_eq_true_eq]; exact (setL_mem l m l.length (Nat.le_refl _) l[j]).2 ⟨j, h3, h3, h2, rfl⟩⟩
  · rintro ⟨x, h1, h2⟩
    rw [decide_eq_true_eq] at h2
    obtain ⟨i, hi, _, h3, h4⟩ := (setL_mem l m l.length (Nat.le_refl _) x).1 h2
    exact ⟨i, (needO_test s l k i).2 ⟨hi, by rw [h4]; exact h1⟩, h3⟩
end Go.Proofs.YtllpjcgadfmipaaGreat

/- Lists joined; what is in no explanation, by the program. -/
namespace Go.Proofs.YtllpjcgadfmipaaGreat
set_option linter.unusedVariables false
set_option linter.unusedSimpArgs false
open Abs

-- slices.Grow of nil, by the kit's contract laid at the seat (needs nx_made of XF2 or XGrow)
theorem growStr_pc (n : Nat) (hn : n ≤ 100000) : PCp 118 [.c .nils, .c (.int .i64 n)] [] (.c (.row 0)) [.row 9 1 []] := by
  refine ⟨⟨_, Tryz.func118, by kernel_rfl, by kernel_rfl⟩, fun F φ w cs hp hrp hφ => ?_⟩
  have hφ0 : φ 0 = none := by
    cases h : φ 0 with
    | none => rfl
    | some c => have := hφ 0 c h; simp at this
  have hcs : cs = #[.slice none 0 0, .int .i64 n] := by
    obtain ⟨x, xs, e1, r1, hp⟩ := hp.cons_inv
    obtain ⟨y, ys, e2, r2, hp⟩ := hp.cons_inv
    have := hp.nil_inv
    subst this
    subst e2
    apply Array.ext'
    have hx : x = .slice none 0 0 := by
      cases r1 with | c hv => cases hv with | tree ht => cases ht; rfl
    rw [e1, hx, r2.int_inv]
  subst hcs
  obtain ⟨i0, z, d, hi, hsz, hby, hz, ⟨hzc, _⟩, _⟩ := tab_fits 9 _ rfl
  by_cases h0 : n = 0
  · subst h0
    refine (Any8.slices_Grow_room layGrowStr none 0 0 0 w (by omega) (by omega) (by omega) (by omega)).mono ?_
    rintro e w' ⟨rfl, rfl⟩
    refine ⟨_, F, addφ φ 0 (.slice none 0 0), _, _, ⟨rfl, rfl⟩, rfl, .c (.row 0 _ (by simp [addφ])), nx_made (by simp) hφ0 _ rfl _ rfl rfl rfl (Nat.le_refl _) (Nat.le_refl _) (fun b h => rfl) (fun b h => by simp [hb] at h) ?_⟩
    exact RO.mkrow (c := .slice none 0 0) (xs := []) (by simp [addφ]) (fun b h => by simp [hb] at h) ⟨by simp, .inl ⟨rfl, rfl⟩⟩ P2.nil (by simp)
  · refine (Any8.slices_Grow_grow layGrowStr i0 z hi hz (by rw [hsz]; decide) none 0 0 n [] w (by omega) (by omega) (by rw [hby]; show (0 + n) * 16 ≤ 140737488355328; omega) (by omega) (by simp) (fun _ => rfl) (fun a h => by cases h)).mono ?_
    rintro e w' ⟨he, hw⟩
    have hc1 := grownCap_ge w (0 + n) 0 9
    have hc2 := grownCap_le_maxLen w (0 + n) 0 9 (Nat.le_trans (show 0 + n ≤ 100000 by omega) (by decide))
    rw [show layGrowStr_ren.t 25 = 9 from rfl] at he hw
    generalize grownCap w (0 + n) 0 9 = cap at hc1 hc2 he hw
    subst he
    have hblk : ∀ b, hb (Value.slice (some ⟨w.heap.size, 0, none⟩) 0 cap) = some b → b = w.heap.size := fun b h => by
      cases cap with
      | zero => simp [hb] at h
      | succ m =>
        have h : some w.heap.size = some b := h
        cases h; rfl
    have hsize : w'.heap.size = w.heap.size + 1 := by rw [hw]; exact Array.size_push ..
    have hold : ∀ b, b < w.heap.size → w'.heap[b]? = w.heap[b]? := fun b h => by rw [hw]; exact heap_alloc_old w.drew _ h
    have hnew := heap_alloc_new w.drew (.cells (([] : List Value).toArray ++ Builtin.zeroCells z.cells (0 + n - 0) ++ Builtin.zeroCells z.cells (cap - (0 + n))) 9)
    rw [← hw] at hnew
    refine ⟨_, F, addφ φ 0 (.slice (some ⟨w.heap.size, 0, none⟩) 0 cap), _, _, ⟨rfl, rfl⟩, rfl, .c (.row 0 _ (by simp [addφ])), nx_made (by simp) hφ0 _ rfl _ (by rw [hw]; rfl) (by rw [hw]; rfl) (by rw [hw]; rfl) (by rw [hw]; exact Nat.le_succ _) (by omega) hold (fun b h => by rw [hblk b h]; exact Nat.le_refl _) ?_⟩
    refine .inl ⟨.slice (some ⟨w.heap.size, 0, none⟩) 0 cap, [], by simp [addφ], fun b h hF => ?_, ⟨⟨by simp, .inr ⟨w.heap.size, cap, _, rfl, Nat.zero_le _, hnew, Nat.zero_le _, hc2, ?_, by simp⟩⟩, ?_⟩, P2.nil, by simp⟩
    · have := hrp.bd b hF
      rw [hblk b h] at this
      omega
    · have hz6 : z.cells.size = 1 := hzc
      simp only [Array.size_append, List.size_toArray, List.length_nil, size_zeroCells, hz6]
      omega
    · cases cap with
      | zero => omega
      | succ m => trivial
theorem flat_len {α : Type} {n : Nat} : ∀ {L : List (List α)}, (∀ q ∈ L, q.length ≤ n) → L.flatten.length ≤ n * L.length
  | [], _ => by simp
  | a :: r, h => by
    have ih := flat_len (n := n) (L := r) (fun q hq => h q (by simp [hq]))
    have := h a (by simp)
    simp only [List.flatten_cons, List.length_append, List.length_cons, Nat.mul_succ]; omega
theorem flat_succ {α : Type} (L : List (List α)) {k : Nat} (h : k < L.length) : (L.take (k + 1)).flatten = (L.take k).flatten ++ L[k] := by
  rw [List.take_succ_eq_append_getElem h, List.flatten_append, List.flatten_cons, List.flatten_nil, List.append_nil]
set_option maxRecDepth 100000 in
set_option maxHeartbeats 4000000 in
theorem concatS_pc (L : List (List ByteArray)) (hL : L.length ≤ 1000) (hx : ∀ q ∈ L, q.length ≤ 100) : PCp 66 [.c (.lst 1 (L.map encLs))] [] (.c (.row 0)) [.row 9 1 (L.flatten.map encS)] := by
  have hlm : (L.map encLs).length = L.length := List.length_map ..
  have hfl : ∀ k, k ≤ L.length → (L.take k).flatten.length ≤ 100000 := by
    intro k hk
    have h1 := flat_len (n := 100) (L := L.take k) (fun q hq => hx q (List.mem_of_mem_take hq))
    rw [List.length_take, Nat.min_eq_left hk] at h1; omega
  refine fn_sound (mt := mts) tab_fits tab_mixed Tryz.func66 (by rfl) (by kernel_rfl) (by kernel_rfl) Tryz.results66 (Nat.le_of_ble_eq_true (by kernel_rfl)) ?_
  conv => whnf
  refine loop_for (L.length) [] [0, 3, 9, 10, 11] (fun k (_ : Unit) => [(3, .c (.int .i64 (((L.take k).flatten.length : Nat) : Int))), (11, .c (.int .i64 (k : Int)))]) (fun k (_ : Unit) => []) (fun k (_ : Unit) => True) (()) ?_
  conv => whnf
  refine ⟨(by first | rfl | (simp; done) | (simp; rfl)), (by trivial), ?_, ?_⟩
  · intro k _ hk _
    have h1 := hx _ (List.getElem_mem hk)
    have h2 := hfl k (by omega)
    have h3 := congrArg List.length (flat_succ L hk)
    rw [List.length_append] at h3
    have h4 : (L[k].map encS).length = L[k].length := List.length_map ..
    have hw : IntKind.i64.wrap (((L.take k).flatten.length : Int) + ((L[k].map encS).length : Int)) = (((L.take (k + 1)).flatten.length : Nat) : Int) := by rw [wrap_in (by omega) (by omega)]; omega
    conv => whnf
    repeat' (first | ((first | refine Split.mk (fun h => ?_) (fun h => ?_) | refine CondG.mk (fun h => ?_) (fun h => ?_)) <;> (try simp only [decide_eq_true_eq, decide_eq_false_iff_not, Bool.not_eq_true', Bool.not_eq_false', beq_iff_eq, beq_eq_false_iff_ne, bne_iff_ne, bne_eq_false_iff_eq] at h) <;> (first | (exfalso; first | omega | exact h trivial) | (conv => whnf))) | (refine Ask.mk (by first | omega | (unfold roomOK; simp [cutRows]; done) | (unfold roomOK; simp [cutRows]; omega) | (simp [cutRows]; done) | (simp [cutRows]; omega)) ?_; conv => whnf) | (refine AppG.mk (by first | omega | (unfold roomOK; simp [cutRows]; done) | (unfold roomOK; simp [cutRows]; omega) | (simp [cutRows]; done) | (simp [cutRows]; omega)) ?_; conv => whnf) | (refine SliceG.fr ?_; conv => whnf) | (refine idx_at _ (by with_reducible rfl) (by first | assumption | omega) ?_; conv => whnf) | ((with_reducible refine row_map (by first | assumption | omega) ?_); conv => whnf) | ((with_reducible refine row_set (by first | assumption | omega | (simp only [List.length_set]; omega) | (simp; omega)) ?_); conv => whnf) | fail)
    exact count_next () hk (by rw [wrap_succ hk (by omega), hw]; rfl) trivial
  · intro _ _
    rw [List.take_length]
    have h2 := hfl L.length (Nat.le_refl _)
    rw [List.take_length] at h2
    conv => whnf
    repeat' (first | ((first | refine Split.mk (fun h => ?_) (fun h => ?_) | refine CondG.mk (fun h => ?_) (fun h => ?_)) <;> (try simp only [decide_eq_true_eq, decide_eq_false_iff_not, Bool.not_eq_true', Bool.not_eq_false', beq_iff_eq, beq_eq_false_iff_ne, bne_iff_ne, bne_eq_false_iff_eq] at h) <;> (first | (exfalso; first | omega | exact h trivial) | (conv => whnf))) | (refine CallX.mk _ _ (by first | exact growStr_pc _ h2) ?_; conv => whnf) | (refine CallG.mk _ _ (by first | exact growStr_pc _ h2) ?_; conv => whnf) | (refine Ask.mk (by first | omega | (unfold roomOK; simp [cutRows]; done) | (unfold roomOK; simp [cutRows]; omega) | (simp [cutRows]; done) | (simp [cutRows]; omega)) ?_; conv => whnf) | (refine AppG.mk (by first | omega | (unfold roomOK; simp [cutRows]; done) | (unfold roomOK; simp [cutRows]; omega) | (simp [cutRows]; done) | (simp [cutRows]; omega)) ?_; conv => whnf) | (refine SliceG.fr ?_; conv => whnf) | (refine idx_at _ (by with_reducible rfl) (by first | assumption | omega) ?_; conv => whnf) | ((with_reducible refine row_map (by first | assumption | omega) ?_); conv => whnf) | ((with_reducible refine row_set (by first | assumption | omega | (simp only [List.length_set]; omega) | (simp; omega)) ?_); conv => whnf) | fail)
    refine loop_for (L.length) [] [6, 25, 26, 27] (fun k (_ : Unit) => [(27, .c (.int .i64 (k : Int)))]) (fun k (_ : Unit) => [(0, .row 9 1 ((L.take k).flatten.map encS))]) (fun k (_ : Unit) => True) (()) ?_
    conv => whnf
    refine ⟨(by first | rfl | (simp; done) | (simp; rfl)), (by trivial), ?_, ?_⟩
    · intro k _ hk _
      have h1 := hx _ (List.getElem_mem hk)
      have h2 := hfl k (by omega)
      have h3 : ((L.take k).flatten.map encS).length = (L.take k).flatten.length := List.length_map ..
      have h4 : (L[k].map encS).length = L[k].length := List.length_map ..
      conv => whnf
      repeat' (first | ((first | refine Split.mk (fun h => ?_) (fun h => ?_) | refine CondG.mk (fun h => ?_) (fun h => ?_)) <;> (try simp only [decide_eq_true_eq, decide_eq_false_iff_not, Bool.not_eq_true', Bool.not_eq_false', beq_iff_eq, beq_eq_false_iff_ne, bne_iff_ne, bne_eq_false_iff_eq] at h) <;> (first | (exfalso; first | omega | exact h trivial) | (conv => whnf))) | (refine Ask.mk (by first | omega | (unfold roomOK; simp [cutRows]; done) | (unfold roomOK; simp [cutRows]; omega) | (simp [cutRows]; done) | (simp [cutRows]; omega)) ?_; conv => whnf) | (refine AppG.mk (by first | omega | (unfold roomOK; simp [cutRows]; done) | (unfold roomOK; simp [cutRows]; omega) | (simp [cutRows]; done) | (simp [cutRows]; omega)) ?_; conv => whnf) | (refine SliceG.fr ?_; conv => whnf) | (refine idx_at _ (by with_reducible rfl) (by first | assumption | omega) ?_; conv => whnf) | ((with_reducible refine row_map (by first | assumption | omega) ?_); conv => whnf) | ((with_reducible refine row_set (by first | assumption | omega | (simp only [List.length_set]; omega) | (simp; omega)) ?_); conv => whnf) | ((refine .mk (room_small (by omega) (by decide)) ?_); conv => whnf) | fail)
      exact count_next () hk (by rw [wrap_succ hk (by omega), flat_succ L hk, List.map_append]; rfl) trivial
    · intro _ _
      rw [List.take_length]
      conv => whnf
      repeat' (first | ((first | refine Split.mk (fun h => ?_) (fun h => ?_) | refine CondG.mk (fun h => ?_) (fun h => ?_)) <;> (try simp only [decide_eq_true_eq, decide_eq_false_iff_not, Bool.not_eq_true', Bool.not_eq_false', beq_iff_eq, beq_eq_false_iff_ne, bne_iff_ne, bne_eq_false_iff_eq] at h) <;> (first | (exfalso; first | omega | exact h trivial) | (conv => whnf))) | (refine Ask.mk (by first | omega | (unfold roomOK; simp [cutRows]; done) | (unfold roomOK; simp [cutRows]; omega) | (simp [cutRows]; done) | (simp [cutRows]; omega)) ?_; conv => whnf) | (refine AppG.mk (by first | omega | (unfold roomOK; simp [cutRows]; done) | (unfold roomOK; simp [cutRows]; omega) | (simp [cutRows]; done) | (simp [cutRows]; omega)) ?_; conv => whnf) | (refine SliceG.fr ?_; conv => whnf) | (refine idx_at _ (by with_reducible rfl) (by first | assumption | omega) ?_; conv => whnf) | ((with_reducible refine row_map (by first | assumption | omega) ?_); conv => whnf) | ((with_reducible refine row_set (by first | assumption | omega | (simp only [List.length_set]; omega) | (simp; omega)) ?_); conv => whnf) | fail)
      exact .mk ⟨rfl, rfl⟩
def clrM (s : List Sv) (down : List ByteArray) (L : List (List ByteArray)) : MB := putAll (putAll SM.nil (elsOf s down) true) L.flatten false
def clrV (s : List Sv) (down : List ByteArray) (L : List (List ByteArray)) : List ByteArray := risV (clrM s down L)
theorem clrM_ok (s : List Sv) (down : List ByteArray) (L : List (List ByteArray)) : (clrM s down L).ok := putAll_ok _ (putAll_ok _ SM.ok_nil)
theorem clrV_rise (s : List Sv) (down : List ByteArray) (L : List (List ByteArray)) : Rise id (clrV s down L) := risV_rise (clrM_ok ..)
theorem clrV_mem (s : List Sv) (down : List ByteArray) (L : List (List ByteArray)) (x : ByteArray) : x ∈ clrV s down L ↔ x ∈ elsOf s down ∧ ∀ q ∈ L, x ∉ q := by
  unfold clrV
  rw [risV_mem (clrM_ok ..)]
  unfold clrM
  rw [putAll_get, putAll_get]
  have hf : x ∈ L.flatten ↔ ∃ q ∈ L, x ∈ q := by rw [List.mem_flatten]
  by_cases h1 : x ∈ L.flatten
  · rw [if_pos h1]
    constructor
    · intro e; cases e
    · rintro ⟨_, h⟩
      obtain ⟨q, hq, hx⟩ := hf.1 h1
      exact (h q hq hx).elim
  · rw [if_neg h1]
    by_cases h2 : x ∈ elsOf s down
    · rw [if_pos h2]
      exact ⟨fun _ => ⟨h2, fun q hq hx => h1 (hf.2 ⟨q, hq, hx⟩)⟩, fun _ => rfl⟩
    · rw [if_neg h2, SM.get_nil]
      exact ⟨fun e => (by cases e), fun h => (h2 h.1).elim⟩
theorem explV_len {s : List Sv} {l down : List ByteArray} (h0 : explE s l down = 0) : ∀ q ∈ explV s l down, q.length ≤ 14 := by
  have h14 : l.length ≤ 14 := by
    unfold explE at h0
    split at h0 <;> omega
  intro q hq
  unfold explV at hq
  rw [if_pos h0] at hq
  obtain ⟨m, _, rfl⟩ := List.mem_map.1 hq
  have := pickM_len l m
  omega
set_option maxRecDepth 100000 in
set_option maxHeartbeats 4000000 in
theorem fClr_pc (s : List Sv) (hx : ∀ x ∈ s, x.els.length ≤ 1000000) (down up : List ByteArray) (e : Int) (L : List (List ByteArray))
    (he : e = if seenErr s down up = 0 then explE s (susV s down up) down else seenErr s down up) (hL : L = if seenErr s down up = 0 then explV s (susV s down up) down else []) :
    PCp 22 [.c (.lst 3 (s.map encSv)), .c (.lst 1 (down.map encS)), .c (.lst 1 (up.map encS))] [] (.tup [.c (.lst 1 ((if e = 0 then clrV s down L else []).map encS)), .c (.int .i64 e)]) [] := by
  have hp := fExpls_pc s hx down up
  rw [← he, ← hL] at hp
  by_cases h0 : e = 0
  · have hs0 : seenErr s down up = 0 := by
      by_cases q : seenErr s down up = 0
      · exact q
      · rw [if_neg q] at he; omega
    rw [if_pos hs0] at he hL
    have k3 := explV_len (by omega : explE s (susV s down up) down = 0)
    obtain ⟨k1, k2, _, k4⟩ := explV_ok (susV_rise s down up) (by omega : explE s (susV s down up) down = 0)
    rw [← hL] at k1 k2 k3 k4
    subst h0
    rw [if_pos rfl]
    clear hL he
    obtain ⟨hs, hd, hu⟩ := seen_ok hs0
    have hsl := hs.len
    have hdl := hd.len
    have hdm : (down.map encS).length = down.length := List.length_map ..
    have hsm : (s.map encSv).length = s.length := List.length_map ..
    have hfl := flat_len (n := 14) (L := L) k3
    have hfm : (L.flatten.map encS).length = L.flatten.length := List.length_map ..
    have hat : ∀ k, hasSv s k = true → ∃ i, ∃ hi : i < s.length, svIx s k = ((i : Nat) : Int) ∧ s[i] = svG s k ∧ s[i].els.length ≤ 100 := by
      intro k hk
      rcases svIx_or hs.rise k with ⟨h1, _⟩ | ⟨_, i, hi, h2, h3⟩
      · rw [h1] at hk; cases hk
      · exact ⟨i, hi, h2, h3, (hs.each _ (List.getElem_mem hi)).len⟩
    refine fn_sound (mt := mts) tab_fits tab_mixed Tryz.func22 (by rfl) (by kernel_rfl) (by kernel_rfl) Tryz.results22 (Nat.le_of_ble_eq_true (by kernel_rfl)) ?_
    conv => whnf
    repeat' (first | ((first | refine Split.mk (fun h => ?_) (fun h => ?_) | refine CondG.mk (fun h => ?_) (fun h => ?_)) <;> (try simp only [decide_eq_true_eq, decide_eq_false_iff_not, Bool.not_eq_true', Bool.not_eq_false', beq_iff_eq, beq_eq_false_iff_ne, bne_iff_ne, bne_eq_false_iff_eq] at h) <;> (first | (exfalso; first | omega | exact h trivial) | (conv => whnf))) | (refine CallX.mk _ _ (by first | exact hp) ?_; conv => whnf) | (refine CallG.mk _ _ (by first | exact hp) ?_; conv => whnf) | (refine Ask.mk (by first | omega | (unfold roomOK; simp [cutRows]; done) | (unfold roomOK; simp [cutRows]; omega) | (simp [cutRows]; done) | (simp [cutRows]; omega)) ?_; conv => whnf) | (refine AppG.mk (by first | omega | (unfold roomOK; simp [cutRows]; done) | (unfold roomOK; simp [cutRows]; omega) | (simp [cutRows]; done) | (simp [cutRows]; omega)) ?_; conv => whnf) | (refine SliceG.fr ?_; conv => whnf) | (refine idx_at _ (by with_reducible rfl) (by first | assumption | omega) ?_; conv => whnf) | ((with_reducible refine row_map (by first | assumption | omega) ?_); conv => whnf) | ((with_reducible refine row_set (by first | assumption | omega | (simp only [List.length_set]; omega) | (simp; omega)) ?_); conv => whnf) | fail)
    refine loop_for (down.length) [] [0, 8, 10, 28, 29, 30] (fun k (_ : Unit) => [(30, .c (.int .i64 (k : Int)))]) (fun k (_ : Unit) => [(0, smO ekB evT (putAll SM.nil (elsOf s (down.take k)) true))]) (fun k (_ : Unit) => True) (()) ?_
    conv => whnf
    refine ⟨(by first | rfl | (simp; done) | (simp; rfl)), (by trivial), ?_, ?_⟩
    · intro k _ hk _
      obtain ⟨i, hi, h2, h3, h4⟩ := hat _ (hd.has _ (List.getElem_mem hk))
      have hem : (s[i].els.map encS).length = s[i].els.length := List.length_map ..
      conv => whnf
      repeat' (first | ((first | refine Split.mk (fun h => ?_) (fun h => ?_) | refine CondG.mk (fun h => ?_) (fun h => ?_)) <;> (try simp only [decide_eq_true_eq, decide_eq_false_iff_not, Bool.not_eq_true', Bool.not_eq_false', beq_iff_eq, beq_eq_false_iff_ne, bne_iff_ne, bne_eq_false_iff_eq] at h) <;> (first | (exfalso; first | omega | exact h trivial) | (conv => whnf))) | (refine CallX.mk _ _ (by first | exact fFind_pc s hs.rise (by omega) _) ?_; conv => whnf) | (refine CallG.mk _ _ (by first | exact fFind_pc s hs.rise (by omega) _) ?_; conv => whnf) | (refine Ask.mk (by first | omega | (unfold roomOK; simp [cutRows]; done) | (unfold roomOK; simp [cutRows]; omega) | (simp [cutRows]; done) | (simp [cutRows]; omega)) ?_; conv => whnf) | (refine AppG.mk (by first | omega | (unfold roomOK; simp [cutRows]; done) | (unfold roomOK; simp [cutRows]; omega) | (simp [cutRows]; done) | (simp [cutRows]; omega)) ?_; conv => whnf) | (refine SliceG.fr ?_; conv => whnf) | (refine idx_at _ (by with_reducible rfl) (by first | assumption | omega) ?_; conv => whnf) | ((with_reducible refine row_map (by first | assumption | omega) ?_); conv => whnf) | ((with_reducible refine row_set (by first | assumption | omega | (simp only [List.length_set]; omega) | (simp; omega)) ?_); conv => whnf) | ((rw [h2]; refine idx_map i hi rfl ?_); conv => whnf) | fail)
      refine loop_for (s[i].els.length) [] [0, 8, 10, 28, 29, 30, 40, 41, 42] (fun j (_ : Unit) => [(42, .c (.int .i64 (j : Int)))]) (fun j (_ : Unit) => [(0, smO ekB evT (putAll (putAll SM.nil (elsOf s (down.take k)) true) (s[i].els.take j) true))]) (fun j (_ : Unit) => True) (()) ?_
      conv => whnf
      refine ⟨(by first | rfl | (simp; done) | (simp; rfl)), (by trivial), ?_, ?_⟩
      · intro j _ hj _
        conv => whnf
        repeat' (first | ((first | refine Split.mk (fun h => ?_) (fun h => ?_) | refine CondG.mk (fun h => ?_) (fun h => ?_)) <;> (try simp only [decide_eq_true_eq, decide_eq_false_iff_not, Bool.not_eq_true', Bool.not_eq_false', beq_iff_eq, beq_eq_false_iff_ne, bne_iff_ne, bne_eq_false_iff_eq] at h) <;> (first | (exfalso; first | omega | exact h trivial) | (conv => whnf))) | (refine Ask.mk (by first | omega | (unfold roomOK; simp [cutRows]; done) | (unfold roomOK; simp [cutRows]; omega) | (simp [cutRows]; done) | (simp [cutRows]; omega)) ?_; conv => whnf) | (refine AppG.mk (by first | omega | (unfold roomOK; simp [cutRows]; done) | (unfold roomOK; simp [cutRows]; omega) | (simp [cutRows]; done) | (simp [cutRows]; omega)) ?_; conv => whnf) | (refine SliceG.fr ?_; conv => whnf) | (refine idx_at _ (by with_reducible rfl) (by first | assumption | omega) ?_; conv => whnf) | ((with_reducible refine row_map (by first | assumption | omega) ?_); conv => whnf) | ((with_reducible refine row_set (by first | assumption | omega | (simp only [List.length_set]; omega) | (simp; omega)) ?_); conv => whnf) | ((with_reducible refine sm_look (ek := ekB) (ev := evT) keyStr _ _ (false) ?_ ?_); exact rfl; conv => whnf) | ((with_reducible refine sm_upd (ek := ekB) (ev := evT) keyStr _ _ true ?_); conv => whnf) | ((with_reducible refine sm_del (ek := ekB) (ev := evT) keyStr _ _ ?_); conv => whnf) | ((with_reducible refine sm_entry (ek := ekB) (ev := evT) keyStr _ _ (false) ?_ ?_); exact rfl; conv => whnf) | fail)
        exact count_next () hj (by rw [wrap_succ hj (by omega), putAll_succ _ _ hj]; rfl) trivial
      · intro _ _
        rw [List.take_length]
        conv => whnf
        repeat' (first | ((first | refine Split.mk (fun h => ?_) (fun h => ?_) | refine CondG.mk (fun h => ?_) (fun h => ?_)) <;> (try simp only [decide_eq_true_eq, decide_eq_false_iff_not, Bool.not_eq_true', Bool.not_eq_false', beq_iff_eq, beq_eq_false_iff_ne, bne_iff_ne, bne_eq_false_iff_eq] at h) <;> (first | (exfalso; first | omega | exact h trivial) | (conv => whnf))) | (refine Ask.mk (by first | omega | (unfold roomOK; simp [cutRows]; done) | (unfold roomOK; simp [cutRows]; omega) | (simp [cutRows]; done) | (simp [cutRows]; omega)) ?_; conv => whnf) | (refine AppG.mk (by first | omega | (unfold roomOK; simp [cutRows]; done) | (unfold roomOK; simp [cutRows]; omega) | (simp [cutRows]; done) | (simp [cutRows]; omega)) ?_; conv => whnf) | (refine SliceG.fr ?_; conv => whnf) | (refine idx_at _ (by with_reducible rfl) (by first | assumption | omega) ?_; conv => whnf) | ((with_reducible refine row_map (by first | assumption | omega) ?_); conv => whnf) | ((with_reducible refine row_set (by first | assumption | omega | (simp only [List.length_set]; omega) | (simp; omega)) ?_); conv => whnf) | fail)
        exact count_next () hk (by rw [wrap_succ hk (by omega), elsOf_succ s down hk, putAll_app, ← h3]; rfl) trivial
    · intro _ _
      rw [List.take_length]
      conv => whnf
      repeat' (first | ((first | refine Split.mk (fun h => ?_) (fun h => ?_) | refine CondG.mk (fun h => ?_) (fun h => ?_)) <;> (try simp only [decide_eq_true_eq, decide_eq_false_iff_not, Bool.not_eq_true', Bool.not_eq_false', beq_iff_eq, beq_eq_false_iff_ne, bne_iff_ne, bne_eq_false_iff_eq] at h) <;> (first | (exfalso; first | omega | exact h trivial) | (conv => whnf))) | (refine CallX.mk _ _ (by first | exact concatS_pc L k2 (fun q hq => Nat.le_trans (k3 q hq) (by decide))) ?_; conv => whnf) | (refine CallG.mk _ _ (by first | exact concatS_pc L k2 (fun q hq => Nat.le_trans (k3 q hq) (by decide))) ?_; conv => whnf) | (refine Ask.mk (by first | omega | (unfold roomOK; simp [cutRows]; done) | (unfold roomOK; simp [cutRows]; omega) | (simp [cutRows]; done) | (simp [cutRows]; omega)) ?_; conv => whnf) | (refine AppG.mk (by first | omega | (unfold roomOK; simp [cutRows]; done) | (unfold roomOK; simp [cutRows]; omega) | (simp [cutRows]; done) | (simp [cutRows]; omega)) ?_; conv => whnf) | (refine SliceG.fr ?_; conv => whnf) | (refine idx_at _ (by with_reducible rfl) (by first | assumption | omega) ?_; conv => whnf) | ((with_reducible refine row_map (by first | assumption | omega) ?_); conv => whnf) | ((with_reducible refine row_set (by first | assumption | omega | (simp only [List.length_set]; omega) | (simp; omega)) ?_); conv => whnf) | fail)
      refine loop_for (L.flatten.length) [] [10, 51, 52, 53] (fun k (_ : Unit) => [(53, .c (.int .i64 (k : Int)))]) (fun k (_ : Unit) => [(0, smO ekB evT (putAll (putAll SM.nil (elsOf s down) true) (L.flatten.take k) false))]) (fun k (_ : Unit) => True) (()) ?_
      conv => whnf
      refine ⟨(by first | rfl | (simp; done) | (simp; rfl)), (by trivial), ?_, ?_⟩
      · intro j _ hj _
        conv => whnf
        repeat' (first | ((first | refine Split.mk (fun h => ?_) (fun h => ?_) | refine CondG.mk (fun h => ?_) (fun h => ?_)) <;> (try simp only [decide_eq_true_eq, decide_eq_false_iff_not, Bool.not_eq_true', Bool.not_eq_false', beq_iff_eq, beq_eq_false_iff_ne, bne_iff_ne, bne_eq_false_iff_eq] at h) <;> (first | (exfalso; first | omega | exact h trivial) | (conv => whnf))) | (refine Ask.mk (by first | omega | (unfold roomOK; simp [cutRows]; done) | (unfold roomOK; simp [cutRows]; omega) | (simp [cutRows]; done) | (simp [cutRows]; omega)) ?_; conv => whnf) | (refine AppG.mk (by first | omega | (unfold roomOK; simp [cutRows]; done) | (unfold roomOK; simp [cutRows]; omega) | (simp [cutRows]; done) | (simp [cutRows]; omega)) ?_; conv => whnf) | (refine SliceG.fr ?_; conv => whnf) | (refine idx_at _ (by with_reducible rfl) (by first | assumption | omega) ?_; conv => whnf) | ((with_reducible refine row_map (by first | assumption | omega) ?_); conv => whnf) | ((with_reducible refine row_set (by first | assumption | omega | (simp only [List.length_set]; omega) | (simp; omega)) ?_); conv => whnf) | ((with_reducible refine sm_look (ek := ekB) (ev := evT) keyStr _ _ (false) ?_ ?_); exact rfl; conv => whnf) | ((with_reducible refine sm_upd (ek := ekB) (ev := evT) keyStr _ _ false ?_); conv => whnf) | ((with_reducible refine sm_del (ek := ekB) (ev := evT) keyStr _ _ ?_); conv => whnf) | ((with_reducible refine sm_entry (ek := ekB) (ev := evT) keyStr _ _ (false) ?_ ?_); exact rfl; conv => whnf) | fail)
        exact count_next () hj (by rw [wrap_succ hj (by omega), putAll_succ _ _ hj]; rfl) trivial
      · intro _ _
        rw [List.take_length]
        have hml : (clrM s down L).es.length ≤ 1000000 := by
          have h1 := putAll_len (b := false) L.flatten (putAll SM.nil (elsOf s down) true)
          have h2 := putAll_len (b := true) (elsOf s down) (SM.nil : MB)
          have h3 := elsOf_len hs hd.has
          have h5 : (SM.nil : MB).es.length = 0 := rfl
          unfold clrM; omega
        conv => whnf
        repeat' (first | ((first | refine Split.mk (fun h => ?_) (fun h => ?_) | refine CondG.mk (fun h => ?_) (fun h => ?_)) <;> (try simp only [decide_eq_true_eq, decide_eq_false_iff_not, Bool.not_eq_true', Bool.not_eq_false', beq_iff_eq, beq_eq_false_iff_ne, bne_iff_ne, bne_eq_false_iff_eq] at h) <;> (first | (exfalso; first | omega | exact h trivial) | (conv => whnf))) | (refine CallX.mk _ _ (by first | exact fRising_pc (clrM s down L) (clrM_ok ..) hml) ?_; conv => whnf) | (refine CallG.mk _ _ (by first | exact fRising_pc (clrM s down L) (clrM_ok ..) hml) ?_; conv => whnf) | (refine Ask.mk (by first | omega | (unfold roomOK; simp [cutRows]; done) | (unfold roomOK; simp [cutRows]; omega) | (simp [cutRows]; done) | (simp [cutRows]; omega)) ?_; conv => whnf) | (refine AppG.mk (by first | omega | (unfold roomOK; simp [cutRows]; done) | (unfold roomOK; simp [cutRows]; omega) | (simp [cutRows]; done) | (simp [cutRows]; omega)) ?_; conv => whnf) | (refine SliceG.fr ?_; conv => whnf) | (refine idx_at _ (by with_reducible rfl) (by first | assumption | omega) ?_; conv => whnf) | ((with_reducible refine row_map (by first | assumption | omega) ?_); conv => whnf) | ((with_reducible refine row_set (by first | assumption | omega | (simp only [List.length_set]; omega) | (simp; omega)) ?_); conv => whnf) | fail)
        first
          | exact .mk ⟨rfl, rfl⟩
          | exact .weak [] (.refl _) rfl (Nat.le_refl _)
          | exact .weak [_] (.refl _) rfl (Nat.le_refl _)
  · rw [if_neg h0]
    refine fn_sound (mt := mts) tab_fits tab_mixed Tryz.func22 (by rfl) (by kernel_rfl) (by kernel_rfl) Tryz.results22 (Nat.le_of_ble_eq_true (by kernel_rfl)) ?_
    conv => whnf
    repeat' (first | ((first | refine Split.mk (fun h => ?_) (fun h => ?_) | refine CondG.mk (fun h => ?_) (fun h => ?_)) <;> (try simp only [decide_eq_true_eq, decide_eq_false_iff_not, Bool.not_eq_true', Bool.not_eq_false', beq_iff_eq, beq_eq_false_iff_ne, bne_iff_ne, bne_eq_false_iff_eq] at h) <;> (first | (exfalso; first | omega | exact h trivial) | (conv => whnf))) | (refine CallX.mk _ _ (by first | exact hp) ?_; conv => whnf) | (refine CallG.mk _ _ (by first | exact hp) ?_; conv => whnf) | (refine Ask.mk (by first | omega | (unfold roomOK; simp [cutRows]; done) | (unfold roomOK; simp [cutRows]; omega) | (simp [cutRows]; done) | (simp [cutRows]; omega)) ?_; conv => whnf) | (refine AppG.mk (by first | omega | (unfold roomOK; simp [cutRows]; done) | (unfold roomOK; simp [cutRows]; omega) | (simp [cutRows]; done) | (simp [cutRows]; omega)) ?_; conv => whnf) | (refine SliceG.fr ?_; conv => whnf) | (refine idx_at _ (by with_reducible rfl) (by first | assumption | omega) ?_; conv => whnf) | ((with_reducible refine row_map (by first | assumption | omega) ?_); conv => whnf) | ((with_reducible refine row_set (by first | assumption | omega | (simp only [List.length_set]; omega) | (simp; omega)) ?_); conv => whnf) | fail)
    · refine .weak [] (.tup _ _ rfl ?_) rfl (Nat.le_refl _)
      intro i a b ha hb
      match i with
      | 0 => cases ha; cases hb; exact .nil 1
      | 1 => cases ha; cases hb; exact .refl _
    all_goals (exfalso; omega)
end Go.Proofs.YtllpjcgadfmipaaGreat

/- Plain: the least sets, few suspects; what broken elements affect. -/
namespace Go.Proofs.YtllpjcgadfmipaaGreat
set_option linter.unusedVariables false
set_option linter.unusedSimpArgs false
open Abs

theorem bestK_min (ns : List Nat) : ∀ k, ∀ x ∈ bestK ns k, goodM ns x = true ∧ ∀ m, m < k → goodM ns m = true → popc x ≤ popc m
  | 0, x, hx => by simp [bestK] at hx
  | k + 1, x, hx => by
    have ih := bestK_min ns k
    rw [bestK] at hx
    by_cases hg : goodM ns k = true
    · rw [if_pos hg] at hx
      have hall : (∀ y ∈ beforeB (bestK ns k) k, popc y ≤ popc k ∧ goodM ns y = true ∧ ∀ m, m < k → goodM ns m = true → popc y ≤ popc m) ∧ (beforeB (bestK ns k) k = [] → ∀ m, m < k → goodM ns m = true → popc k ≤ popc m) := by
        unfold beforeB
        cases hb : bestK ns k with
        | nil =>
          refine ⟨by simp, fun _ m hm hgm => ?_⟩
          have h1 : ∀ j, m < j → j ≤ k → bestK ns j ≠ [] := by
            intro j
            induction j with
            | zero => intro h; omega
            | succ j ihj =>
              intro h2 h3
              rcases Nat.lt_or_ge m j with h4 | h4
              · exact bestK_keep ns j (ihj h4 (by omega))
              · have : m = j := by omega
                subst this; exact bestK_good ns m hgm
          exact (h1 k hm (Nat.le_refl _) hb).elim
        | cons y r =>
          have hy := ih y (by rw [hb]; simp)
          simp only
          by_cases q : popc k < popc y
          · rw [if_pos q]
            exact ⟨by simp, fun _ m hm hgm => by have := hy.2 m hm hgm; omega⟩
          · rw [if_neg q]
            refine ⟨fun z hz => ?_, fun h => by cases h⟩
            have hz' := ih z (by rw [hb]; exact hz)
            have h3 := hz'.2 y ((bestK_lt ns k).1 y (by rw [hb]; simp)) hy.1
            exact ⟨by omega, hz'⟩
      generalize beforeB (bestK ns k) k = b at hx hall
      obtain ⟨h1, h2⟩ := hall
      have hk : x = k → (b = [] ∨ ∃ y r, b = y :: r ∧ popc k = popc y) → goodM ns x = true ∧ ∀ m, m < k + 1 → goodM ns m = true → popc x ≤ popc m := by
        rintro rfl hc
        refine ⟨hg, fun m hm hgm => ?_⟩
        rcases Nat.lt_or_ge m x with h4 | h4
        · rcases hc with hc | ⟨y, r, hc, e⟩
          · exact h2 hc m h4 hgm
          · have := (h1 y (by rw [hc]; simp)).2.2 m h4 hgm; omega
        · have : m = x := by omega
          subst this; exact Nat.le_refl _
      have hold : x ∈ b → goodM ns x = true ∧ ∀ m, m < k + 1 → goodM ns m = true → popc x ≤ popc m := by
        intro hb
        obtain ⟨e1, e2, e3⟩ := h1 x hb
        refine ⟨e2, fun m hm hgm => ?_⟩
        rcases Nat.lt_or_ge m k with h4 | h4
        · exact e3 m h4 hgm
        · have : m = k := by omega
          subst this; exact e1
      unfold withB at hx
      cases b with
      | nil =>
        simp only [List.mem_singleton] at hx
        exact hk hx (.inl rfl)
      | cons y r =>
        simp only at hx
        split at hx
        · rename_i e
          rcases List.mem_append.1 hx with h | h
          · exact hold h
          · rw [List.mem_singleton] at h; exact hk h (.inr ⟨y, r, rfl, e⟩)
        · exact hold hx
    · rw [if_neg hg] at hx
      obtain ⟨e1, e2⟩ := ih x hx
      refine ⟨e1, fun m hm hgm => ?_⟩
      rcases Nat.lt_or_ge m k with h4 | h4
      · exact e2 m h4 hgm
      · have : m = k := by omega
        subst this; exact (hg hgm).elim
def keyNames : List ByteArray := svNames.filter fun e => keyB e
theorem keyNames_len : keyNames.length = 8 := by decide +kernel
section
variable {s : List Sv} {down up : List ByteArray}
theorem elsOf_iff (hs : SvOk s) (hd : ∀ k ∈ down, hasSv s k = true) (x : ByteArray) : x ∈ elsOf s down ↔ ∃ y ∈ s, y.key ∈ down ∧ x ∈ y.els := by
  unfold elsOf
  rw [List.mem_flatMap]
  constructor
  · rintro ⟨k, h1, h2⟩
    obtain ⟨y, hy, hk⟩ := hasSv_iff.1 (hd k h1)
    exact ⟨y, hy, by rw [hk]; exact h1, by rw [← hk, svG_mem hs.rise hy] at h2; exact h2⟩
  · rintro ⟨y, hy, h1, h2⟩
    exact ⟨y.key, h1, by rw [svG_mem hs.rise hy]; exact h2⟩
theorem sus_small (hs : SvOk s) (hN : ∀ x ∈ s, ∀ e ∈ x.els, e ∈ svNames) (hd : StOkL s down) : (susV s down up).length ≤ 8 := by
  rw [← keyNames_len]
  refine nd_len (rise_nd (susV_rise s down up)) fun x hx => ?_
  obtain ⟨y, hy, _, h2⟩ := (elsOf_iff hs hd.has x).1 ((susV_mem s down up x).1 hx).1
  exact List.mem_filter.2 ⟨hN y hy x h2, (hs.each y hy).els x h2⟩
theorem explE_small {l : List ByteArray} (h : l.length ≤ 8) : explE s l down = 0 := by
  have h1 := (bestK_lt (needL s l down) (2 ^ l.length)).2
  have h2 : 2 ^ l.length ≤ 2 ^ 8 := Nat.pow_le_pow_right (by decide) h
  unfold explE
  rw [if_neg (by omega), if_neg]
  unfold bestL
  omega
/-- each explanation is of suspects, and meets what has any -/
theorem explV_set {l : List ByteArray} (hr : Rise id l) (h0 : explE s l down = 0) {q : List ByteArray} (hq : q ∈ explV s l down) :
    (∀ x ∈ q, x ∈ l) ∧ Rise id q ∧ q.length ≤ 14 ∧ (∀ k ∈ down, needsB s l k = true → needB s q k = true) ∧ (∀ q' ∈ explV s l down, q'.length = q.length) ∧
    ∀ b : List ByteArray, (∀ x ∈ b, x ∈ l) → b.Nodup → (∀ k ∈ down, needsB s l k = true → needB s b k = true) → q.length ≤ b.length := by
  have h14 : l.length ≤ 14 := by
    unfold explE at h0
    split at h0 <;> omega
  have hlt : ∀ m ∈ bestL s l down, m < 16384 := by
    intro m hm
    have := (bestK_lt (needL s l down) (2 ^ l.length)).1 m hm
    have := pow14 h14
    omega
  have hmem : ∀ {q : List ByteArray}, q ∈ explV s l down → ∃ m ∈ bestL s l down, pickM l m = q := by
    intro q hq
    unfold explV at hq
    rw [if_pos h0] at hq
    obtain ⟨m, hm, e⟩ := List.mem_map.1 hq
    exact ⟨m, (sortM_perm hlt).mem_iff.1 hm, e⟩
  have hmin := bestK_min (needL s l down) (2 ^ l.length)
  have hgood : ∀ m, goodM (needL s l down) m = true ↔ ∀ k ∈ down, needsB s l k = true → needB s (pickM l m) k = true := by
    intro m
    unfold goodM
    rw [Bool.not_eq_true', List.any_eq_false]
    constructor
    · intro h k hk hn
      have h1 := h (needO s l k) (List.mem_filter.2 ⟨List.mem_map.2 ⟨k, hk, rfl⟩, by simpa using (needO_zero s l k).2 hn⟩)
      exact (needO_pick s l k m).1 (by simpa using h1)
    · intro h n hn
      obtain ⟨hn1, hn2⟩ := List.mem_filter.1 hn
      obtain ⟨k, hk, rfl⟩ := List.mem_map.1 hn1
      rw [decide_eq_true_eq] at hn2
      have := (needO_pick s l k m).2 (h k hk ((needO_zero s l k).1 hn2))
      simpa using this
  obtain ⟨m, hm, rfl⟩ := hmem hq
  have hm2 : m < 2 ^ l.length := (bestK_lt (needL s l down) (2 ^ l.length)).1 m hm
  have hpm := popc_len h14 hm2
  refine ⟨fun x hx => by rw [pickM_F] at hx; exact pickF_mem l m hx, pickM_rise hr m, by have := pickM_len l m; omega, (hgood m).1 (hmin m hm).1, ?_, ?_⟩
  · intro q' hq'
    obtain ⟨m', hm', rfl⟩ := hmem hq'
    have hm2' : m' < 2 ^ l.length := (bestK_lt (needL s l down) (2 ^ l.length)).1 m' hm'
    have h1 := (hmin m hm).2 m' hm2' (hmin m' hm').1
    have h2 := (hmin m' hm').2 m hm2 (hmin m hm).1
    rw [popc_len h14 hm2', hpm]; omega
  · intro b hb hnd hbn
    -- the mask of b
    have hM := bitN_lt (fun x => decide (x ∈ b)) l l.length
    have hpick : ∀ x, x ∈ pickM l (bitN (fun x => decide (x ∈ b)) l l.length) ↔ x ∈ b := by
      intro x
      unfold pickM
      rw [setL_mem l _ l.length (Nat.le_refl _)]
      constructor
      · rintro ⟨i, hi, _, h1, rfl⟩
        rw [bitN_test, Bool.and_eq_true, decide_eq_true_eq, decide_eq_true_eq] at h1
        simpa [List.getD_eq_getElem?_getD, List.getElem?_eq_getElem hi] using h1.2
      · intro hx
        obtain ⟨i, hi, rfl⟩ := List.getElem_of_mem (hb x hx)
        refine ⟨i, hi, hi, ?_, rfl⟩
        rw [bitN_test, Bool.and_eq_true, decide_eq_true_eq, decide_eq_true_eq]
        refine ⟨hi, ?_⟩
        simpa [List.getD_eq_getElem?_getD, List.getElem?_eq_getElem hi] using hx
    have hg : goodM (needL s l down) (bitN (fun x => decide (x ∈ b)) l l.length) = true := by
      rw [hgood]
      intro k hk hn
      have h1 := hbn k hk hn
      unfold needB at h1 ⊢
      rw [List.any_eq_true] at h1 ⊢
      obtain ⟨x, hx, h2⟩ := h1
      exact ⟨x, hx, by rw [decide_eq_true_eq] at h2 ⊢; exact (hpick x).2 h2⟩
    have h1 := (hmin m hm).2 _ hM hg
    rw [hpm]
    refine Nat.le_trans h1 ?_
    rw [← popc_len h14 hM]
    exact nd_len (rise_nd (pickM_rise hr _)) fun x hx => (hpick x).1 hx
end
/-! what broken elements affect -/
def affK (s : List Sv) (b : List ByteArray) : List ByteArray := (affL s b).map Sv.key
theorem affK_mem {s : List Sv} (b : List ByteArray) (k : ByteArray) : k ∈ affK s b ↔ ∃ y ∈ s, y.key = k ∧ affP b y = true := by
  unfold affK affL
  rw [List.mem_map]
  constructor
  · rintro ⟨y, hy, e⟩; exact ⟨y, (List.mem_filter.1 hy).1, e, (List.mem_filter.1 hy).2⟩
  · rintro ⟨y, hy, e, h⟩; exact ⟨y, List.mem_filter.2 ⟨hy, h⟩, e⟩
theorem affP_iff (b : List ByteArray) (x : Sv) : affP b x = true ↔ ∃ k ∈ b, k ∈ x.els := by
  rw [← affP_comm]; simp [List.any_eq_true]
theorem key_one {s : List Sv} (hs : SvOk s) {x y : Sv} (hx : x ∈ s) (hy : y ∈ s) (h : x.key = y.key) : x = y := by
  have h1 := svG_mem hs.rise hx
  have h2 := svG_mem hs.rise hy
  rw [← h1, ← h2, h]
end Go.Proofs.YtllpjcgadfmipaaGreat

/- What broken elements affect, by the program; right services are made. -/
namespace Go.Proofs.YtllpjcgadfmipaaGreat
set_option linter.unusedVariables false
set_option linter.unusedSimpArgs false
open Abs

set_option maxRecDepth 100000 in
set_option maxHeartbeats 4000000 in
theorem fAffd_pc (s : List Sv) (hs : SvOk s) (b : List ByteArray) (hb : b.length ≤ 1000000) :
    PCp 43 [.c (.lst 3 (s.map encSv)), .c (.lst 1 (b.map encS))] [] (.tup [.c (.lst 1 ((affK s b).map encS)), .c (.int .i64 (affN s b))]) [] := by
  have hsm : (s.map encSv).length = s.length := List.length_map ..
  have hsl := hs.len
  have hx : ∀ x ∈ s, 1 ≤ x.cust ∧ x.cust ≤ 100000 := fun x h => (hs.each x h).cust
  have hK : affK s b = (affL s b).map Sv.key := rfl
  rw [hK]
  refine fn_sound (mt := mts) tab_fits tab_mixed Tryz.func43 (by rfl) (by kernel_rfl) (by kernel_rfl) Tryz.results43 (Nat.le_of_ble_eq_true (by kernel_rfl)) ?_
  conv => whnf
  refine loop_for (s.length) [.sl 4 9 1] [1, 4, 5, 8, 9, 10] (fun k (_ : Unit) => [(5, .c (.int .i64 (affN (s.take k) b))), (10, .c (.int .i64 (k : Int)))]) (fun k (_ : Unit) => [(0, .row 9 1 (((affL (s.take k) b).map Sv.key).map encS))]) (fun k (_ : Unit) => True) (()) ?_
  conv => whnf
  refine ⟨(by first | rfl | (simp; done) | (simp; rfl)), (by trivial), ?_, ?_⟩
  · intro k _ hk _
    have h1 := hx _ (List.getElem_mem hk)
    have hv := hs.each _ (List.getElem_mem hk)
    have hvl := hv.len
    have htl : (s.take k).length = k := by rw [List.length_take]; omega
    have h3 := affN_in (s := s.take k) (fun x hm => hx x (List.mem_of_mem_take hm)) b
    have h4 : (affL (s.take k) b).length ≤ (s.take k).length := List.length_filter_le (affP b) _
    have h5 : (((affL (s.take k) b).map Sv.key).map encS).length = (affL (s.take k) b).length := by simp
    have hN : affN (s.take (k + 1)) b = affN (s.take k) b + if affP b s[k] then s[k].cust else 0 := by
      unfold affN; rw [affL_succ s b hk]; unfold custN; rw [List.map_append, List.sum_append]; split <;> simp
    have hw : IntKind.i64.wrap (affN (s.take k) b + s[k].cust) = affN (s.take k) b + s[k].cust := wrap_in (by omega) (by omega)
    conv => whnf
    repeat' (first | ((first | refine Split.mk (fun h => ?_) (fun h => ?_) | refine CondG.mk (fun h => ?_) (fun h => ?_)) <;> (try simp only [decide_eq_true_eq, decide_eq_false_iff_not, Bool.not_eq_true', Bool.not_eq_false', beq_iff_eq, beq_eq_false_iff_ne, bne_iff_ne, bne_eq_false_iff_eq] at h) <;> (first | (exfalso; first | omega | exact h trivial) | (conv => whnf))) | (refine CallX.mk _ _ (by first | exact fMeets_pc b hb hv.rise (by omega)) ?_; conv => whnf) | (refine CallG.mk _ _ (by first | exact fMeets_pc b hb hv.rise (by omega)) ?_; conv => whnf) | (refine Ask.mk (by first | omega | (unfold roomOK; simp [cutRows]; done) | (unfold roomOK; simp [cutRows]; omega) | (simp [cutRows]; done) | (simp [cutRows]; omega)) ?_; conv => whnf) | (refine AppG.mk (by first | omega | (unfold roomOK; simp [cutRows]; done) | (unfold roomOK; simp [cutRows]; omega) | (simp [cutRows]; done) | (simp [cutRows]; omega)) ?_; conv => whnf) | (refine SliceG.fr ?_; conv => whnf) | (refine idx_at _ (by with_reducible rfl) (by first | assumption | omega) ?_; conv => whnf) | ((with_reducible refine row_map (by first | assumption | omega) ?_); conv => whnf) | ((with_reducible refine row_set (by first | assumption | omega | (simp only [List.length_set]; omega) | (simp; omega)) ?_); conv => whnf) | fail)
    all_goals have ha := affP_comm b s[k]
    · rename_i h
      rw [ha] at h
      rw [if_pos h] at hN
      exact count_next () hk (by rw [wrap_succ hk (by omega), hw, hN, affL_succ s b hk, if_pos h, List.map_append, List.map_append]; rfl) trivial
    · rename_i h
      rw [ha] at h
      rw [if_neg (by rw [h]; decide)] at hN
      exact count_next () hk (by rw [wrap_succ hk (by omega), hN, affL_succ s b hk, if_neg (by rw [h]; decide), List.append_nil, Int.add_zero]; rfl) trivial
  · intro _ _
    rw [List.take_length]
    conv => whnf
    repeat' (first | ((first | refine Split.mk (fun h => ?_) (fun h => ?_) | refine CondG.mk (fun h => ?_) (fun h => ?_)) <;> (try simp only [decide_eq_true_eq, decide_eq_false_iff_not, Bool.not_eq_true', Bool.not_eq_false', beq_iff_eq, beq_eq_false_iff_ne, bne_iff_ne, bne_eq_false_iff_eq] at h) <;> (first | (exfalso; first | omega | exact h trivial) | (conv => whnf))) | (refine Ask.mk (by first | omega | (unfold roomOK; simp [cutRows]; done) | (unfold roomOK; simp [cutRows]; omega) | (simp [cutRows]; done) | (simp [cutRows]; omega)) ?_; conv => whnf) | (refine AppG.mk (by first | omega | (unfold roomOK; simp [cutRows]; done) | (unfold roomOK; simp [cutRows]; omega) | (simp [cutRows]; done) | (simp [cutRows]; omega)) ?_; conv => whnf) | (refine SliceG.fr ?_; conv => whnf) | (refine idx_at _ (by with_reducible rfl) (by first | assumption | omega) ?_; conv => whnf) | ((with_reducible refine row_map (by first | assumption | omega) ?_); conv => whnf) | ((with_reducible refine row_set (by first | assumption | omega | (simp only [List.length_set]; omega) | (simp; omega)) ?_); conv => whnf) | fail)
    refine .frz 0 _ _ _ rfl (.weak [_] (.tup _ _ rfl ?_) rfl (Nat.le_refl _))
    intro i a b ha hb
    match i with
    | 0 => cases ha; cases hb; exact .fro 0 _ _ rfl
    | 1 => cases ha; cases hb; exact .refl _
/-! Affected, where the services are right -/
set_option maxRecDepth 100000 in
set_option maxHeartbeats 4000000 in
theorem fAffected_pc (s : List Sv) (hs0 : svFault s = 0) (b : List ByteArray) (hb : b.length ≤ 1000000) :
    PCp 9 [.c (.lst 3 (s.map encSv)), .c (.lst 1 (b.map encS))] [] (.tup [.c (.lst 1 ((if elsFault b = 0 then affK s b else []).map encS)), .c (.int .i64 (if elsFault b = 0 then affN s b else 0)), .c (.int .i64 (elsFault b))]) [] := by
  have hs := svFault_ok hs0
  have hx : ∀ x ∈ s, x.els.length ≤ 1000000 := fun x h => Nat.le_trans (hs.each x h).len (by decide)
  have hc := fSetFault_pc s hx b hb
  rw [show setErr s b = elsFault b by unfold setErr; rw [if_neg (by omega)]] at hc
  refine fn_sound (mt := mts) tab_fits tab_mixed Tryz.func9 (by rfl) (by kernel_rfl) (by kernel_rfl) Tryz.results9 (Nat.le_of_ble_eq_true (by kernel_rfl)) ?_
  conv => whnf
  repeat' (first | ((first | refine Split.mk (fun h => ?_) (fun h => ?_) | refine CondG.mk (fun h => ?_) (fun h => ?_)) <;> (try simp only [decide_eq_true_eq, decide_eq_false_iff_not, Bool.not_eq_true', Bool.not_eq_false', beq_iff_eq, beq_eq_false_iff_ne, bne_iff_ne, bne_eq_false_iff_eq] at h) <;> (first | (exfalso; first | omega | exact h trivial) | (conv => whnf))) | (refine CallX.mk _ _ (by first | exact hc | exact fAffd_pc s hs b hb) ?_; conv => whnf) | (refine CallG.mk _ _ (by first | exact hc | exact fAffd_pc s hs b hb) ?_; conv => whnf) | (refine Ask.mk (by first | omega | (unfold roomOK; simp [cutRows]; done) | (unfold roomOK; simp [cutRows]; omega) | (simp [cutRows]; done) | (simp [cutRows]; omega)) ?_; conv => whnf) | (refine AppG.mk (by first | omega | (unfold roomOK; simp [cutRows]; done) | (unfold roomOK; simp [cutRows]; omega) | (simp [cutRows]; done) | (simp [cutRows]; omega)) ?_; conv => whnf) | (refine SliceG.fr ?_; conv => whnf) | (refine idx_at _ (by with_reducible rfl) (by first | assumption | omega) ?_; conv => whnf) | ((with_reducible refine row_map (by first | assumption | omega) ?_); conv => whnf) | ((with_reducible refine row_set (by first | assumption | omega | (simp only [List.length_set]; omega) | (simp; omega)) ?_); conv => whnf) | fail)
  · rw [if_neg (by assumption), if_neg (by assumption)]
    refine .weak [] (.tup _ _ rfl ?_) rfl (Nat.le_refl _)
    intro i a b ha hb
    match i with
    | 0 => cases ha; cases hb; exact .nil 1
    | 1 => cases ha; cases hb; exact .refl _
    | 2 => cases ha; cases hb; exact .refl _
  · have h0 : elsFault b = 0 := by assumption
    rw [if_pos h0, if_pos h0, h0]
    exact .mk ⟨rfl, rfl⟩
set_option maxRecDepth 100000 in
set_option maxHeartbeats 4000000 in
theorem rRightS_pc {L : List Int} {p : Int} (hst : StOk L p) (hp : p ≤ 700000000) :
    PCq 7 [.c (.ptr 0 0)] [stO L p] fun r os => ∃ (l : List Sv) (p' : Int), r = .c (.lst 3 (l.map encSv)) ∧ os = [stO L p'] ∧ svFault l = 0 ∧ l.length ≤ 6 ∧ (∀ x ∈ l, SvG x) ∧ p ≤ p' ∧ p' ≤ p + 500 := by
  have hS : ∀ x : Int, p ≤ x → x ≤ p + 1000 → StOk L x := fun x h3 h4 => ⟨hst.1, by have := hst.2.1; omega, by omega⟩
  refine fn_soundX (mt := mts) tab_fits tab_mixed Tryz.func7 (by rfl) (by kernel_rfl) (by kernel_rfl) Tryz.results7 (Nat.le_of_ble_eq_true (by kernel_rfl)) ?_
  conv => whnf
  refine loop_for (5) [] [0, 4] (fun k (q : Int) => [(4, .c (.int .i64 (k : Int)))]) (fun k (q : Int) => [(0, stO L q)]) (fun k (q : Int) => p ≤ q ∧ q ≤ p + 100 * k) (p) ?_
  conv => whnf
  refine ⟨(by first | rfl | (simp; done) | (simp; rfl)), ?_, ?_, ?_⟩
  · exact ⟨by omega, by omega⟩
  · intro k q hk ⟨h1, h2⟩
    conv => whnf
    repeat' (first | ((first | refine Split.mk (fun h => ?_) (fun h => ?_) | refine CondG.mk (fun h => ?_) (fun h => ?_)) <;> (try simp only [decide_eq_true_eq, decide_eq_false_iff_not, Bool.not_eq_true', Bool.not_eq_false', beq_iff_eq, beq_eq_false_iff_ne, bne_iff_ne, bne_eq_false_iff_eq] at h) <;> (first | (exfalso; first | omega | exact h trivial) | (conv => whnf))) | (refine Ask.mk (by first | omega | (unfold roomOK; simp [cutRows]; done) | (unfold roomOK; simp [cutRows]; omega) | (simp [cutRows]; done) | (simp [cutRows]; omega)) ?_; conv => whnf) | (refine AppG.mk (by first | omega | (unfold roomOK; simp [cutRows]; done) | (unfold roomOK; simp [cutRows]; omega) | (simp [cutRows]; done) | (simp [cutRows]; omega)) ?_; conv => whnf) | (refine SliceG.fr ?_; conv => whnf) | (refine idx_at _ (by with_reducible rfl) (by first | assumption | omega) ?_; conv => whnf) | ((with_reducible refine row_map (by first | assumption | omega) ?_); conv => whnf) | ((with_reducible refine row_set (by first | assumption | omega | (simp only [List.length_set]; omega) | (simp; omega)) ?_); conv => whnf) | fail)
    refine .ex _ (rServices_pc (hS q (by omega) (by omega)) (by omega)) ?_
    rintro _ _ ⟨l, p', rfl, rfl, g1, g2, g3, g4⟩
    have hx : ∀ x ∈ l, x.els.length ≤ 1000000 := fun x hm => Nat.le_trans (g2 x hm).1 (by decide)
    conv => whnf
    repeat' (first | ((first | refine Split.mk (fun h => ?_) (fun h => ?_) | refine CondG.mk (fun h => ?_) (fun h => ?_)) <;> (try simp only [decide_eq_true_eq, decide_eq_false_iff_not, Bool.not_eq_true', Bool.not_eq_false', beq_iff_eq, beq_eq_false_iff_ne, bne_iff_ne, bne_eq_false_iff_eq] at h) <;> (first | (exfalso; first | omega | exact h trivial) | (conv => whnf))) | (refine CallX.mk _ _ (by first | exact rServicesFault_pc l hx) ?_; conv => whnf) | (refine CallG.mk _ _ (by first | exact rServicesFault_pc l hx) ?_; conv => whnf) | (refine Ask.mk (by first | omega | (unfold roomOK; simp [cutRows]; done) | (unfold roomOK; simp [cutRows]; omega) | (simp [cutRows]; done) | (simp [cutRows]; omega)) ?_; conv => whnf) | (refine AppG.mk (by first | omega | (unfold roomOK; simp [cutRows]; done) | (unfold roomOK; simp [cutRows]; omega) | (simp [cutRows]; done) | (simp [cutRows]; omega)) ?_; conv => whnf) | (refine SliceG.fr ?_; conv => whnf) | (refine idx_at _ (by with_reducible rfl) (by first | assumption | omega) ?_; conv => whnf) | ((with_reducible refine row_map (by first | assumption | omega) ?_); conv => whnf) | ((with_reducible refine row_set (by first | assumption | omega | (simp only [List.length_set]; omega) | (simp; omega)) ?_); conv => whnf) | fail)
    · exact .mk _ _ ⟨l, p', rfl, rfl, by assumption, g1, g2, by omega, by omega⟩ (.mk ⟨rfl, rfl⟩)
    · exact count_next p' hk (by rw [wrap_succ hk (by omega)]; rfl) ⟨by omega, by omega⟩
  · intro q ⟨h1, h2⟩
    conv => whnf
    repeat' (first | ((first | refine Split.mk (fun h => ?_) (fun h => ?_) | refine CondG.mk (fun h => ?_) (fun h => ?_)) <;> (try simp only [decide_eq_true_eq, decide_eq_false_iff_not, Bool.not_eq_true', Bool.not_eq_false', beq_iff_eq, beq_eq_false_iff_ne, bne_iff_ne, bne_eq_false_iff_eq] at h) <;> (first | (exfalso; first | omega | exact h trivial) | (conv => whnf))) | (refine Ask.mk (by first | omega | (unfold roomOK; simp [cutRows]; done) | (unfold roomOK; simp [cutRows]; omega) | (simp [cutRows]; done) | (simp [cutRows]; omega)) ?_; conv => whnf) | (refine AppG.mk (by first | omega | (unfold roomOK; simp [cutRows]; done) | (unfold roomOK; simp [cutRows]; omega) | (simp [cutRows]; done) | (simp [cutRows]; omega)) ?_; conv => whnf) | (refine SliceG.fr ?_; conv => whnf) | (refine idx_at _ (by with_reducible rfl) (by first | assumption | omega) ?_; conv => whnf) | ((with_reducible refine row_map (by first | assumption | omega) ?_); conv => whnf) | ((with_reducible refine row_set (by first | assumption | omega | (simp only [List.length_set]; omega) | (simp; omega)) ?_); conv => whnf) | fail)
    refine .mk _ _ ⟨[], q, rfl, rfl, by decide, by simp, by simp, by omega, by omega⟩ (.weak [] (.nil 3) rfl (Nat.le_refl _))
end Go.Proofs.YtllpjcgadfmipaaGreat

/- Plain: what is broken is suspect. -/
namespace Go.Proofs.YtllpjcgadfmipaaGreat
set_option linter.unusedVariables false
set_option linter.unusedSimpArgs false
open Abs

theorem seqErr_nil {α : Type} {e : Bool → ByteArray → α → Int} {key : α → ByteArray} : ∀ {l : List α} {f : Bool} {b : ByteArray}, Rise key l → (∀ x ∈ l, e true ⟨#[]⟩ x = 0 ∧ ∀ b, ltB b (key x) = true → e false b x = 0) → (∀ x, l.head? = some x → e f b x = 0) → seqErr e key f b l = 0
  | [], _, _, _, _, _ => rfl
  | a :: r, f, b, hr, h, h0 => by
    have h1 := h0 a rfl
    have hr' := List.pairwise_cons.1 hr
    have ih := seqErr_nil (l := r) (f := false) (b := key a) hr'.2 (fun x hx => h x (by simp [hx])) (fun x hx => (h x (by cases r with | nil => simp at hx | cons c t => simp at hx; simp [hx])).2 _ (hr'.1 x (by cases r with | nil => simp at hx | cons c t => simp at hx; simp [hx])))
    rw [seqErr, if_pos h1]; exact ih
section
variable {s : List Sv} {b : List ByteArray}
end
end Go.Proofs.YtllpjcgadfmipaaGreat

/- The document: what to ask. -/
namespace Go.Proofs.YtllpjcgadfmipaaGreat
set_option linter.unusedVariables false
set_option linter.unusedSimpArgs false
open Abs

theorem askK_low (s : List Sv) (L : List (List ByteArray)) (p : Sv → Bool) : ∀ (k : Nat) (b w : Nat), askK s L p k = some (b, w) → w < L.length
  | 0, b, w, h => by cases h
  | k + 1, b, w, h => by
    have ih := askK_low s L p k b w
    by_cases hk : k < s.length
    · rw [askK_succ s L p hk] at h
      split at h
      · exact ih h
      · split at h
        · rename_i hI
          cases h
          cases hst : askK s L p k with
          | none => rw [hst] at hI; simpa [askIf] using hI
          | some q => rw [hst] at hI; simp only [askIf, Bool.and_eq_true, decide_eq_true_eq] at hI; exact hI.1
        · exact ih h
    · rw [askK, List.getElem?_eq_none (by omega)] at h
      exact ih h
end Go.Proofs.YtllpjcgadfmipaaGreat
