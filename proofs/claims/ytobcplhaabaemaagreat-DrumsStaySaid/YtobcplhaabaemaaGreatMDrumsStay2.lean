/- Parts of the proof, in order. -/
import Derived.Test.YtobcplhaabaemaaGreatMDrumsStay1

/- A store with one drum, by the abstract walk. -/
namespace Go.Proofs.YtobcplhaabaemaaGreat
set_option linter.unusedVariables false
set_option linter.unusedSimpArgs false
open Abs

/-- a first drum comes -/
abbrev stBox : Ob := .box [.mp 1, .mp 2]
set_option maxRecDepth 100000 in
set_option maxHeartbeats 4000000 in
theorem take1_pc (x : Ac) (hk : x.kd = 1) : PCp 119 [.c (.ptr 0 0), .agg (encAc x)] [stBox, .map 0 [], .map 0 []] (.tup [.c (.str x.ty), .c (.int .i64 0)]) [stBox, .map 1 [(0, .c (.str x.drum), .agg [.str x.ty, .int .i64 x.long])], .map 1 [(0, .c (.str x.drum), .c (.str x.ty))]] := by
  refine fn_sound (mt := mts) tab_fits tab_mixed Tryz.func119 (by rfl) (by kernel_rfl) (by kernel_rfl) Tryz.results119 (Nat.le_of_ble_eq_true (by kernel_rfl)) ?_
  conv => whnf
  repeat (refine .mk _ _ (.inr ⟨rfl, rfl, rfl⟩) ?_; conv => whnf)
  repeat' (first | ((first | refine Split.mk (fun h => ?_) (fun h => ?_) | refine CondG.mk (fun h => ?_) (fun h => ?_)) <;> (try simp only [decide_eq_true_eq, decide_eq_false_iff_not, Bool.not_eq_true', Bool.not_eq_false', beq_iff_eq, beq_eq_false_iff_ne] at h) <;> (first | (exfalso; first | omega | exact h trivial) | (conv => whnf))) | (refine Ask.mk (by first | omega | (unfold roomOK; simp [cutRows]; done) | (unfold roomOK; simp [cutRows]; omega)) ?_; conv => whnf) | (refine AppG.mk (by first | omega | (unfold roomOK; simp [cutRows]; done) | (unfold roomOK; simp [cutRows]; omega)) ?_; conv => whnf) | (refine SliceG.fr ?_; conv => whnf) | fail)
  · cases h
  refine .mk _ _ _ _ (.inr ⟨rfl, rfl, rfl, rfl, rfl⟩) ?_
  conv => whnf
  refine .mk 0 0 _ _ ⟨rfl, rfl, by intro i hi; omega⟩ ?_
  conv => whnf
  refine .mk _ _ _ _ (.inr ⟨rfl, rfl, rfl, rfl, rfl⟩) ?_
  conv => whnf
  refine .mk 0 0 _ _ ⟨rfl, rfl, by intro i hi; omega⟩ ?_
  conv => whnf
  exact .mk ⟨rfl, rfl⟩
/-- a store with one drum -/
abbrev stOne (x : Ac) : List Ob := [stBox, .map 1 [(0, .c (.str x.drum), .agg [.str x.ty, .int .i64 x.long])], .map 1 [(0, .c (.str x.drum), .c (.str x.ty))]]
set_option maxRecDepth 100000 in
set_option maxHeartbeats 4000000 in
theorem at1_pc (x : Ac) (a b : Int) (s : ByteArray) : PCp 88 [.c (.ptr 0 0), .c (.int .i64 a), .c (.str s), .c (.int .i64 b)] (stOne x) (.tup []) (stOne x) := by
  refine fn_sound (mt := mts) tab_fits tab_mixed Tryz.func88 (by rfl) (by kernel_rfl) (by kernel_rfl) Tryz.results88 (Nat.le_of_ble_eq_true (by kernel_rfl)) ?_
  conv => whnf
  exact .mk ⟨rfl, rfl⟩
set_option maxRecDepth 100000 in
set_option maxHeartbeats 4000000 in
theorem follow1_pc (x : Ac) (hk : x.kd = 1) : PCp 87 [.c (.lst 6 [encAc x]), .c (.fn 88 [])] [] (.c (.ptr 0 0)) (stOne x) := by
  refine fn_sound (mt := mts) tab_fits tab_mixed Tryz.func87 (by rfl) (by kernel_rfl) (by kernel_rfl) Tryz.results87 (Nat.le_of_ble_eq_true (by kernel_rfl)) ?_
  conv => whnf
  refine .un 2 ?_
  conv => whnf
  repeat' (first | ((first | refine Split.mk (fun h => ?_) (fun h => ?_) | refine CondG.mk (fun h => ?_) (fun h => ?_)) <;> (try simp only [decide_eq_true_eq, decide_eq_false_iff_not, Bool.not_eq_true', Bool.not_eq_false', beq_iff_eq, beq_eq_false_iff_ne] at h) <;> (first | (exfalso; first | omega | exact h trivial) | (conv => whnf))) | (refine Ask.mk (by first | omega | (unfold roomOK; simp [cutRows]; done) | (unfold roomOK; simp [cutRows]; omega)) ?_; conv => whnf) | (refine AppG.mk (by first | omega | (unfold roomOK; simp [cutRows]; done) | (unfold roomOK; simp [cutRows]; omega)) ?_; conv => whnf) | (refine SliceG.fr ?_; conv => whnf) | fail)
  rotate_left
  · exact absurd h (by simp)
  refine .mk (encAc x) ⟨by simp, rfl⟩ ?_
  conv => whnf
  repeat' (first | ((first | refine Split.mk (fun h => ?_) (fun h => ?_) | refine CondG.mk (fun h => ?_) (fun h => ?_)) <;> (try simp only [decide_eq_true_eq, decide_eq_false_iff_not, Bool.not_eq_true', Bool.not_eq_false', beq_iff_eq, beq_eq_false_iff_ne] at h) <;> (first | (exfalso; first | omega | exact h trivial) | (conv => whnf))) | (refine CallX.mk _ _ (by first | exact take1_pc x hk | exact at1_pc x _ _ _) ?_; conv => whnf) | (refine CallG.mk _ _ (by first | exact take1_pc x hk | exact at1_pc x _ _ _) ?_; conv => whnf) | (refine Ask.mk (by first | omega | (unfold roomOK; simp [cutRows]; done) | (unfold roomOK; simp [cutRows]; omega)) ?_; conv => whnf) | (refine AppG.mk (by first | omega | (unfold roomOK; simp [cutRows]; done) | (unfold roomOK; simp [cutRows]; omega)) ?_; conv => whnf) | (refine SliceG.fr ?_; conv => whnf) | fail)
  · exact absurd h (by show ¬ ((1 : Int) < 1); decide)
  · exact .mk ⟨rfl, rfl⟩
set_option maxRecDepth 100000 in
set_option maxHeartbeats 4000000 in
theorem at_pc (x : Ac) (hk : x.kd = 1) (hx : actErr x = 0) (m : Int) (hm : x.mo ≤ m) (hmm : momB m = true) : PCp 53 [.c (.lst 6 [encAc x]), .c (.int .i64 m)] [] (.tup [.c (.ptr 0 0), .c (.int .i64 0)]) (stOne x) := by
  have hc : actsFault [x] = 0 := by simp [actsFault, actsErr, hx, badPrev]
  refine fn_sound (mt := mts) tab_fits tab_mixed Tryz.func53 (by rfl) (by kernel_rfl) (by kernel_rfl) Tryz.results53 (Nat.le_of_ble_eq_true (by kernel_rfl)) ?_
  conv => whnf
  repeat' (first | ((first | refine Split.mk (fun h => ?_) (fun h => ?_) | refine CondG.mk (fun h => ?_) (fun h => ?_)) <;> (try simp only [decide_eq_true_eq, decide_eq_false_iff_not, Bool.not_eq_true', Bool.not_eq_false', beq_iff_eq, beq_eq_false_iff_ne] at h) <;> (first | (exfalso; first | omega | exact h trivial) | (conv => whnf))) | (refine CallX.mk _ _ (by first | exact checkActs_pc [x] | exact bMoment_pc _) ?_; conv => whnf) | (refine CallG.mk _ _ (by first | exact checkActs_pc [x] | exact bMoment_pc _) ?_; conv => whnf) | (refine Ask.mk (by first | omega | (unfold roomOK; simp [cutRows]; done) | (unfold roomOK; simp [cutRows]; omega)) ?_; conv => whnf) | (refine AppG.mk (by first | omega | (unfold roomOK; simp [cutRows]; done) | (unfold roomOK; simp [cutRows]; omega)) ?_; conv => whnf) | (refine SliceG.fr ?_; conv => whnf) | fail)
  · rw [hc] at h; cases h
  · rw [hmm] at h; cases h
  refine .un 1 ?_
  conv => whnf
  repeat' (first | ((first | refine Split.mk (fun h => ?_) (fun h => ?_) | refine CondG.mk (fun h => ?_) (fun h => ?_)) <;> (try simp only [decide_eq_true_eq, decide_eq_false_iff_not, Bool.not_eq_true', Bool.not_eq_false', beq_iff_eq, beq_eq_false_iff_ne] at h) <;> (first | (exfalso; first | omega | exact h trivial) | (conv => whnf))) | (refine Ask.mk (by first | omega | (unfold roomOK; simp [cutRows]; done) | (unfold roomOK; simp [cutRows]; omega)) ?_; conv => whnf) | (refine AppG.mk (by first | omega | (unfold roomOK; simp [cutRows]; done) | (unfold roomOK; simp [cutRows]; omega)) ?_; conv => whnf) | (refine SliceG.fr ?_; conv => whnf) | fail)
  · refine .mk (encAc x) ⟨by show (0 : Int) ≤ 0; decide, rfl⟩ ?_
    conv => whnf
    repeat' (first | ((first | refine Split.mk (fun h => ?_) (fun h => ?_) | refine CondG.mk (fun h => ?_) (fun h => ?_)) <;> (try simp only [decide_eq_true_eq, decide_eq_false_iff_not, Bool.not_eq_true', Bool.not_eq_false', beq_iff_eq, beq_eq_false_iff_ne] at h) <;> (first | (exfalso; first | omega | exact h trivial) | (conv => whnf))) | (refine CallX.mk _ _ (by first | exact follow1_pc x hk) ?_; conv => whnf) | (refine CallG.mk _ _ (by first | exact follow1_pc x hk) ?_; conv => whnf) | (refine Ask.mk (by first | omega | (unfold roomOK; simp [cutRows]; done) | (unfold roomOK; simp [cutRows]; omega)) ?_; conv => whnf) | (refine AppG.mk (by first | omega | (unfold roomOK; simp [cutRows]; done) | (unfold roomOK; simp [cutRows]; omega)) ?_; conv => whnf) | (refine SliceG.fr ?_; conv => whnf) | fail)
    exact .mk ⟨rfl, rfl⟩
  · exact absurd (by simp) h

end Go.Proofs.YtobcplhaabaemaaGreat

/- A list of one drum is sorted. -/
namespace Go.Proofs.YtobcplhaabaemaaGreat
set_option linter.unusedVariables false
set_option linter.unusedSimpArgs false
open Abs

set_option maxRecDepth 100000 in
set_option maxHeartbeats 4000000 in
theorem len64_pc : PCp 129 [.c (.int .u64 1)] [] (.c (.int .i64 1)) [] := by
  refine fn_sound (mt := mts) tab_fits tab_mixed Tryz.func129 (by rfl) (by kernel_rfl) (by kernel_rfl) Tryz.results129 (Nat.le_of_ble_eq_true (by kernel_rfl)) ?_
  conv => whnf
  repeat' (first | ((first | refine Split.mk (fun h => ?_) (fun h => ?_) | refine CondG.mk (fun h => ?_) (fun h => ?_)) <;> (try simp only [decide_eq_true_eq, decide_eq_false_iff_not, Bool.not_eq_true', Bool.not_eq_false', beq_iff_eq, beq_eq_false_iff_ne] at h) <;> (first | (exfalso; first | omega | exact h trivial) | (conv => whnf))) | (refine Ask.mk (by first | omega | (unfold roomOK; simp [cutRows]; done) | (unfold roomOK; simp [cutRows]; omega)) ?_; conv => whnf) | (refine AppG.mk (by first | omega | (unfold roomOK; simp [cutRows]; done) | (unfold roomOK; simp [cutRows]; omega)) ?_; conv => whnf) | (refine SliceG.fr ?_; conv => whnf) | fail)
  all_goals first | (exfalso; revert h; decide) | skip
  refine .mk (by decide +kernel) ?_
  conv => whnf
  exact fini (by decide +kernel)
set_option maxRecDepth 100000 in
set_option maxHeartbeats 4000000 in
theorem len_pc : PCp 90 [.c (.int .u64 1)] [] (.c (.int .i64 1)) [] := by
  refine fn_sound (mt := mts) tab_fits tab_mixed Tryz.func90 (by rfl) (by kernel_rfl) (by kernel_rfl) Tryz.results90 (Nat.le_of_ble_eq_true (by kernel_rfl)) ?_
  conv => whnf
  repeat' (first | ((first | refine Split.mk (fun h => ?_) (fun h => ?_) | refine CondG.mk (fun h => ?_) (fun h => ?_)) <;> (try simp only [decide_eq_true_eq, decide_eq_false_iff_not, Bool.not_eq_true', Bool.not_eq_false', beq_iff_eq, beq_eq_false_iff_ne] at h) <;> (first | (exfalso; first | omega | exact h trivial) | (conv => whnf))) | (refine CallX.mk _ _ (by first | exact len64_pc) ?_; conv => whnf) | (refine CallG.mk _ _ (by first | exact len64_pc) ?_; conv => whnf) | (refine Ask.mk (by first | omega | (unfold roomOK; simp [cutRows]; done) | (unfold roomOK; simp [cutRows]; omega)) ?_; conv => whnf) | (refine AppG.mk (by first | omega | (unfold roomOK; simp [cutRows]; done) | (unfold roomOK; simp [cutRows]; omega)) ?_; conv => whnf) | (refine SliceG.fr ?_; conv => whnf) | fail)
  exact fini rfl
set_option maxRecDepth 100000 in
set_option maxHeartbeats 4000000 in
theorem ins1_pc (r : List V) (g : Nat) : PCp 120 [.c (.row 0), .c (.int .i64 0), .c (.int .i64 1), .c (.fn g [])] [.row 52 3 [r]] (.tup []) [.row 52 3 [r]] := by
  refine fn_sound (mt := mts) tab_fits tab_mixed Tryz.func120 (by rfl) (by kernel_rfl) (by kernel_rfl) Tryz.results120 (Nat.le_of_ble_eq_true (by kernel_rfl)) ?_
  conv => whnf
  refine .un 1 ?_
  conv => whnf
  repeat' (first | ((first | refine Split.mk (fun h => ?_) (fun h => ?_) | refine CondG.mk (fun h => ?_) (fun h => ?_)) <;> (try simp only [decide_eq_true_eq, decide_eq_false_iff_not, Bool.not_eq_true', Bool.not_eq_false', beq_iff_eq, beq_eq_false_iff_ne] at h) <;> (first | (exfalso; first | omega | exact h trivial) | (conv => whnf))) | (refine Ask.mk (by first | omega | (unfold roomOK; simp [cutRows]; done) | (unfold roomOK; simp [cutRows]; omega)) ?_; conv => whnf) | (refine AppG.mk (by first | omega | (unfold roomOK; simp [cutRows]; done) | (unfold roomOK; simp [cutRows]; omega)) ?_; conv => whnf) | (refine SliceG.fr ?_; conv => whnf) | fail)
  all_goals first | exact .mk ⟨rfl, rfl⟩ | (exfalso; revert h; decide)
set_option maxRecDepth 100000 in
set_option maxHeartbeats 4000000 in
theorem pdq1_pc (r : List V) (g : Nat) : PCp 89 [.c (.row 0), .c (.int .i64 0), .c (.int .i64 1), .c (.int .i64 1), .c (.fn g [])] [.row 52 3 [r]] (.tup []) [.row 52 3 [r]] := by
  refine fn_sound (mt := mts) tab_fits tab_mixed Tryz.func89 (by rfl) (by kernel_rfl) (by kernel_rfl) Tryz.results89 (Nat.le_of_ble_eq_true (by kernel_rfl)) ?_
  conv => whnf
  refine .un 1 ?_
  conv => whnf
  repeat' (first | ((first | refine Split.mk (fun h => ?_) (fun h => ?_) | refine CondG.mk (fun h => ?_) (fun h => ?_)) <;> (try simp only [decide_eq_true_eq, decide_eq_false_iff_not, Bool.not_eq_true', Bool.not_eq_false', beq_iff_eq, beq_eq_false_iff_ne] at h) <;> (first | (exfalso; first | omega | exact h trivial) | (conv => whnf))) | (refine CallX.mk _ _ (by first | exact ins1_pc _ _) ?_; conv => whnf) | (refine CallG.mk _ _ (by first | exact ins1_pc _ _) ?_; conv => whnf) | (refine Ask.mk (by first | omega | (unfold roomOK; simp [cutRows]; done) | (unfold roomOK; simp [cutRows]; omega)) ?_; conv => whnf) | (refine AppG.mk (by first | omega | (unfold roomOK; simp [cutRows]; done) | (unfold roomOK; simp [cutRows]; omega)) ?_; conv => whnf) | (refine SliceG.fr ?_; conv => whnf) | fail)
  all_goals first | exact .mk ⟨rfl, rfl⟩ | (exfalso; revert h; decide) | (exfalso; rename_i h2; revert h2; decide)
set_option maxRecDepth 100000 in
set_option maxHeartbeats 4000000 in
theorem sort1_pc (r : List V) (g : Nat) : PCp 54 [.c (.row 0), .c (.fn g [])] [.row 52 3 [r]] (.tup []) [.row 52 3 [r]] := by
  refine fn_sound (mt := mts) tab_fits tab_mixed Tryz.func54 (by rfl) (by kernel_rfl) (by kernel_rfl) Tryz.results54 (Nat.le_of_ble_eq_true (by kernel_rfl)) ?_
  conv => whnf
  repeat' (first | ((first | refine Split.mk (fun h => ?_) (fun h => ?_) | refine CondG.mk (fun h => ?_) (fun h => ?_)) <;> (try simp only [decide_eq_true_eq, decide_eq_false_iff_not, Bool.not_eq_true', Bool.not_eq_false', beq_iff_eq, beq_eq_false_iff_ne] at h) <;> (first | (exfalso; first | omega | exact h trivial) | (conv => whnf))) | (refine CallX.mk _ _ (by first | exact len_pc | exact pdq1_pc _ _) ?_; conv => whnf) | (refine CallG.mk _ _ (by first | exact len_pc | exact pdq1_pc _ _) ?_; conv => whnf) | (refine Ask.mk (by first | omega | (unfold roomOK; simp [cutRows]; done) | (unfold roomOK; simp [cutRows]; omega)) ?_; conv => whnf) | (refine AppG.mk (by first | omega | (unfold roomOK; simp [cutRows]; done) | (unfold roomOK; simp [cutRows]; omega)) ?_; conv => whnf) | (refine SliceG.fr ?_; conv => whnf) | fail)
  exact .mk ⟨rfl, rfl⟩
set_option maxRecDepth 100000 in
set_option maxHeartbeats 4000000 in
theorem stock_pc (x : Ac) (hk : x.kd = 1) (hx : actErr x = 0) (m : Int) (hm : x.mo ≤ m) (hmm : momB m = true) : PCp 17 [.c (.lst 6 [encAc x]), .c (.int .i64 m)] [] (.tup [.c (.row 0), .c (.int .i64 0)]) [.row 52 3 [[.str x.drum, .str x.ty, .int .i64 x.long]]] := by
  refine fn_sound (mt := mts) tab_fits tab_mixed Tryz.func17 (by rfl) (by kernel_rfl) (by kernel_rfl) Tryz.results17 (Nat.le_of_ble_eq_true (by kernel_rfl)) ?_
  conv => whnf
  repeat' (first | ((first | refine Split.mk (fun h => ?_) (fun h => ?_) | refine CondG.mk (fun h => ?_) (fun h => ?_)) <;> (try simp only [decide_eq_true_eq, decide_eq_false_iff_not, Bool.not_eq_true', Bool.not_eq_false', beq_iff_eq, beq_eq_false_iff_ne] at h) <;> (first | (exfalso; first | omega | exact h trivial) | (conv => whnf))) | (refine CallX.mk _ _ (by first | exact at_pc x hk hx m hm hmm) ?_; conv => whnf) | (refine CallG.mk _ _ (by first | exact at_pc x hk hx m hm hmm) ?_; conv => whnf) | (refine Ask.mk (by first | omega | (unfold roomOK; simp [cutRows]; done) | (unfold roomOK; simp [cutRows]; omega)) ?_; conv => whnf) | (refine AppG.mk (by first | omega | (unfold roomOK; simp [cutRows]; done) | (unfold roomOK; simp [cutRows]; omega)) ?_; conv => whnf) | (refine SliceG.fr ?_; conv => whnf) | fail)
  · cases h
  refine .un 2 ?_
  conv => whnf
  refine .mk rfl ?_
  conv => whnf
  refine .mk (α := Nat × S × S) (fun e => e) [(0, .c (.str x.drum), .agg [.str x.ty, .int .i64 x.long])] rfl (by intro h; cases h) ?_
  intro e he
  simp only [List.mem_singleton] at he
  subst he
  conv => whnf
  repeat' (first | ((first | refine Split.mk (fun h => ?_) (fun h => ?_) | refine CondG.mk (fun h => ?_) (fun h => ?_)) <;> (try simp only [decide_eq_true_eq, decide_eq_false_iff_not, Bool.not_eq_true', Bool.not_eq_false', beq_iff_eq, beq_eq_false_iff_ne] at h) <;> (first | (exfalso; first | omega | exact h trivial) | (conv => whnf))) | (refine Ask.mk (by first | omega | (unfold roomOK; simp [cutRows]; done) | (unfold roomOK; simp [cutRows]; omega)) ?_; conv => whnf) | (refine AppG.mk (by first | omega | (unfold roomOK; simp [cutRows]; done) | (unfold roomOK; simp [cutRows]; omega)) ?_; conv => whnf) | (refine SliceG.fr ?_; conv => whnf) | fail)
  refine .mk _ _ rfl ?_
  conv => whnf
  repeat' (first | ((first | refine Split.mk (fun h => ?_) (fun h => ?_) | refine CondG.mk (fun h => ?_) (fun h => ?_)) <;> (try simp only [decide_eq_true_eq, decide_eq_false_iff_not, Bool.not_eq_true', Bool.not_eq_false', beq_iff_eq, beq_eq_false_iff_ne] at h) <;> (first | (exfalso; first | omega | exact h trivial) | (conv => whnf))) | (refine Ask.mk (by first | omega | (unfold roomOK; simp [cutRows]; done) | (unfold roomOK; simp [cutRows]; omega)) ?_; conv => whnf) | (refine AppG.mk (by first | omega | (unfold roomOK; simp [cutRows]; done) | (unfold roomOK; simp [cutRows]; omega)) ?_; conv => whnf) | (refine SliceG.fr ?_; conv => whnf) | fail)
  refine .mk (α := Nat × S × S) (fun e => e) [] rfl (fun _ => ?_) (by intro e he; cases he)
  conv => whnf
  repeat' (first | ((first | refine Split.mk (fun h => ?_) (fun h => ?_) | refine CondG.mk (fun h => ?_) (fun h => ?_)) <;> (try simp only [decide_eq_true_eq, decide_eq_false_iff_not, Bool.not_eq_true', Bool.not_eq_false', beq_iff_eq, beq_eq_false_iff_ne] at h) <;> (first | (exfalso; first | omega | exact h trivial) | (conv => whnf))) | (refine CallX.mk _ _ (by first | exact sort1_pc _ _) ?_; conv => whnf) | (refine CallG.mk _ _ (by first | exact sort1_pc _ _) ?_; conv => whnf) | (refine Ask.mk (by first | omega | (unfold roomOK; simp [cutRows]; done) | (unfold roomOK; simp [cutRows]; omega)) ?_; conv => whnf) | (refine AppG.mk (by first | omega | (unfold roomOK; simp [cutRows]; done) | (unfold roomOK; simp [cutRows]; omega)) ?_; conv => whnf) | (refine SliceG.fr ?_; conv => whnf) | fail)
  exact .mk ⟨rfl, rfl⟩
end Go.Proofs.YtobcplhaabaemaaGreat

/- The law PlansWeighed, by the abstract walk. -/
namespace Go.Proofs.YtobcplhaabaemaaGreat
set_option linter.unusedVariables false
set_option linter.unusedSimpArgs false
open Abs

theorem drumsV_in (L : List Int) (p most : Int) (h0 : 0 ≤ most) : p ≤ (drumsV L p most).2 ∧ (drumsV L p most).2 ≤ p + 2 * most + 6 ∧ ((drumsV L p most).1.length : Int) ≤ most := by
  have hr := rangeV_in L p 0 most h0
  have hs := pcIter_snd L (p + 1) ⟨#[100]⟩ dLongs (rangeV L p 0 most).toNat
  have hl := pcIter_len L (p + 1) ⟨#[100]⟩ dLongs (rangeV L p 0 most).toNat
  unfold drumsV
  simp only
  generalize pcIter L (p + 1) ⟨#[100]⟩ dLongs (rangeV L p 0 most).toNat = A at *
  split
  · split
    · simp only [dSpoil, List.length_set]; omega
    · simp only; omega
  · omega
theorem sectsV_in (L : List Int) (p most : Int) (h0 : 0 ≤ most) : p ≤ (sectsV L p most).2 ∧ (sectsV L p most).2 ≤ p + 2 * most + 6 ∧ ((sectsV L p most).1.length : Int) ≤ most := by
  have hr := rangeV_in L p 0 most h0
  have hs := pcIter_snd L (p + 1) ⟨#[115]⟩ sLongs (rangeV L p 0 most).toNat
  have hl := pcIter_len L (p + 1) ⟨#[115]⟩ sLongs (rangeV L p 0 most).toNat
  unfold sectsV
  simp only
  generalize pcIter L (p + 1) ⟨#[115]⟩ sLongs (rangeV L p 0 most).toNat = A at *
  split
  · split
    · simp only [sSpoil, List.length_set]; omega
    · simp only; omega
  · omega
theorem planV_len (L : List Int) (p : Int) (nd n : Nat) : (planV L p nd n).1.length ≤ n + 1 := by
  unfold planV
  split <;> simp [cutsV_len]

end Go.Proofs.YtobcplhaabaemaaGreat

/- Lists of acts are sorted. -/
namespace Go.Proofs.YtobcplhaabaemaaGreat
set_option linter.unusedVariables false
set_option linter.unusedSimpArgs false
open Abs

set_option maxRecDepth 100000 in
set_option maxHeartbeats 4000000 in
theorem insAct_pc  (g : Nat) (c : Ac → Ac → Int) (hg : ∀ x y : Ac, PCp g [.agg (encAc x), .agg (encAc y)] [] (.c (.int .i64 (c x y))) []) (a b : Nat) (l : List Ac) (ha : a ≤ l.length) (hb : b ≤ l.length) (hl : l.length ≤ 1000000000) :
    PCp 116 [.c (.row 0), .c (.int .i64 a), .c (.int .i64 b), .c (.fn g [])] [.row 44 6 (l.map encAc)] (.tup []) [.row 44 6 ((insTo c a (b - (a + 1)) l).map encAc)] := by
  have hw : IntKind.i64.wrap ((a : Int) + 1) = ((a + 1 : Nat) : Int) := by rw [wrap_in (by omega) (by omega)]; rfl
  refine fn_sound (mt := mts) tab_fits tab_mixed Tryz.func116 (by rfl) (by kernel_rfl) (by kernel_rfl) Tryz.results116 (Nat.le_of_ble_eq_true (by kernel_rfl)) ?_
  conv => whnf
  rw [hw]
  refine loop_count (b - (a + 1)) [] [0, 1, 2, 3, 8] (fun k (_ : Unit) => ⟨[(0, .c (.row 0)), (1, .c (.int .i64 a)), (2, .c (.int .i64 b)), (3, .c (.fn g [])), (8, .c (.int .i64 ((a + 1 + k : Nat) : Int)))], [(0, .row 44 6 ((insTo c a k l).map encAc))], 1⟩) (fun k (_ : Unit) => True) (()) ?_ ?_ ?_
  · conv => whnf
    exact ⟨rfl, trivial⟩
  · intro k _ hk _
    have hlen := insTo_len c a k l
    conv => whnf
    refine .mk (fun h => ?_) (fun h => ?_)
    rotate_left
    · simp at h; omega
    conv => whnf
    refine loop_meas2 (fun (j : Nat) (q : List Ac) => j) [] [0, 1, 2, 3, 8, 9] (fun (j : Nat) (q : List Ac) => ⟨[(0, .c (.row 0)), (1, .c (.int .i64 a)), (2, .c (.int .i64 b)), (3, .c (.fn g [])), (8, .c (.int .i64 ((a + 1 + k : Nat) : Int))), (9, .c (.int .i64 ((j : Nat) : Int)))], [(0, .row 44 6 (q.map encAc))], 1⟩) (fun (j : Nat) (q : List Ac) => insDown c a j q = insTo c a (k + 1) l ∧ j < l.length ∧ q.length = l.length) (a + 1 + k) (insTo c a k l) ?_ ?_
    · conv => whnf
      exact ⟨rfl, rfl, by omega, by omega⟩
    · intro j q ⟨h1, h2, h3⟩
      conv => whnf
      repeat' (first | ((first | refine Split.mk (fun h => ?_) (fun h => ?_) | refine CondG.mk (fun h => ?_) (fun h => ?_)) <;> (try simp only [decide_eq_true_eq, decide_eq_false_iff_not, Bool.not_eq_true', Bool.not_eq_false', beq_iff_eq, beq_eq_false_iff_ne] at h) <;> (first | (exfalso; first | omega | exact h trivial) | (conv => whnf))) | (refine Ask.mk (by first | omega | (unfold roomOK; simp [cutRows]; done) | (unfold roomOK; simp [cutRows]; omega)) ?_; conv => whnf) | (refine AppG.mk (by first | omega | (unfold roomOK; simp [cutRows]; done) | (unfold roomOK; simp [cutRows]; omega)) ?_; conv => whnf) | (refine SliceG.fr ?_; conv => whnf) | fail)
      · -- one more to the left?
        obtain ⟨i, rfl⟩ : ∃ i, j = i + 1 := ⟨j - 1, by omega⟩
        have hw2 : IntKind.i64.wrap (((i + 1 : Nat) : Int) - 1) = ((i : Nat) : Int) := by rw [wrap_in (by omega) (by omega)]; omega
        refine .mk (by rw [List.length_map]; omega) ?_
        conv => whnf
        refine row_at (i + 1) toN (by omega) ?_
        conv => whnf
        rw [hw2]
        refine .mk (by rw [List.length_map]; omega) ?_
        conv => whnf
        refine row_at i toN (by omega) ?_
        conv => whnf
        repeat' (first | ((first | refine Split.mk (fun h => ?_) (fun h => ?_) | refine CondG.mk (fun h => ?_) (fun h => ?_)) <;> (try simp only [decide_eq_true_eq, decide_eq_false_iff_not, Bool.not_eq_true', Bool.not_eq_false', beq_iff_eq, beq_eq_false_iff_ne] at h) <;> (first | (exfalso; first | omega | exact h trivial) | (conv => whnf))) | (refine CallX.mk _ _ (by first | exact hg _ _) ?_; conv => whnf) | (refine CallG.mk _ _ (by first | exact hg _ _) ?_; conv => whnf) | (refine Ask.mk (by first | omega | (unfold roomOK; simp [cutRows]; done) | (unfold roomOK; simp [cutRows]; omega)) ?_; conv => whnf) | (refine AppG.mk (by first | omega | (unfold roomOK; simp [cutRows]; done) | (unfold roomOK; simp [cutRows]; omega)) ?_; conv => whnf) | (refine SliceG.fr ?_; conv => whnf) | fail)
        · rw [insDown_step (by omega) (by omega) h] at h1
          repeat' (first | ((first | refine Split.mk (fun h => ?_) (fun h => ?_) | refine CondG.mk (fun h => ?_) (fun h => ?_)) <;> (try simp only [decide_eq_true_eq, decide_eq_false_iff_not, Bool.not_eq_true', Bool.not_eq_false', beq_iff_eq, beq_eq_false_iff_ne] at h) <;> (first | (exfalso; first | omega | exact h trivial) | (conv => whnf))) | (refine Ask.mk (by first | omega | (unfold roomOK; simp [cutRows]; done) | (unfold roomOK; simp [cutRows]; omega)) ?_; conv => whnf) | (refine AppG.mk (by first | omega | (unfold roomOK; simp [cutRows]; done) | (unfold roomOK; simp [cutRows]; omega)) ?_; conv => whnf) | (refine SliceG.fr ?_; conv => whnf) | fail)
          rw [hw2]
          refine .mk (by rw [List.length_map]; omega) ?_
          conv => whnf
          refine row_at i toN (by omega) ?_
          conv => whnf
          refine .mk (by rw [List.length_map]; omega) ?_
          conv => whnf
          refine row_at (i + 1) toN (by omega) ?_
          conv => whnf
          refine .mk (by rw [List.length_map]; omega) ?_
          conv => whnf
          refine row_at (i + 1) toN (by omega) ?_
          conv => whnf
          refine .mk (by rw [List.length_set, List.length_map]; omega) ?_
          conv => whnf
          refine .mk (encAc (q[i]'(by omega))) (by rw [toN, toN, List.getElem?_set_ne (by omega)]; simp [show i < q.length by omega]) ?_
          conv => whnf
          refine meas_next (i, (q.set (i + 1) (q[i]'(by omega))).set i (q[i + 1]'(by omega))) (by simp only; omega) (by rw [toN, toN, hw2]; simp only [List.map_set]; rfl) ⟨h1, by simp only; omega, by simp [h3]⟩
        · rw [insDown_stop (by omega) h] at h1
          conv => whnf
          refine count_next () hk (by rw [h1, show IntKind.i64.wrap (((a + 1 + k : Nat) : Int) + 1) = ((a + 1 + (k + 1) : Nat) : Int) by rw [wrap_in (by omega) (by omega)]; omega]; rfl) trivial
      · rw [insDown_low (by omega)] at h1
        refine count_next () hk (by rw [h1, show IntKind.i64.wrap (((a + 1 + k : Nat) : Int) + 1) = ((a + 1 + (k + 1) : Nat) : Int) by rw [wrap_in (by omega) (by omega)]; omega]; rfl) trivial
  · intro _ _
    have hlen := insTo_len c a (b - (a + 1)) l
    conv => whnf
    repeat' (first | ((first | refine Split.mk (fun h => ?_) (fun h => ?_) | refine CondG.mk (fun h => ?_) (fun h => ?_)) <;> (try simp only [decide_eq_true_eq, decide_eq_false_iff_not, Bool.not_eq_true', Bool.not_eq_false', beq_iff_eq, beq_eq_false_iff_ne] at h) <;> (first | (exfalso; first | omega | exact h trivial) | (conv => whnf))) | (refine Ask.mk (by first | omega | (unfold roomOK; simp [cutRows]; done) | (unfold roomOK; simp [cutRows]; omega)) ?_; conv => whnf) | (refine AppG.mk (by first | omega | (unfold roomOK; simp [cutRows]; done) | (unfold roomOK; simp [cutRows]; omega)) ?_; conv => whnf) | (refine SliceG.fr ?_; conv => whnf) | fail)
    exact .mk ⟨rfl, rfl⟩
set_option maxRecDepth 100000 in
set_option maxHeartbeats 4000000 in
theorem stAct_pc  (g : Nat) (c : Ac → Ac → Int) (hg : ∀ x y : Ac, PCp g [.agg (encAc x), .agg (encAc y)] [] (.c (.int .i64 (c x y))) []) (l : List Ac) (hl : l.length < 20) :
    PCp 50 [.c (.row 0), .c (.fn g [])] [.row 44 6 (l.map encAc)] (.tup []) [.row 44 6 ((insSort c l).map encAc)] := by
  have hlm : (l.map encAc).length = l.length := List.length_map ..
  have hst : PCp 83 [.c (.row 0), .c (.int .i64 l.length), .c (.fn g [])] [.row 44 6 (l.map encAc)] (.tup []) [.row 44 6 ((insSort c l).map encAc)] := by
    refine fn_sound (mt := mts) tab_fits tab_mixed Tryz.func83 (by rfl) (by kernel_rfl) (by kernel_rfl) Tryz.results83 (Nat.le_of_ble_eq_true (by kernel_rfl)) ?_
    conv => whnf
    refine .un 1 ?_
    conv => whnf
    repeat' (first | ((first | refine Split.mk (fun h => ?_) (fun h => ?_) | refine CondG.mk (fun h => ?_) (fun h => ?_)) <;> (try simp only [decide_eq_true_eq, decide_eq_false_iff_not, Bool.not_eq_true', Bool.not_eq_false', beq_iff_eq, beq_eq_false_iff_ne] at h) <;> (first | (exfalso; first | omega | exact h trivial) | (conv => whnf))) | (refine Ask.mk (by first | omega | (unfold roomOK; simp [cutRows]; done) | (unfold roomOK; simp [cutRows]; omega)) ?_; conv => whnf) | (refine AppG.mk (by first | omega | (unfold roomOK; simp [cutRows]; done) | (unfold roomOK; simp [cutRows]; omega)) ?_; conv => whnf) | (refine SliceG.fr ?_; conv => whnf) | fail)
    refine .mk _ _ (insAct_pc g c hg 0 l.length l (Nat.zero_le _) (Nat.le_refl _) (by omega)) ?_
    conv => whnf
    refine .un 1 ?_
    conv => whnf
    repeat' (first | ((first | refine Split.mk (fun h => ?_) (fun h => ?_) | refine CondG.mk (fun h => ?_) (fun h => ?_)) <;> (try simp only [decide_eq_true_eq, decide_eq_false_iff_not, Bool.not_eq_true', Bool.not_eq_false', beq_iff_eq, beq_eq_false_iff_ne] at h) <;> (first | (exfalso; first | omega | exact h trivial) | (conv => whnf))) | (refine Ask.mk (by first | omega | (unfold roomOK; simp [cutRows]; done) | (unfold roomOK; simp [cutRows]; omega)) ?_; conv => whnf) | (refine AppG.mk (by first | omega | (unfold roomOK; simp [cutRows]; done) | (unfold roomOK; simp [cutRows]; omega)) ?_; conv => whnf) | (refine SliceG.fr ?_; conv => whnf) | fail)
    exact .mk ⟨rfl, rfl⟩
  refine fn_sound (mt := mts) tab_fits tab_mixed Tryz.func50 (by rfl) (by kernel_rfl) (by kernel_rfl) Tryz.results50 (Nat.le_of_ble_eq_true (by kernel_rfl)) ?_
  conv => whnf
  rw [hlm]
  repeat' (first | ((first | refine Split.mk (fun h => ?_) (fun h => ?_) | refine CondG.mk (fun h => ?_) (fun h => ?_)) <;> (try simp only [decide_eq_true_eq, decide_eq_false_iff_not, Bool.not_eq_true', Bool.not_eq_false', beq_iff_eq, beq_eq_false_iff_ne] at h) <;> (first | (exfalso; first | omega | exact h trivial) | (conv => whnf))) | (refine CallX.mk _ _ (by first | exact hst) ?_; conv => whnf) | (refine CallG.mk _ _ (by first | exact hst) ?_; conv => whnf) | (refine Ask.mk (by first | omega | (unfold roomOK; simp [cutRows]; done) | (unfold roomOK; simp [cutRows]; omega)) ?_; conv => whnf) | (refine AppG.mk (by first | omega | (unfold roomOK; simp [cutRows]; done) | (unfold roomOK; simp [cutRows]; omega)) ?_; conv => whnf) | (refine SliceG.fr ?_; conv => whnf) | fail)
  exact .mk ⟨rfl, rfl⟩
/-! the length of a small number -/
deriving instance DecidableEq for Ac
theorem eqAc {x y : Ac} : (x.mo == y.mo && (x.kd == y.kd && (x.drum.toList == y.drum.toList && (x.ty.toList == y.ty.toList && (x.of.toList == y.of.toList && x.long == y.long))))) = true ↔ x = y := by
  obtain ⟨a1, a2, a3, a4, a5, a6⟩ := x
  obtain ⟨b1, b2, b3, b4, b5, b6⟩ := y
  simp only [Bool.and_eq_true, beq_iff_eq, Ac.mk.injEq]
  have hs : ∀ {s t : ByteArray}, s.toList = t.toList ↔ s = t := fun {s t} => ⟨toList_inj, fun h => by rw [h]⟩
  rw [hs, hs, hs]
set_option maxRecDepth 100000 in
set_option maxHeartbeats 4000000 in
theorem cptAc_pc (l : List Ac) (hl : l.length ≤ 1000000000) :
    ∃ ob, ((∃ rows, ob = .frow 6 rows) ∨ ob = .dead) ∧ PCp 52 [.c (.row 0)] [.row 44 6 (l.map encAc)] (.c (.lst 6 ((cpt l).map encAc))) [ob] := by
  have hlm : (l.map encAc).length = l.length := List.length_map ..
  by_cases hid : cpt l = l
  · refine ⟨.frow 6 (l.map encAc), .inl ⟨_, rfl⟩, ?_⟩
    rw [hid]
    rw [cpt_id] at hid
    have hfr : ∀ (m : Nat) (r : List Ac), FinR 1 (.c (.lst 6 (r.map encAc))) [.frow 6 (r.map encAc)] (.c (.row 0)) [.row 44 6 (r.map encAc)] := fun m r => .frz 0 _ _ _ rfl (.weak [] (.fro 0 _ _ rfl) rfl (Nat.le_refl _))
    refine fn_sound (mt := mts) tab_fits tab_mixed Tryz.func52 (by rfl) (by kernel_rfl) (by kernel_rfl) Tryz.results52 (Nat.le_of_ble_eq_true (by kernel_rfl)) ?_
    conv => whnf
    repeat' (first | ((first | refine Split.mk (fun h => ?_) (fun h => ?_) | refine CondG.mk (fun h => ?_) (fun h => ?_)) <;> (try simp only [decide_eq_true_eq, decide_eq_false_iff_not, Bool.not_eq_true', Bool.not_eq_false', beq_iff_eq, beq_eq_false_iff_ne] at h) <;> (first | (exfalso; first | omega | exact h trivial) | (conv => whnf))) | (refine Ask.mk (by first | omega | (unfold roomOK; simp [cutRows]; done) | (unfold roomOK; simp [cutRows]; omega)) ?_; conv => whnf) | (refine AppG.mk (by first | omega | (unfold roomOK; simp [cutRows]; done) | (unfold roomOK; simp [cutRows]; omega)) ?_; conv => whnf) | (refine SliceG.fr ?_; conv => whnf) | fail)
    · exact hfr 0 l
    refine loop_count (l.length - 1) [] [0, 3] (fun k (_ : Unit) => ⟨[(0, .c (.row 0)), (3, .c (.int .i64 ((k + 1 : Nat) : Int)))], [(0, .row 44 6 (l.map encAc))], 1⟩) (fun k (_ : Unit) => True) (()) ?_ ?_ ?_
    · conv => whnf
      exact ⟨rfl, trivial⟩
    · intro k _ hk _
      conv => whnf
      repeat' (first | ((first | refine Split.mk (fun h => ?_) (fun h => ?_) | refine CondG.mk (fun h => ?_) (fun h => ?_)) <;> (try simp only [decide_eq_true_eq, decide_eq_false_iff_not, Bool.not_eq_true', Bool.not_eq_false', beq_iff_eq, beq_eq_false_iff_ne] at h) <;> (first | (exfalso; first | omega | exact h trivial) | (conv => whnf))) | (refine Ask.mk (by first | omega | (unfold roomOK; simp [cutRows]; done) | (unfold roomOK; simp [cutRows]; omega)) ?_; conv => whnf) | (refine AppG.mk (by first | omega | (unfold roomOK; simp [cutRows]; done) | (unfold roomOK; simp [cutRows]; omega)) ?_; conv => whnf) | (refine SliceG.fr ?_; conv => whnf) | fail)
      have hw : IntKind.i64.wrap (((k + 1 : Nat) : Int) - 1) = ((k : Nat) : Int) := by rw [wrap_in (by omega) (by omega)]; omega
      refine row_at (k + 1) toN (by omega) ?_
      conv => whnf
      rw [hw]
      refine .mk (by rw [hlm]; omega) ?_
      conv => whnf
      refine row_at k toN (by omega) ?_
      conv => whnf
      refine .mk (fun h => ?_) (fun h => ?_)
      · exact absurd (eqAc.1 h) (hid k (by omega))
      · conv => whnf
        refine count_next () hk (by rw [wrap_succ (n := l.length) (by omega) (by omega)]; rfl) trivial
    · intro _ _
      conv => whnf
      repeat' (first | ((first | refine Split.mk (fun h => ?_) (fun h => ?_) | refine CondG.mk (fun h => ?_) (fun h => ?_)) <;> (try simp only [decide_eq_true_eq, decide_eq_false_iff_not, Bool.not_eq_true', Bool.not_eq_false', beq_iff_eq, beq_eq_false_iff_ne] at h) <;> (first | (exfalso; first | omega | exact h trivial) | (conv => whnf))) | (refine Ask.mk (by first | omega | (unfold roomOK; simp [cutRows]; done) | (unfold roomOK; simp [cutRows]; omega)) ?_; conv => whnf) | (refine AppG.mk (by first | omega | (unfold roomOK; simp [cutRows]; done) | (unfold roomOK; simp [cutRows]; omega)) ?_; conv => whnf) | (refine SliceG.fr ?_; conv => whnf) | fail)
      exact hfr 0 l
  · refine ⟨.dead, .inr rfl, ?_⟩
    have hid2 := mt (cpt_id l).2 hid
    refine fn_sound (mt := mts) tab_fits tab_mixed Tryz.func52 (by rfl) (by kernel_rfl) (by kernel_rfl) Tryz.results52 (Nat.le_of_ble_eq_true (by kernel_rfl)) ?_
    conv => whnf
    repeat' (first | ((first | refine Split.mk (fun h => ?_) (fun h => ?_) | refine CondG.mk (fun h => ?_) (fun h => ?_)) <;> (try simp only [decide_eq_true_eq, decide_eq_false_iff_not, Bool.not_eq_true', Bool.not_eq_false', beq_iff_eq, beq_eq_false_iff_ne] at h) <;> (first | (exfalso; first | omega | exact h trivial) | (conv => whnf))) | (refine Ask.mk (by first | omega | (unfold roomOK; simp [cutRows]; done) | (unfold roomOK; simp [cutRows]; omega)) ?_; conv => whnf) | (refine AppG.mk (by first | omega | (unfold roomOK; simp [cutRows]; done) | (unfold roomOK; simp [cutRows]; omega)) ?_; conv => whnf) | (refine SliceG.fr ?_; conv => whnf) | fail)
    · exfalso; exact hid2 (by intro i hi; omega)
    refine loop_count (l.length - 1) [] [0, 3] (fun k (_ : Unit) => ⟨[(0, .c (.row 0)), (3, .c (.int .i64 ((k + 1 : Nat) : Int)))], [(0, .row 44 6 (l.map encAc))], 1⟩) (fun k (_ : Unit) => ∀ i (h : i + 1 < l.length), i + 1 ≤ k → l[i + 1] ≠ l[i]) (()) ?_ ?_ ?_
    · conv => whnf
      exact ⟨rfl, by intro i hi h; omega⟩
    · intro k _ hk hi
      conv => whnf
      repeat' (first | ((first | refine Split.mk (fun h => ?_) (fun h => ?_) | refine CondG.mk (fun h => ?_) (fun h => ?_)) <;> (try simp only [decide_eq_true_eq, decide_eq_false_iff_not, Bool.not_eq_true', Bool.not_eq_false', beq_iff_eq, beq_eq_false_iff_ne] at h) <;> (first | (exfalso; first | omega | exact h trivial) | (conv => whnf))) | (refine Ask.mk (by first | omega | (unfold roomOK; simp [cutRows]; done) | (unfold roomOK; simp [cutRows]; omega)) ?_; conv => whnf) | (refine AppG.mk (by first | omega | (unfold roomOK; simp [cutRows]; done) | (unfold roomOK; simp [cutRows]; omega)) ?_; conv => whnf) | (refine SliceG.fr ?_; conv => whnf) | fail)
      have hw : IntKind.i64.wrap (((k + 1 : Nat) : Int) - 1) = ((k : Nat) : Int) := by rw [wrap_in (by omega) (by omega)]; omega
      refine row_at (k + 1) toN (by omega) ?_
      conv => whnf
      rw [hw]
      refine .mk (by rw [hlm]; omega) ?_
      conv => whnf
      refine row_at k toN (by omega) ?_
      conv => whnf
      refine .mk (fun h => ?_) (fun h => ?_)
      · have he : l[k + 1] = l[k] := eqAc.1 h
        have hfrom := cpt_from l k (by omega) hi
        clear h
        conv => whnf
        refine .mk (by rw [hlm]; omega) ?_
        conv => whnf
        refine .vw ?_
        conv => whnf
        have hn : l.length - (k + 1) - 1 + 1 + (k + 1) = l.length := by omega
        refine loop_count2 (l.length - (k + 1) - 1) [] [0, 3, 4, 5] (fun m (j : Nat) (q : List Ac) => ⟨[(0, .c (.row 0)), (3, .c (.int .i64 ((j : Nat) : Int))), (4, .c (.vw 0 6 (k + 1) (l.length - (k + 1)))), (5, .c (.int .i64 ((m + 1 : Nat) : Int)))], [(0, .row 44 6 (q.map encAc))], 1⟩) (fun m (j : Nat) (q : List Ac) => q.length = l.length ∧ j ≤ k + 1 + m ∧ q.drop (k + 1 + m) = l.drop (k + 1 + m) ∧ q.take j ++ cptA (l.getD (k + 1 + m) l[k]) (l.drop (k + 1 + m + 1)) = cpt l) (k + 1) (l) ?_ ?_ ?_
        · conv => whnf
          refine ⟨by rw [hlm]; rfl, rfl, Nat.le_refl _, rfl, ?_⟩
          rw [hfrom, getDD (show k + 1 + 0 < l.length by omega), List.drop_eq_getElem_cons (show k + 1 < l.length by omega), cptA, if_pos he, he]
        · intro m j q hm ⟨g1, g2, g3, g4⟩
          have hqm : (q.map encAc).length = q.length := List.length_map ..
          have hwm : IntKind.i64.wrap (((m + 1 : Nat) : Int) - 1) = ((m : Nat) : Int) := by rw [wrap_in (by omega) (by omega)]; omega
          have q1 : q[k + 1 + m]'(by omega) = l[k + 1 + m]'(by omega) := getElem_of_drop g3 (by omega) (by omega) (by omega)
          have q2 : q[k + 1 + m + 1]'(by omega) = l[k + 1 + m + 1]'(by omega) := getElem_of_drop g3 (by omega) (by omega) (by omega)
          conv => whnf
          repeat' (first | ((first | refine Split.mk (fun h => ?_) (fun h => ?_) | refine CondG.mk (fun h => ?_) (fun h => ?_)) <;> (try simp only [decide_eq_true_eq, decide_eq_false_iff_not, Bool.not_eq_true', Bool.not_eq_false', beq_iff_eq, beq_eq_false_iff_ne] at h) <;> (first | (exfalso; first | omega | exact h trivial) | (conv => whnf))) | (refine Ask.mk (by first | omega | (unfold roomOK; simp [cutRows]; done) | (unfold roomOK; simp [cutRows]; omega)) ?_; conv => whnf) | (refine AppG.mk (by first | omega | (unfold roomOK; simp [cutRows]; done) | (unfold roomOK; simp [cutRows]; omega)) ?_; conv => whnf) | (refine SliceG.fr ?_; conv => whnf) | fail)
          refine row_at (k + 1 + m + 1) (by rw [toN]; omega) (by omega) ?_
          conv => whnf
          rw [hwm]
          refine .mk (by omega) ?_
          conv => whnf
          refine row_at (k + 1 + m) (by rw [toN]) (by omega) ?_
          conv => whnf
          refine .mk (fun h => ?_) (fun h => ?_)
          · have he2 : ¬ l[k + 1 + m + 1]'(by omega) = l[k + 1 + m]'(by omega) := fun e => by
              rw [← q1, ← q2] at e
              exact absurd ((eqAc.2 e).symm.trans (notT h)) (by decide)
            obtain ⟨n1, n2⟩ := cpt_new g1 (by omega) g2 g3 g4 he2
            clear h
            conv => whnf
            refine .mk (by omega) ?_
            conv => whnf
            refine row_at (k + 1 + m + 1) (by rw [toN]; omega) (by omega) ?_
            conv => whnf
            refine .mk (by omega) ?_
            conv => whnf
            refine row_at j toN (by omega) ?_
            conv => whnf
            refine count_next (j + 1, q.set j (l[k + 1 + m + 1]'(by omega))) hm (by
              rw [wrap_succ (n := l.length) (by omega) (by omega), wrap_succ (n := l.length) (by omega) (by omega), toN, List.map_set, ← q2]; rfl) ⟨by simp [g1], by simp only; omega, n1, n2⟩
          · have he2 : l[k + 1 + m + 1]'(by omega) = l[k + 1 + m]'(by omega) := by
              rw [← q1, ← q2]
              exact eqAc.1 (notF h)
            obtain ⟨n1, n2⟩ := cpt_same (by omega) g3 g4 he2
            clear h
            conv => whnf
            refine count_next (j, q) hm (by rw [wrap_succ (n := l.length) (by omega) (by omega)]; rfl) ⟨g1, by simp only; omega, n1, n2⟩
        · intro j q ⟨g1, g2, g3, g4⟩
          have hqm : (q.map encAc).length = q.length := List.length_map ..
          rw [List.drop_of_length_le (by omega), cptA, List.append_nil] at g4
          conv => whnf
          refine .mk (fun h => ?_) (fun h => ?_)
          · simp at h; omega
          conv => whnf
          refine .mk (by omega) ?_
          conv => whnf
          refine .vw ?_
          conv => whnf
          refine .mk (by rw [overR]; simp; omega) ?_
          conv => whnf
          refine .cut ⟨rfl, ?_⟩
          conv => whnf
          rw [toN]
          have hrow : ∀ z : List V, (overR (q.map encAc) (List.replicate ((q.map encAc).length - j) z) j).take j = (cpt l).map encAc := by
            intro z
            rw [← g4, List.map_take]; unfold overR
            rw [List.append_assoc, List.take_append_of_le_length (by simp; omega), List.take_take, Nat.min_self]
          rw [hrow]
          exact .frz 1 _ _ _ rfl (.weak [_] (.fro 1 _ _ rfl) rfl (Nat.le_refl _))
      · have he : ¬ l[k + 1] = l[k] := fun e => absurd ((eqAc.2 e).symm.trans h) (by decide)
        conv => whnf
        refine count_next () hk (by rw [wrap_succ (n := l.length) (by omega) (by omega)]; rfl) ?_
        intro i hi1 hi2
        rcases Nat.lt_or_ge i k with h3 | h3
        · exact hi i hi1 h3
        · have : i = k := by omega
          subst this; exact he
    · intro _ hi
      exact absurd (fun i h => hi i h (by omega)) hid2
end Go.Proofs.YtobcplhaabaemaaGreat

/- Acts are made. -/
namespace Go.Proofs.YtobcplhaabaemaaGreat
set_option linter.unusedVariables false
set_option linter.unusedSimpArgs false
open Abs

def sgn (n : Int) : Int := if n < 0 then -1 else if 0 < n then 1 else 0
set_option maxRecDepth 100000 in
set_option maxHeartbeats 4000000 in
theorem sign_pc (n : Int) : PCp 113 [.c (.int .i64 n)] [] (.c (.int .i64 (sgn n))) [] := by
  refine fn_sound (mt := mts) tab_fits tab_mixed Tryz.func113 (by rfl) (by kernel_rfl) (by kernel_rfl) Tryz.results113 (Nat.le_of_ble_eq_true (by kernel_rfl)) ?_
  conv => whnf
  repeat' (first | ((first | refine Split.mk (fun h => ?_) (fun h => ?_) | refine CondG.mk (fun h => ?_) (fun h => ?_)) <;> (try simp only [decide_eq_true_eq, decide_eq_false_iff_not, Bool.not_eq_true', Bool.not_eq_false', beq_iff_eq, beq_eq_false_iff_ne] at h) <;> (first | (exfalso; first | omega | exact h trivial) | (conv => whnf))) | (refine Ask.mk (by first | omega | (unfold roomOK; simp [cutRows]; done) | (unfold roomOK; simp [cutRows]; omega)) ?_; conv => whnf) | (refine AppG.mk (by first | omega | (unfold roomOK; simp [cutRows]; done) | (unfold roomOK; simp [cutRows]; omega)) ?_; conv => whnf) | (refine SliceG.fr ?_; conv => whnf) | fail)
  all_goals exact fini (by simp_all [sgn] <;> omega)
/-- how the document orders acts -/
def ordC (a b : Ac) : Int :=
  if a.mo ≠ b.mo then sgn (IntKind.i64.wrap (a.mo - b.mo))
  else if a.drum ≠ b.drum then cmpS a.drum b.drum
  else if a.kd ≠ b.kd then sgn (IntKind.i64.wrap (a.kd - b.kd))
  else if a.ty ≠ b.ty then cmpS a.ty b.ty
  else if a.of ≠ b.of then cmpS a.of b.of
  else sgn (IntKind.i64.wrap (a.long - b.long))
theorem strEq {a b : ByteArray} : a.toList = b.toList ↔ a = b := ⟨toList_inj, fun h => by rw [h]⟩
set_option maxRecDepth 100000 in
set_option maxHeartbeats 4000000 in
theorem actOrder_pc (a b : Ac) : PCp 79 [.agg (encAc a), .agg (encAc b)] [] (.c (.int .i64 (ordC a b))) [] := by
  refine fn_sound (mt := mts) tab_fits tab_mixed Tryz.func79 (by rfl) (by kernel_rfl) (by kernel_rfl) Tryz.results79 (Nat.le_of_ble_eq_true (by kernel_rfl)) ?_
  conv => whnf
  repeat' (first | ((first | refine Split.mk (fun h => ?_) (fun h => ?_) | refine CondG.mk (fun h => ?_) (fun h => ?_)) <;> (try simp only [decide_eq_true_eq, decide_eq_false_iff_not, Bool.not_eq_true', Bool.not_eq_false', beq_iff_eq, beq_eq_false_iff_ne] at h) <;> (first | (exfalso; first | omega | exact h trivial) | (conv => whnf))) | (refine CallX.mk _ _ (by first | exact sign_pc _ | exact sCompare_pc _ _) ?_; conv => whnf) | (refine CallG.mk _ _ (by first | exact sign_pc _ | exact sCompare_pc _ _) ?_; conv => whnf) | (refine Ask.mk (by first | omega | (unfold roomOK; simp [cutRows]; done) | (unfold roomOK; simp [cutRows]; omega)) ?_; conv => whnf) | (refine AppG.mk (by first | omega | (unfold roomOK; simp [cutRows]; done) | (unfold roomOK; simp [cutRows]; omega)) ?_; conv => whnf) | (refine SliceG.fr ?_; conv => whnf) | fail)
  all_goals refine fini ?_
  all_goals unfold ordC
  all_goals simp_all [strEq]
def oddV (L : List Int) (p lo hi : Int) : Int := if nextV L p 12 == 0 then pickV L (p + 1) [lo - 1, hi + 1, lo, hi, -1099511627776, 1099511627776] else rangeV L (p + 1) lo hi
set_option maxRecDepth 100000 in
set_option maxHeartbeats 4000000 in
theorem odd_ok {L : List Int} {p : Int} (h : StOk L p) (h2 : StOk L (p + 1)) (lo hi : Int) (hlo : small lo) (hhi : small hi) (hlh : lo ≤ hi) : PCp 78 [.c (.ptr 0 0), .c (.int .i64 lo), .c (.int .i64 hi)] [stO L p] (.c (.int .i64 (oddV L p lo hi))) [stO L (p + 1 + 1)] := by
  have w1 : IntKind.i64.wrap (lo - 1) = lo - 1 := wrap_in (by unfold small at *; omega) (by unfold small at *; omega)
  have w2 : IntKind.i64.wrap (hi + 1) = hi + 1 := wrap_in (by unfold small at *; omega) (by unfold small at *; omega)
  refine fn_sound (mt := mts) tab_fits tab_mixed Tryz.func78 (by rfl) (by kernel_rfl) (by kernel_rfl) Tryz.results78 (Nat.le_of_ble_eq_true (by kernel_rfl)) ?_
  conv => whnf
  repeat' (first | ((first | refine Split.mk (fun h => ?_) (fun h => ?_) | refine CondG.mk (fun h => ?_) (fun h => ?_)) <;> (try simp only [decide_eq_true_eq, decide_eq_false_iff_not, Bool.not_eq_true', Bool.not_eq_false', beq_iff_eq, beq_eq_false_iff_ne] at h) <;> (first | (exfalso; first | omega | exact h trivial) | (conv => whnf))) | (refine CallX.mk _ _ (by first | exact flip_ok h 12 (by omega) | exact range_ok h2 lo hi hlh hlo hhi | exact (by rw [w1, w2]; exact pick_ok h2 [lo - 1, hi + 1, lo, hi, -1099511627776, 1099511627776] (by simp) (by simp))) ?_; conv => whnf) | (refine CallG.mk _ _ (by first | exact flip_ok h 12 (by omega) | exact range_ok h2 lo hi hlh hlo hhi | exact (by rw [w1, w2]; exact pick_ok h2 [lo - 1, hi + 1, lo, hi, -1099511627776, 1099511627776] (by simp) (by simp))) ?_; conv => whnf) | (refine Ask.mk (by first | omega | (unfold roomOK; simp [cutRows]; done) | (unfold roomOK; simp [cutRows]; omega)) ?_; conv => whnf) | (refine AppG.mk (by first | omega | (unfold roomOK; simp [cutRows]; done) | (unfold roomOK; simp [cutRows]; omega)) ?_; conv => whnf) | (refine SliceG.fr ?_; conv => whnf) | fail)
  · exact fini' (by rw [oddV, if_pos (by simpa using h)]) rfl
  · exact fini' (by rw [oddV, if_neg (by simpa using h)]) rfl
def bDa : ByteArray := ⟨#[100, 97]⟩
def bDb : ByteArray := ⟨#[100, 98]⟩
def names6 : List ByteArray := [bDa, bDb, ⟨#[100, 99]⟩, ⟨#[100, 100]⟩, ⟨#[]⟩, ⟨#[65]⟩]
theorem names_a (L : List Int) (p : Int) : someV L p [bDa, bDa, bDb, ⟨#[100, 99]⟩, ⟨#[100, 100]⟩] ∈ names6 := by
  have := someV_in L p [bDa, bDa, bDb, ⟨#[100, 99]⟩, ⟨#[100, 100]⟩] (by decide)
  generalize someV L p [bDa, bDa, bDb, ⟨#[100, 99]⟩, ⟨#[100, 100]⟩] = d at *
  simp only [List.mem_cons, List.not_mem_nil, or_false] at this
  unfold names6
  simp only [List.mem_cons, List.not_mem_nil, or_false]
  rcases this with h | h | h | h | h <;> simp [h]
theorem names_b (L : List Int) (p : Int) {e : ByteArray} (he : e ∈ names6) : someV L p [⟨#[]⟩, ⟨#[65]⟩, e] ∈ names6 := by
  have := someV_in L p [⟨#[]⟩, ⟨#[65]⟩, e] (by simp)
  generalize someV L p [⟨#[]⟩, ⟨#[65]⟩, e] = d at *
  simp only [List.mem_cons, List.not_mem_nil, or_false] at this
  rcases this with h | h | h
  · rw [h]; unfold names6; simp
  · rw [h]; unfold names6; simp
  · rw [h]; exact he
theorem names_push {l : List Ac} (h : ∀ x ∈ l, x.drum ∈ names6) {y : Ac} (hy : y.drum ∈ names6) : ∀ x ∈ l ++ [y], x.drum ∈ names6 := by
  intro x hx
  rcases List.mem_append.1 hx with h1 | h1
  · exact h x h1
  · simp at h1; subst h1; exact hy
set_option maxRecDepth 100000 in
set_option maxHeartbeats 4000000 in
theorem acts_pc {L : List Int} {p : Int} (hst : StOk L p) (hp : p ≤ 800000000) (n : Nat) (hn : n ≤ 14) :
    PCq 45 [.c (.ptr 0 0), .c (.int .i64 n)] [stO L p] fun r os => ∃ (l : List Ac) (p' : Int), r = .c (.lst 6 (l.map encAc)) ∧ os = [stO L p'] ∧ l.length ≤ n ∧ p ≤ p' ∧ p' ≤ p + 14 * n ∧ ∀ x ∈ l, x.drum ∈ names6 := by
  have hS : ∀ x : Int, p ≤ x → x ≤ p + 14 * 14 → StOk L x := fun x h3 h4 => ⟨hst.1, by have := hst.2.1; omega, by omega⟩
  refine fn_soundX (mt := mts) tab_fits tab_mixed Tryz.func45 (by rfl) (by kernel_rfl) (by kernel_rfl) Tryz.results45 (Nat.le_of_ble_eq_true (by kernel_rfl)) ?_
  conv => whnf
  refine loop_count3 (n) [.sl 5 44 6] [0, 5, 6, 9, 10] (fun k (at0 : Int) (q : Int) (l : List Ac) => ⟨[(0, .c (.ptr 0 0)), (5, .c (.row 1)), (6, .c (.int .i64 at0)), (9, .c (.int .i64 n)), (10, .c (.int .i64 k))], [(0, stO L q), (1, .row 44 6 (l.map encAc))], 2⟩) (fun k (at0 : Int) (q : Int) (l : List Ac) => l.length = k ∧ p ≤ q ∧ q ≤ p + 14 * k ∧ ∀ x ∈ l, x.drum ∈ names6) (0) (p) ([]) ?_ ?_ ?_
  · conv => whnf
    exact ⟨rfl, rfl, by omega, by omega, by intro x hx; cases hx⟩
  · intro k at0 q l hk ⟨h1, h2, h3, h4⟩
    have hlm : (l.map encAc).length = k := by rw [List.length_map, h1]
    have hQ : ∀ x : Int, q ≤ x → x ≤ q + 14 → StOk L x := fun x h3 h4 => hS x (by omega) (by omega)
    conv => whnf
    repeat' (first | ((first | refine Split.mk (fun h => ?_) (fun h => ?_) | refine CondG.mk (fun h => ?_) (fun h => ?_)) <;> (try simp only [decide_eq_true_eq, decide_eq_false_iff_not, Bool.not_eq_true', Bool.not_eq_false', beq_iff_eq, beq_eq_false_iff_ne] at h) <;> (first | (exfalso; first | omega | exact h trivial) | (conv => whnf))) | (refine CallX.mk _ _ (by first | exact pick_ok (hQ _ (by omega) (by omega)) [0, 1, 1, 5] (by decide) (by decide) | exact pick_ok (hQ _ (by omega) (by omega)) [2, 2, 2, 3, 4, 1] (by decide) (by decide) | exact some_ok (hQ _ (by omega) (by omega)) [bDa, bDa, bDb, ⟨#[100, 99]⟩, ⟨#[100, 100]⟩] (by decide) (by decide) | exact some_ok (hQ _ (by omega) (by omega)) [⟨#[116]⟩, ⟨#[117]⟩] (by decide) (by decide) | exact pick_ok (hQ _ (by omega) (by omega)) [60, 100] (by decide) (by decide) | exact pick_ok (hQ _ (by omega) (by omega)) [10, 20, 40, 60] (by decide) (by decide) | exact some_ok (hQ _ (by omega) (by omega)) [bDa, bDb, ⟨#[122, 122]⟩] (by decide) (by decide) | exact pick_ok (hQ _ (by omega) (by omega)) [5, 10] (by decide) (by decide) | exact flip_ok (hQ _ (by omega) (by omega)) 80 (by omega) | exact next_ok (hQ _ (by omega) (by omega)) 3 (by omega) | exact odd_ok (hQ _ (by omega) (by omega)) (hQ _ (by omega) (by omega)) 0 50 (small_lit (by decide)) (small_lit (by decide)) (by decide) | exact odd_ok (hQ _ (by omega) (by omega)) (hQ _ (by omega) (by omega)) 1 4 (small_lit (by decide)) (small_lit (by decide)) (by decide) | exact odd_ok (hQ _ (by omega) (by omega)) (hQ _ (by omega) (by omega)) 1 50 (small_lit (by decide)) (small_lit (by decide)) (by decide) | exact some_ok (hQ _ (by omega) (by omega)) [⟨#[]⟩, ⟨#[65]⟩, _] (by simp) (by simp) | exact some_ok (hQ _ (by omega) (by omega)) [⟨#[]⟩, ⟨#[116]⟩] (by decide) (by decide) | exact some_ok (hQ _ (by omega) (by omega)) [⟨#[]⟩, bDa] (by decide) (by decide)) ?_; conv => whnf) | (refine CallG.mk _ _ (by first | exact pick_ok (hQ _ (by omega) (by omega)) [0, 1, 1, 5] (by decide) (by decide) | exact pick_ok (hQ _ (by omega) (by omega)) [2, 2, 2, 3, 4, 1] (by decide) (by decide) | exact some_ok (hQ _ (by omega) (by omega)) [bDa, bDa, bDb, ⟨#[100, 99]⟩, ⟨#[100, 100]⟩] (by decide) (by decide) | exact some_ok (hQ _ (by omega) (by omega)) [⟨#[116]⟩, ⟨#[117]⟩] (by decide) (by decide) | exact pick_ok (hQ _ (by omega) (by omega)) [60, 100] (by decide) (by decide) | exact pick_ok (hQ _ (by omega) (by omega)) [10, 20, 40, 60] (by decide) (by decide) | exact some_ok (hQ _ (by omega) (by omega)) [bDa, bDb, ⟨#[122, 122]⟩] (by decide) (by decide) | exact pick_ok (hQ _ (by omega) (by omega)) [5, 10] (by decide) (by decide) | exact flip_ok (hQ _ (by omega) (by omega)) 80 (by omega) | exact next_ok (hQ _ (by omega) (by omega)) 3 (by omega) | exact odd_ok (hQ _ (by omega) (by omega)) (hQ _ (by omega) (by omega)) 0 50 (small_lit (by decide)) (small_lit (by decide)) (by decide) | exact odd_ok (hQ _ (by omega) (by omega)) (hQ _ (by omega) (by omega)) 1 4 (small_lit (by decide)) (small_lit (by decide)) (by decide) | exact odd_ok (hQ _ (by omega) (by omega)) (hQ _ (by omega) (by omega)) 1 50 (small_lit (by decide)) (small_lit (by decide)) (by decide) | exact some_ok (hQ _ (by omega) (by omega)) [⟨#[]⟩, ⟨#[65]⟩, _] (by simp) (by simp) | exact some_ok (hQ _ (by omega) (by omega)) [⟨#[]⟩, ⟨#[116]⟩] (by decide) (by decide) | exact some_ok (hQ _ (by omega) (by omega)) [⟨#[]⟩, bDa] (by decide) (by decide)) ?_; conv => whnf) | (refine Ask.mk (by first | omega | (unfold roomOK; simp [cutRows]; done) | (unfold roomOK; simp [cutRows]; omega)) ?_; conv => whnf) | (refine AppG.mk (by first | omega | (unfold roomOK; simp [cutRows]; done) | (unfold roomOK; simp [cutRows]; omega)) ?_; conv => whnf) | (refine SliceG.fr ?_; conv => whnf) | fail)
    all_goals exact count_next (_, _, l ++ [(⟨_, _, _, _, _, _⟩ : Ac)]) hk (by rw [wrap_succ hk (by omega)]; simp only [List.map_append]; rfl) ⟨by simp [h1], by simp only; omega, by simp only; omega, names_push h4 (by first | exact names_a L _ | exact names_b L _ (names_a L _))⟩
  · intro at0 q l ⟨h1, h2, h3, h4⟩
    have h5 : ∀ x ∈ cpt (insSort ordC l), x.drum ∈ names6 := fun x hx => h4 x ((insSort_perm ordC l).mem_iff.1 (mem_cpt hx))
    have hlm : (l.map encAc).length = n := by rw [List.length_map, h1]
    conv => whnf
    repeat' (first | ((first | refine Split.mk (fun h => ?_) (fun h => ?_) | refine CondG.mk (fun h => ?_) (fun h => ?_)) <;> (try simp only [decide_eq_true_eq, decide_eq_false_iff_not, Bool.not_eq_true', Bool.not_eq_false', beq_iff_eq, beq_eq_false_iff_ne] at h) <;> (first | (exfalso; first | omega | exact h trivial) | (conv => whnf))) | (refine CallX.mk _ _ (by first | exact stAct_pc _ ordC actOrder_pc l (by omega)) ?_; conv => whnf) | (refine CallG.mk _ _ (by first | exact stAct_pc _ ordC actOrder_pc l (by omega)) ?_; conv => whnf) | (refine Ask.mk (by first | omega | (unfold roomOK; simp [cutRows]; done) | (unfold roomOK; simp [cutRows]; omega)) ?_; conv => whnf) | (refine AppG.mk (by first | omega | (unfold roomOK; simp [cutRows]; done) | (unfold roomOK; simp [cutRows]; omega)) ?_; conv => whnf) | (refine SliceG.fr ?_; conv => whnf) | fail)
    have hle := cpt_len (insSort ordC l)
    rw [insSort_len] at hle
    obtain ⟨ob, ⟨rows, rfl⟩ | rfl, hc⟩ := cptAc_pc (insSort ordC l) (by rw [insSort_len]; omega)
    · refine .mk _ _ hc ?_
      conv => whnf
      exact .mk _ _ ⟨_, _, rfl, rfl, by omega, h2, by omega, h5⟩ (.mk ⟨rfl, rfl⟩)
    · refine .mk _ _ hc ?_
      conv => whnf
      exact .mk _ _ ⟨_, _, rfl, rfl, by omega, h2, by omega, h5⟩ (.mk ⟨rfl, rfl⟩)
end Go.Proofs.YtobcplhaabaemaaGreat

/- A store, as the program follows it. -/
namespace Go.Proofs.YtobcplhaabaemaaGreat
set_option linter.unusedVariables false
set_option linter.unusedSimpArgs false
open Abs

abbrev bE : ByteArray := ⟨#[]⟩
abbrev evD : ByteArray × Int → S := fun v => .agg [.str v.1, .int .i64 v.2]
abbrev evK : ByteArray → S := fun v => .c (.str v)
structure Sto where
  d : SM ByteArray (ByteArray × Int)
  k : SM ByteArray ByteArray
structure Sto.ok (s : Sto) : Prop where
  d : s.d.ok
  k : s.k.ok
abbrev stoD (s : Sto) : Ob := smO ekS evD s.d
abbrev stoK (s : Sto) : Ob := smO ekS evK s.k
def takeS (s : Sto) (x : Ac) : Sto × ByteArray × Int :=
  if x.kd = 1 ∨ x.kd = 3 then
    if (s.k.get x.drum).isSome then (s, bE, 6)
    else if x.kd = 1 then (⟨s.d.put x.drum (x.ty, x.long), s.k.put x.drum x.ty⟩, x.ty, 0)
    else if (s.k.get x.of).isSome then (⟨s.d.put x.drum ((s.k.get x.of).getD bE, x.long), s.k.put x.drum ((s.k.get x.of).getD bE)⟩, (s.k.get x.of).getD bE, 0)
    else (s, bE, 8)
  else if (s.d.get x.drum).isSome then
    if x.kd = 2 ∧ ((s.d.get x.drum).getD (bE, 0)).2 < x.long then (s, bE, 12)
    else if x.kd = 4 ∨ IntKind.i64.wrap (((s.d.get x.drum).getD (bE, 0)).2 - x.long) = 0 then (⟨s.d.del x.drum, s.k⟩, ((s.d.get x.drum).getD (bE, 0)).1, 0)
    else (⟨s.d.put x.drum (((s.d.get x.drum).getD (bE, 0)).1, IntKind.i64.wrap (((s.d.get x.drum).getD (bE, 0)).2 - x.long)), s.k⟩, ((s.d.get x.drum).getD (bE, 0)).1, 0)
  else (s, bE, 8)
set_option maxRecDepth 100000 in
set_option maxHeartbeats 4000000 in
theorem take_pc (s : Sto) (hs : s.ok) (x : Ac) :
    PCp 119 [.c (.ptr 0 0), .agg (encAc x)] [stBox, stoD s, stoK s] (.tup [.c (.str (takeS s x).2.1), .c (.int .i64 (takeS s x).2.2)]) [stBox, stoD (takeS s x).1, stoK (takeS s x).1] := by
  refine fn_sound (mt := mts) tab_fits tab_mixed Tryz.func119 (by rfl) (by kernel_rfl) (by kernel_rfl) Tryz.results119 (Nat.le_of_ble_eq_true (by kernel_rfl)) ?_
  conv => whnf
  repeat' (first | ((first | refine Split.mk (fun h => ?_) (fun h => ?_) | refine CondG.mk (fun h => ?_) (fun h => ?_)) <;> (try simp only [decide_eq_true_eq, decide_eq_false_iff_not, Bool.not_eq_true', Bool.not_eq_false', beq_iff_eq, beq_eq_false_iff_ne] at h) <;> (first | (exfalso; first | omega | exact h trivial) | (conv => whnf))) | (refine Ask.mk (by first | omega | (unfold roomOK; simp [cutRows]; done) | (unfold roomOK; simp [cutRows]; omega)) ?_; conv => whnf) | (refine AppG.mk (by first | omega | (unfold roomOK; simp [cutRows]; done) | (unfold roomOK; simp [cutRows]; omega)) ?_; conv => whnf) | (refine SliceG.fr ?_; conv => whnf) | ((with_reducible refine sm_look (ek := ekS) (ev := evD) keyStr s.d x.drum (bE, 0) ?_ ?_); exact rfl; conv => whnf) | ((with_reducible refine sm_look (ek := ekS) (ev := evK) keyStr s.k _ bE ?_ ?_); exact rfl; conv => whnf) | ((with_reducible refine sm_del (ek := ekS) (ev := evD) keyStr s.d x.drum ?_); conv => whnf) | ((with_reducible refine sm_upd (ek := ekS) (ev := evD) keyStr s.d x.drum (_, _) ?_); conv => whnf) | ((with_reducible refine sm_entry (ek := ekS) (ev := evD) keyStr s.d x.drum (bE, 0) ?_ ?_); exact rfl; conv => whnf) | ((with_reducible refine sm_entry (ek := ekS) (ev := evK) keyStr s.k x.drum bE ?_ ?_); exact rfl; conv => whnf) | ((with_reducible refine sm_stamp (ek := ekS) (ev := evD) hs.d x.drum _ (_, _) ?_ ?_); exact rfl; conv => whnf) | ((with_reducible refine sm_stamp (ek := ekS) (ev := evK) hs.k x.drum _ _ ?_ ?_); exact rfl; conv => whnf) | fail)
  all_goals try ((with_reducible refine sm_upd (ek := ekS) (ev := evD) keyStr s.d x.drum (((s.d.get x.drum).getD (bE, 0)).1, IntKind.i64.wrap (((s.d.get x.drum).getD (bE, 0)).2 - x.long)) ?_); conv => whnf)
  all_goals first
    | (have hT : takeS s x = (s, bE, 6) := by (unfold takeS; simp_all; done)
       rw [hT]; exact .mk ⟨rfl, rfl⟩)
    | (have hT : takeS s x = (s, bE, 8) := by (unfold takeS; simp_all; done)
       rw [hT]; exact .mk ⟨rfl, rfl⟩)
    | (have hT : takeS s x = (s, bE, 12) := by (unfold takeS; simp_all; done)
       rw [hT]; exact .mk ⟨rfl, rfl⟩)
    | (have hT : takeS s x = (⟨s.d.put x.drum (x.ty, x.long), s.k.put x.drum x.ty⟩, x.ty, 0) := by (unfold takeS; simp_all; done)
       rw [hT]; exact .mk ⟨rfl, rfl⟩)
    | (have hT : takeS s x = (⟨s.d.put x.drum ((s.k.get x.of).getD bE, x.long), s.k.put x.drum ((s.k.get x.of).getD bE)⟩, (s.k.get x.of).getD bE, 0) := by (unfold takeS; simp_all; done)
       rw [hT]; exact .mk ⟨rfl, rfl⟩)
    | (have hT : takeS s x = (⟨s.d.del x.drum, s.k⟩, ((s.d.get x.drum).getD (bE, 0)).1, 0) := by (unfold takeS; simp_all; done)
       rw [hT]; exact .mk ⟨rfl, rfl⟩)
    | (have hT : takeS s x = (⟨s.d.put x.drum (((s.d.get x.drum).getD (bE, 0)).1, IntKind.i64.wrap (((s.d.get x.drum).getD (bE, 0)).2 - x.long)), s.k⟩, ((s.d.get x.drum).getD (bE, 0)).1, 0) := by (unfold takeS; simp_all; done)
       rw [hT]; exact .mk ⟨rfl, rfl⟩)
end Go.Proofs.YtobcplhaabaemaaGreat

/- What was used, as the program counts it. -/
namespace Go.Proofs.YtobcplhaabaemaaGreat
set_option linter.unusedVariables false
set_option linter.unusedSimpArgs false
open Abs

/-- the store behind the first acts -/
def stoNil : Sto := ⟨SM.nil, SM.nil⟩
def stoAt (l : List Ac) : Nat → Sto
  | 0 => stoNil
  | k + 1 => (takeS (stoAt l k) (l.getD k ⟨0, 0, bE, bE, bE, 0⟩)).1
theorem takeS_ok {s : Sto} (hs : s.ok) (x : Ac) : (takeS s x).1.ok := by
  unfold takeS
  repeat' split
  all_goals first
    | exact hs
    | exact ⟨hs.d.put _ _, hs.k.put _ _⟩
    | exact ⟨hs.d.del _, hs.k⟩
    | exact ⟨hs.d.put _ _, hs.k⟩
theorem stoAt_ok (l : List Ac) : ∀ k, (stoAt l k).ok
  | 0 => ⟨SM.ok_nil, SM.ok_nil⟩
  | k + 1 => takeS_ok (stoAt_ok l k) _
end Go.Proofs.YtobcplhaabaemaaGreat

/- The least stock, as the program finds it. -/
namespace Go.Proofs.YtobcplhaabaemaaGreat
set_option linter.unusedVariables false
set_option linter.unusedSimpArgs false
open Abs

abbrev DE := Nat × ByteArray × (ByteArray × Int)
def LongOk (s : Sto) : Prop := (∀ e ∈ s.d.es, 0 < e.2.2.2 ∧ e.2.2.2 ≤ 200000) ∧ s.d.es.length ≤ 1000000
end Go.Proofs.YtobcplhaabaemaaGreat

/- The least stock, as the program finds it: all acts. -/
namespace Go.Proofs.YtobcplhaabaemaaGreat
set_option linter.unusedVariables false
set_option linter.unusedSimpArgs false
open Abs

abbrev acD : Ac := ⟨0, 0, bE, bE, bE, 0⟩
end Go.Proofs.YtobcplhaabaemaaGreat

/- The document's store. -/
namespace Go.Proofs.YtobcplhaabaemaaGreat
set_option linter.unusedVariables false
set_option linter.unusedSimpArgs false
open Abs

structure Rto where
  l : SM ByteArray Int
  k : SM ByteArray ByteArray
structure Rto.ok (s : Rto) : Prop where
  l : s.l.ok
  k : s.k.ok
/-- the store behind an act, what was cut, the error -/
def doR (s : Rto) (x : Ac) : Rto × Int × Int :=
  if x.kd = 1 then
    if (s.k.get x.drum).isSome then (s, 0, 6) else (⟨s.l.put x.drum x.long, s.k.put x.drum x.ty⟩, 0, 0)
  else if x.kd = 2 then
    if (s.l.get x.drum).getD 0 = 0 then (s, 0, 8)
    else if (s.l.get x.drum).getD 0 < x.long then (s, 0, 12)
    else (⟨s.l.put x.drum (IntKind.i64.wrap ((s.l.get x.drum).getD 0 - x.long)), s.k⟩, x.long, 0)
  else if x.kd = 3 then
    if (s.k.get x.drum).isSome then (s, 0, 6)
    else if (s.k.get x.of).isSome then (⟨s.l.put x.drum x.long, s.k.put x.drum ((s.k.get x.of).getD bE)⟩, IntKind.i64.wrap (0 - x.long), 0)
    else (s, 0, 8)
  else if (s.l.get x.drum).getD 0 = 0 then (s, 0, 8)
  else (⟨s.l.put x.drum 0, s.k⟩, 0, 0)
end Go.Proofs.YtobcplhaabaemaaGreat

/- What was used, by the document. -/
namespace Go.Proofs.YtobcplhaabaemaaGreat
set_option linter.unusedVariables false
set_option linter.unusedSimpArgs false
open Abs

def rtoNil : Rto := ⟨SM.nil, SM.nil⟩
def rtoAt (l : List Ac) : Nat → Rto
  | 0 => rtoNil
  | k + 1 => (doR (rtoAt l k) (l.getD k acD)).1
theorem doR_ok {s : Rto} (hs : s.ok) (x : Ac) : (doR s x).1.ok := by
  unfold doR
  repeat' split
  all_goals first
    | exact hs
    | exact ⟨hs.l.put _ _, hs.k.put _ _⟩
    | exact ⟨hs.l.put _ _, hs.k⟩
theorem rtoAt_ok (l : List Ac) : ∀ k, (rtoAt l k).ok
  | 0 => ⟨SM.ok_nil, SM.ok_nil⟩
  | k + 1 => doR_ok (rtoAt_ok l k) _
end Go.Proofs.YtobcplhaabaemaaGreat

/- Stock at a moment, by the document. -/
namespace Go.Proofs.YtobcplhaabaemaaGreat
set_option linter.unusedVariables false
set_option linter.unusedSimpArgs false
open Abs

def cntAt (l : List Ac) (t : Int) : Nat := (l.takeWhile fun x => decide (x.mo ≤ t)).length
theorem cntAt_le (l : List Ac) (t : Int) : cntAt l t ≤ l.length := (List.takeWhile_prefix _).length_le
theorem cntAt_in {l : List Ac} {t : Int} {k : Nat} (h : k < cntAt l t) : (l[k]'(by have := cntAt_le l t; omega)).mo ≤ t := by
  have key : ∀ (l : List Ac) (k : Nat) (hk : k < l.length), k < (l.takeWhile fun x => decide (x.mo ≤ t)).length → l[k].mo ≤ t := by
    intro l
    induction l with
    | nil => intro k hk; simp at hk
    | cons a r ih =>
      intro k hk h
      by_cases ha : a.mo ≤ t
      · simp only [List.takeWhile_cons, ha, decide_true, if_true, List.length_cons] at h
        cases k with
        | zero => simpa using ha
        | succ k => simpa using ih k (by simpa using hk) (by omega)
      · simp [List.takeWhile_cons, ha] at h
  exact key l k _ h
theorem cntAt_out {l : List Ac} {t : Int} (h : cntAt l t < l.length) : t < (l[cntAt l t]).mo := by
  unfold cntAt at h ⊢
  induction l with
  | nil => simp at h
  | cons a r ih =>
    by_cases ha : a.mo ≤ t
    · simp only [List.takeWhile_cons, ha, decide_true, if_true, List.length_cons] at h ⊢
      simpa using ih (by simpa using h)
    · simp only [List.takeWhile_cons, ha, decide_false, Bool.false_eq_true, if_false, List.length_nil] at h ⊢
      simp; omega
end Go.Proofs.YtobcplhaabaemaaGreat

/- Stock at a moment, by the document: the list. -/
namespace Go.Proofs.YtobcplhaabaemaaGreat
set_option linter.unusedVariables false
set_option linter.unusedSimpArgs false
open Abs

abbrev LE := Nat × ByteArray × Int
def stE (s : Rto) (e : LE) : Pc := ⟨e.2.1, (s.k.get e.2.1).getD bE, e.2.2⟩
def stL (s : Rto) (es : List LE) : List Pc := (es.filter fun e => decide (0 < e.2.2)).map (stE s)
theorem stL_len (s : Rto) (es : List LE) : (stL s es).length ≤ es.length := by
  unfold stL; rw [List.length_map]; exact List.length_filter_le _ _
/-- metres of a type -/
def sumP (kind : ByteArray) : List Pc → Int
  | [] => 0
  | e :: r => (if e.kind = kind then e.long else 0) + sumP kind r
def ofR (l : List Ac) (kind : ByteArray) (t : Int) : Int := sumP kind (stL (rtoAt l (cntAt l t)) (rtoAt l (cntAt l t)).l.es)
end Go.Proofs.YtobcplhaabaemaaGreat

/- Errors of acts and windows, by the document. -/
namespace Go.Proofs.YtobcplhaabaemaaGreat
set_option linter.unusedVariables false
set_option linter.unusedSimpArgs false
open Abs
set_option maxRecDepth 100000 in
set_option maxHeartbeats 4000000 in
theorem rMoment_pc (n : Int) : PCp 114 [.c (.int .i64 n)] [] (.c (.bool (momB n))) [] := by
  refine fn_sound (mt := mts) tab_fits tab_mixed Tryz.func114 (by rfl) (by kernel_rfl) (by kernel_rfl) Tryz.results114 (Nat.le_of_ble_eq_true (by kernel_rfl)) ?_
  conv => whnf
  repeat' (first | ((first | refine Split.mk (fun h => ?_) (fun h => ?_) | refine CondG.mk (fun h => ?_) (fun h => ?_)) <;> (try simp only [decide_eq_true_eq, decide_eq_false_iff_not, Bool.not_eq_true', Bool.not_eq_false', beq_iff_eq, beq_eq_false_iff_ne] at h) <;> (first | (exfalso; first | omega | exact h trivial) | (conv => whnf))) | (refine CallX.mk _ _ (by first | exact rIn_pc _ _ _) ?_; conv => whnf) | (refine CallG.mk _ _ (by first | exact rIn_pc _ _ _) ?_; conv => whnf) | (refine Ask.mk (by first | omega | (unfold roomOK; simp [cutRows]; done) | (unfold roomOK; simp [cutRows]; omega)) ?_; conv => whnf) | (refine AppG.mk (by first | omega | (unfold roomOK; simp [cutRows]; done) | (unfold roomOK; simp [cutRows]; omega)) ?_; conv => whnf) | (refine SliceG.fr ?_; conv => whnf) | fail)
  exact finb (by unfold momB; rfl)
set_option maxRecDepth 100000 in
set_option maxHeartbeats 4000000 in
theorem rActFault_pc (x : Ac) : PCp 80 [.agg (encAc x)] [] (.c (.int .i64 (actErr x))) [] := by
  refine fn_sound (mt := mts) tab_fits tab_mixed Tryz.func80 (by rfl) (by kernel_rfl) (by kernel_rfl) Tryz.results80 (Nat.le_of_ble_eq_true (by kernel_rfl)) ?_
  conv => whnf
  repeat' (first | ((first | refine Split.mk (fun h => ?_) (fun h => ?_) | refine CondG.mk (fun h => ?_) (fun h => ?_)) <;> (try simp only [decide_eq_true_eq, decide_eq_false_iff_not, Bool.not_eq_true', Bool.not_eq_false', beq_iff_eq, beq_eq_false_iff_ne, bne_iff_ne, bne_eq_false_iff_eq] at h) <;> (first | (exfalso; first | omega | exact h trivial) | (conv => whnf))) | (refine CallX.mk _ _ (by first | exact rKey_pc _ | exact rMoment_pc _ | exact rIn_pc _ _ _) ?_; conv => whnf) | (refine CallG.mk _ _ (by first | exact rKey_pc _ | exact rMoment_pc _ | exact rIn_pc _ _ _) ?_; conv => whnf) | (refine Ask.mk (by first | omega | (unfold roomOK; simp [cutRows]; done) | (unfold roomOK; simp [cutRows]; omega) | (simp [cutRows]; done) | (simp [cutRows]; omega)) ?_; conv => whnf) | (refine AppG.mk (by first | omega | (unfold roomOK; simp [cutRows]; done) | (unfold roomOK; simp [cutRows]; omega) | (simp [cutRows]; done) | (simp [cutRows]; omega)) ?_; conv => whnf) | (refine SliceG.fr ?_; conv => whnf) | (refine idx_at _ (by with_reducible rfl) (by first | assumption | omega) ?_; conv => whnf) | ((with_reducible refine row_map (by first | assumption | omega) ?_); conv => whnf) | ((with_reducible refine row_set (by first | assumption | omega | (simp only [List.length_set]; omega) | (simp; omega)) ?_); conv => whnf) | fail)
  all_goals refine fini ?_
  all_goals unfold actErr
  all_goals generalize (⟨#[]⟩ : ByteArray).toList = nl at *
  all_goals (try simp only [eqRes] at *)
  all_goals first | (simp_all; done) | (simp_all; omega) | ((repeat' split) <;> first | rfl | (exfalso; first | omega | (simp_all; done) | (simp_all; omega)))
theorem cmpB_swap : ∀ a b : List UInt8, Lib.compareBytes a b = - Lib.compareBytes b a
  | [], [] => rfl
  | [], _ :: _ => rfl
  | _ :: _, [] => rfl
  | x :: xs, y :: ys => by
    have ih := cmpB_swap xs ys
    unfold Lib.compareBytes
    repeat' split
    all_goals first
      | rfl
      | exact ih
      | (exfalso; simp_all [UInt8.lt_iff_toNat_lt]; omega)
      | (exfalso; simp_all)
theorem cmpB_zero : ∀ a b : List UInt8, Lib.compareBytes a b = 0 ↔ a = b
  | [], [] => by simp [Lib.compareBytes]
  | [], _ :: _ => by simp [Lib.compareBytes]
  | _ :: _, [] => by simp [Lib.compareBytes]
  | x :: xs, y :: ys => by
    have ih := cmpB_zero xs ys
    unfold Lib.compareBytes
    split
    · rename_i h
      constructor
      · intro e; cases e
      · intro e; cases e; exact absurd h (UInt8.lt_irrefl x)
    · split
      · rename_i h
        constructor
        · intro e; cases e
        · intro e; cases e; exact absurd h (UInt8.lt_irrefl x)
      · rename_i h1 h2
        have hxy : x = y := by
          rw [UInt8.lt_iff_toNat_lt] at h1 h2
          exact UInt8.toNat_inj.1 (by omega)
        rw [ih, hxy]; simp
theorem cmpS_swap (a b : ByteArray) : cmpS a b = - cmpS b a := cmpB_swap ..
theorem cmpS_zero {a b : ByteArray} : cmpS a b = 0 ↔ a = b := by
  unfold cmpS
  rw [cmpB_zero]
  exact ⟨fun h => ByteArray.ext (Array.toList_inj.1 h), fun h => by rw [h]⟩
theorem cmpI_zero {a b : Int} : cmpI a b = 0 ↔ a = b := by unfold cmpI; repeat' split <;> omega
theorem sgn_sub {a b : Int} (ha : -1000000000000 ≤ a ∧ a ≤ 1000000000000) (hb : -1000000000000 ≤ b ∧ b ≤ 1000000000000) : sgn (IntKind.i64.wrap (a - b)) = cmpI a b := by
  rw [wrap_in (by omega) (by omega)]
  unfold sgn cmpI
  repeat' split
  all_goals omega
theorem actErr_in {x : Ac} (h : actErr x = 0) : 0 ≤ x.mo ∧ x.mo ≤ 345686399999 ∧ 1 ≤ x.kd ∧ x.kd ≤ 4 ∧ 0 ≤ x.long ∧ x.long ≤ 200000 ∧ (x.kd ≠ 4 → 1 ≤ x.long) ∧ keyB x.drum = true ∧ (x.kd = 1 → keyB x.ty = true) ∧ (x.kd = 3 → keyB x.of = true) := by
  unfold actErr at h
  split at h
  · cases h
  split at h
  · cases h
  split at h
  · cases h
  split at h
  · cases h
  split at h
  · cases h
  rename_i h1 h2 h3 h4 h5
  have h1 : momB x.mo = true := by simpa using h1
  have h1 := of_decide_eq_true h1
  simp only [Bool.or_eq_true, not_or, Bool.not_eq_true', Bool.not_eq_false, Bool.and_eq_true, beq_iff_eq, not_and] at h3
  refine ⟨h1.1, h1.2, by omega, by omega, by omega, by omega, by omega, h3.1.1, ?_, ?_⟩
  · intro e; simpa using h3.1.2 e
  · intro e; simpa using h3.2 e
/-- both orders are one -/
theorem ord_time {x y : Ac} (hx : actErr x = 0) (hy : actErr y = 0) : ordC y x = timeC y x ∧ timeC y x = - timeC x y := by
  have a := actErr_in hx
  have b := actErr_in hy
  have e1 := sgn_sub (a := y.mo) (b := x.mo) (by omega) (by omega)
  have e2 := sgn_sub (a := y.kd) (b := x.kd) (by omega) (by omega)
  have e3 := sgn_sub (a := y.long) (b := x.long) (by omega) (by omega)
  have w : ∀ p q : Int, cmpI p q = - cmpI q p := by intro p q; unfold cmpI; repeat' split <;> omega
  constructor
  · unfold ordC timeC
    rw [e1, e2, e3]
    simp only [firstErr, cmpI_zero, cmpS_zero]
    have hl : (if y.long = x.long then (0 : Int) else cmpI y.long x.long) = cmpI y.long x.long := by
      split
      · rename_i e; exact (cmpI_zero.2 e).symm
      · rfl
    rw [hl]
    by_cases h1 : y.mo = x.mo
    · rw [if_neg (fun h => h h1), if_pos h1]
      by_cases h2 : y.drum = x.drum
      · rw [if_neg (fun h => h h2), if_pos h2]
        by_cases h3 : y.kd = x.kd
        · rw [if_neg (fun h => h h3), if_pos h3]
          by_cases h4 : y.ty = x.ty
          · rw [if_neg (fun h => h h4), if_pos h4]
            by_cases h5 : y.of = x.of
            · rw [if_neg (fun h => h h5), if_pos h5]
            · rw [if_pos h5, if_neg h5]
          · rw [if_pos h4, if_neg h4]
        · rw [if_pos h3, if_neg h3]
      · rw [if_pos h2, if_neg h2]
    · rw [if_pos h1, if_neg h1]
  · have key : ∀ l : List Int, firstErr (l.map fun z => -z) = - firstErr l := by
      intro l
      induction l with
      | nil => rfl
      | cons a r ih =>
        simp only [List.map_cons, firstErr, ih, Int.neg_eq_zero]
        split <;> rfl
    unfold timeC
    rw [w y.mo x.mo, cmpS_swap y.drum x.drum, w y.kd x.kd, cmpS_swap y.ty x.ty, cmpS_swap y.of x.of, w y.long x.long]
    exact key [cmpI x.mo y.mo, cmpS x.drum y.drum, cmpI x.kd y.kd, cmpS x.ty y.ty, cmpS x.of y.of, cmpI x.long y.long]
set_option maxRecDepth 100000 in
set_option maxHeartbeats 4000000 in
theorem rActs_pc (l : List Ac) : PCp 46 [.c (.lst 6 (l.map encAc))] [] (.c (.int .i64 (actsFault l))) [] := by
  have hlm : (l.map encAc).length = l.length := List.length_map ..
  refine fn_sound (mt := mts) tab_fits tab_mixed Tryz.func46 (by rfl) (by kernel_rfl) (by kernel_rfl) Tryz.results46 (Nat.le_of_ble_eq_true (by kernel_rfl)) ?_
  conv => whnf
  repeat' (first | ((first | refine Split.mk (fun h => ?_) (fun h => ?_) | refine CondG.mk (fun h => ?_) (fun h => ?_)) <;> (try simp only [decide_eq_true_eq, decide_eq_false_iff_not, Bool.not_eq_true', Bool.not_eq_false', beq_iff_eq, beq_eq_false_iff_ne, bne_iff_ne, bne_eq_false_iff_eq] at h) <;> (first | (exfalso; first | omega | exact h trivial) | (conv => whnf))) | (refine Ask.mk (by first | omega | (unfold roomOK; simp [cutRows]; done) | (unfold roomOK; simp [cutRows]; omega) | (simp [cutRows]; done) | (simp [cutRows]; omega)) ?_; conv => whnf) | (refine AppG.mk (by first | omega | (unfold roomOK; simp [cutRows]; done) | (unfold roomOK; simp [cutRows]; omega) | (simp [cutRows]; done) | (simp [cutRows]; omega)) ?_; conv => whnf) | (refine SliceG.fr ?_; conv => whnf) | (refine idx_at _ (by with_reducible rfl) (by first | assumption | omega) ?_; conv => whnf) | ((with_reducible refine row_map (by first | assumption | omega) ?_); conv => whnf) | ((with_reducible refine row_set (by first | assumption | omega | (simp only [List.length_set]; omega) | (simp; omega)) ?_); conv => whnf) | fail)
  · exact fini (by rw [actsFault, if_pos (by omega)])
  have hF : actsFault l = actsErr none l := by rw [actsFault, if_neg (by omega)]
  refine loop_count (l.length) [] [0, 9, 10, 11] (fun k (_ : Unit) => ⟨[(0, .c (.lst 6 (l.map encAc))), (9, .c (.lst 6 (l.map encAc))), (10, .c (.int .i64 (l.map encAc).length)), (11, .c (.int .i64 k))], [], 0⟩) (fun k (_ : Unit) => actsErr (prevAt l k) (l.drop k) = actsErr none l ∧ ∀ i (h : i < l.length), i < k → actErr l[i] = 0) (()) ?_ ?_ ?_
  · conv => whnf
    exact ⟨rfl, rfl, by intro i h hi; omega⟩
  · intro k _ hk ⟨hi, hz⟩
    rw [drop_cons hk, actsErr] at hi
    have hp1 : prevAt l (k + 1) = some l[k] := by simp [prevAt, hk]
    have hz1 : actErr l[k] = 0 → ∀ i (h : i < l.length), i < k + 1 → actErr l[i] = 0 := by
      intro h0 i h hik
      rcases Nat.lt_or_ge i k with h3 | h3
      · exact hz i h h3
      · have : i = k := by omega
        subst this; exact h0
    conv => whnf
    repeat' (first | ((first | refine Split.mk (fun h => ?_) (fun h => ?_) | refine CondG.mk (fun h => ?_) (fun h => ?_)) <;> (try simp only [decide_eq_true_eq, decide_eq_false_iff_not, Bool.not_eq_true', Bool.not_eq_false', beq_iff_eq, beq_eq_false_iff_ne, bne_iff_ne, bne_eq_false_iff_eq] at h) <;> (first | (exfalso; first | omega | exact h trivial) | (conv => whnf))) | (refine CallX.mk _ _ (by first | exact rActFault_pc _) ?_; conv => whnf) | (refine CallG.mk _ _ (by first | exact rActFault_pc _) ?_; conv => whnf) | (refine Ask.mk (by first | omega | (unfold roomOK; simp [cutRows]; done) | (unfold roomOK; simp [cutRows]; omega) | (simp [cutRows]; done) | (simp [cutRows]; omega)) ?_; conv => whnf) | (refine AppG.mk (by first | omega | (unfold roomOK; simp [cutRows]; done) | (unfold roomOK; simp [cutRows]; omega) | (simp [cutRows]; done) | (simp [cutRows]; omega)) ?_; conv => whnf) | (refine SliceG.fr ?_; conv => whnf) | (refine idx_at _ (by with_reducible rfl) (by first | assumption | omega) ?_; conv => whnf) | ((with_reducible refine row_map (by first | assumption | omega) ?_); conv => whnf) | ((with_reducible refine row_set (by first | assumption | omega | (simp only [List.length_set]; omega) | (simp; omega)) ?_); conv => whnf) | fail)
    · rw [if_pos h] at hi
      exact fini (by rw [hF, ← hi])
    · rename_i h0
      rw [if_neg (by simpa using h0)] at hi
      have h0 : actErr l[k] = 0 := by simpa using h0
      have hk1 : IntKind.i64.wrap ((k : Int) - 1) = ((k - 1 : Nat) : Int) := by rw [wrap_in (by omega) (by omega)]; omega
      have hp : prevAt l k = some (l[k - 1]'(by omega)) := by rw [prevAt, if_neg (by omega)]; exact List.getElem?_eq_getElem (by omega)
      rw [hp] at hi
      have ho := ord_time (x := l[k]) (y := l[k - 1]'(by omega)) h0 (hz (k - 1) (by omega) (by omega))
      refine idx_map (k - 1) (by omega) hk1 ?_
      conv => whnf
      repeat' (first | ((first | refine Split.mk (fun h => ?_) (fun h => ?_) | refine CondG.mk (fun h => ?_) (fun h => ?_)) <;> (try simp only [decide_eq_true_eq, decide_eq_false_iff_not, Bool.not_eq_true', Bool.not_eq_false', beq_iff_eq, beq_eq_false_iff_ne, bne_iff_ne, bne_eq_false_iff_eq] at h) <;> (first | (exfalso; first | omega | exact h trivial) | (conv => whnf))) | (refine CallX.mk _ _ (by first | exact actOrder_pc _ _) ?_; conv => whnf) | (refine CallG.mk _ _ (by first | exact actOrder_pc _ _) ?_; conv => whnf) | (refine Ask.mk (by first | omega | (unfold roomOK; simp [cutRows]; done) | (unfold roomOK; simp [cutRows]; omega) | (simp [cutRows]; done) | (simp [cutRows]; omega)) ?_; conv => whnf) | (refine AppG.mk (by first | omega | (unfold roomOK; simp [cutRows]; done) | (unfold roomOK; simp [cutRows]; omega) | (simp [cutRows]; done) | (simp [cutRows]; omega)) ?_; conv => whnf) | (refine SliceG.fr ?_; conv => whnf) | (refine idx_at _ (by with_reducible rfl) (by first | assumption | omega) ?_; conv => whnf) | ((with_reducible refine row_map (by first | assumption | omega) ?_); conv => whnf) | ((with_reducible refine row_set (by first | assumption | omega | (simp only [List.length_set]; omega) | (simp; omega)) ?_); conv => whnf) | fail)
      · rw [if_pos (by simp only [badPrev, decide_eq_true_eq]; omega)] at hi
        exact fini (by rw [hF, ← hi])
      · rw [if_neg (by simp only [badPrev, decide_eq_true_eq]; omega)] at hi
        refine count_next () hk (by rw [wrap_succ hk (by omega)]; rfl) ?_
        exact ⟨by rw [hp1]; exact hi, hz1 h0⟩
    · have h0 : k = 0 := by omega
      have h1 : actErr l[k] = 0 := by simp_all
      subst h0
      rw [if_neg (by simp [h1]), if_neg (by simp [badPrev, prevAt])] at hi
      refine count_next () hk (by rw [wrap_succ hk (by omega)]; rfl) ?_
      exact ⟨by rw [hp1]; exact hi, hz1 h1⟩
  · intro _ ⟨hi, _⟩
    rw [List.drop_of_length_le (Nat.le_refl _)] at hi
    conv => whnf
    repeat' (first | ((first | refine Split.mk (fun h => ?_) (fun h => ?_) | refine CondG.mk (fun h => ?_) (fun h => ?_)) <;> (try simp only [decide_eq_true_eq, decide_eq_false_iff_not, Bool.not_eq_true', Bool.not_eq_false', beq_iff_eq, beq_eq_false_iff_ne] at h) <;> (first | (exfalso; first | omega | exact h trivial) | (conv => whnf))) | (refine Ask.mk (by first | omega | (unfold roomOK; simp [cutRows]; done) | (unfold roomOK; simp [cutRows]; omega)) ?_; conv => whnf) | (refine AppG.mk (by first | omega | (unfold roomOK; simp [cutRows]; done) | (unfold roomOK; simp [cutRows]; omega)) ?_; conv => whnf) | (refine SliceG.fr ?_; conv => whnf) | fail)
    exact fini (by rw [hF, ← hi]; rfl)
end Go.Proofs.YtobcplhaabaemaaGreat

/- Comparisons, one behind another; sorting by insertion keeps the order of equal ones. -/
namespace Go.Proofs.YtobcplhaabaemaaGreat
set_option linter.unusedVariables false
set_option linter.unusedSimpArgs false
open Abs

/-- a comparison -/
structure Cmp {α : Type} (c : α → α → Int) : Prop where
  anti : ∀ a b, c b a = - c a b
  trans : ∀ a b d, c a b ≤ 0 → c b d ≤ 0 → c a d ≤ 0
theorem Cmp.lt {α : Type} {c : α → α → Int} (h : Cmp c) {a b d : α} (h1 : c a b ≤ 0) (h2 : c b d ≤ 0) (h3 : c a b < 0 ∨ c b d < 0) : c a d < 0 := by
  have h4 := h.trans a b d h1 h2
  rcases Int.lt_or_le (c a d) 0 with h5 | h5
  · exact h5
  · have a1 := h.anti a d
    have a2 := h.anti a b
    have a3 := h.anti b d
    rcases h3 with h3 | h3
    · have := h.trans b d a h2 (by omega); omega
    · have := h.trans d a b (by omega) h1; omega
theorem Cmp.swo {α : Type} {c : α → α → Int} (h : Cmp c) : SWOc c where
  irrefl x := by have := h.anti x x; omega
  trans x y z h1 h2 := h.lt (by omega) (by omega) (.inl h1)
  ntrans x y z h1 h2 := by
    have a1 := h.anti x y
    have a2 := h.anti y z
    have a3 := h.anti x z
    have := h.trans z y x (by omega) (by omega)
    omega
end Go.Proofs.YtobcplhaabaemaaGreat

/- Strings sorted (a few), and what numbers look like: Itoa by the kit's contract. -/
namespace Go.Proofs.YtobcplhaabaemaaGreat
set_option linter.unusedVariables false
set_option linter.unusedSimpArgs false
open Abs

/-! what a function of the library gives that makes new memory of its own -/
theorem Nx.grown {F : Nat → Prop} {φ : Nat → Option Value} {w : World} {N : Nat → Prop} {h : Nat → Option Ob} (k : Nat) (os : Array Obj) : Nx F φ w h N [] F φ (Sort.grow (w.drewN k) os) where
  hF _ h := h
  hφ _ _ h := h
  nφ _ _ h := .inl h
  os := rfl
  tape := rfl
  output := rfl
  drawn _ := Nat.le_add_right _ _
  size := by simp [Sort.grow, World.drewN]
  keep b hb hne := (hne (by simp only [Sort.grow, World.drewN]; rw [Array.getElem?_append_left hb])).elim
  nF b h := .inl h
  objs l o h := by simp [chGet] at h
  own l o b h := by simp [chGet] at h
  inj l l' o o' b h := by simp [chGet] at h
end Go.Proofs.YtobcplhaabaemaaGreat

/- Lists of acts joined: slices.Grow by the kit's contract, slices.Concat. -/
namespace Go.Proofs.YtobcplhaabaemaaGreat
set_option linter.unusedVariables false
set_option linter.unusedSimpArgs false
open Abs

theorem growAct_pc (n : Nat) (hn : n ≤ 100000) : PCp 82 [.c .nils, .c (.int .i64 n)] [] (.c (.row 0)) [.row 44 6 []] := by
  refine ⟨⟨_, Tryz.func82, by kernel_rfl, by kernel_rfl⟩, fun F φ w cs hp hrp hφ => ?_⟩
  have hφ0 : φ 0 = none := by
    cases h : φ 0 with
    | none => rfl
    | some c => have := hφ 0 c h; simp at this
  have hcs : cs = #[.slice none 0 0, .int .i64 n] := by
    obtain ⟨x, xs, e1, r1, hp⟩ := hp.cons_inv
    obtain ⟨y, ys, e2, r2, hp⟩ := hp.cons_inv
    have := hp.nil_inv
    subst this
    subst e2
    apply Array.ext'
    have hx : x = .slice none 0 0 := by
      cases r1 with | c hv => cases hv with | tree ht => cases ht; rfl
    rw [e1, hx, r2.int_inv]
  subst hcs
  obtain ⟨i0, z, d, hi, hsz, hby, hz, ⟨hzc, _⟩, _⟩ := tab_fits 44 _ rfl
  by_cases h0 : n = 0
  · subst h0
    refine (Any8.slices_Grow_room layGrowStoreAct none 0 0 0 w (by omega) (by omega) (by omega) (by omega)).mono ?_
    rintro e w' ⟨rfl, rfl⟩
    refine ⟨_, F, addφ φ 0 (.slice none 0 0), _, _, ⟨rfl, rfl⟩, rfl, .c (.row 0 _ (by simp [addφ])), nx_made (by simp) hφ0 _ rfl _ rfl rfl rfl (fun _ => Nat.le_refl _) (Nat.le_refl _) (fun b h => rfl) (fun b h => by simp [hb] at h) ?_⟩
    exact RO.mkrow (c := .slice none 0 0) (xs := []) (by simp [addφ]) (fun b h => by simp [hb] at h) ⟨by simp, .inl ⟨rfl, rfl⟩⟩ P2.nil (by simp)
  · refine (Any8.slices_Grow_grow layGrowStoreAct i0 z hi hz (by rw [hsz]; decide) none 0 0 n [] w (by omega) (by omega) (by rw [hby]; show (0 + n) * 72 ≤ 140737488355328; omega) (by omega) (by simp) (fun _ => rfl) (fun a h => by cases h)).mono ?_
    rintro e w' ⟨he, hw⟩
    have hc1 := grownCap_ge w (0 + n) 0 44
    have hc2 := grownCap_le_maxLen w (0 + n) 0 44 (Nat.le_trans (show 0 + n ≤ 100000 by omega) (by decide))
    rw [show layGrowStoreAct_ren.t 25 = 44 from rfl] at he hw
    generalize grownCap w (0 + n) 0 44 = cap at hc1 hc2 he hw
    subst he
    have hblk : ∀ b, hb (Value.slice (some ⟨w.heap.size, 0, none⟩) 0 cap) = some b → b = w.heap.size := fun b h => by
      cases cap with
      | zero => simp [hb] at h
      | succ m =>
        have h : some w.heap.size = some b := h
        cases h; rfl
    have hsize : w'.heap.size = w.heap.size + 1 := by rw [hw]; exact Array.size_push ..
    have hold : ∀ b, b < w.heap.size → w'.heap[b]? = w.heap[b]? := fun b h => by rw [hw]; exact heap_alloc_old w.drew _ h
    have hnew := heap_alloc_new w.drew (.cells (([] : List Value).toArray ++ Builtin.zeroCells z.cells (0 + n - 0) ++ Builtin.zeroCells z.cells (cap - (0 + n))) 44)
    rw [← hw] at hnew
    refine ⟨_, F, addφ φ 0 (.slice (some ⟨w.heap.size, 0, none⟩) 0 cap), _, _, ⟨rfl, rfl⟩, rfl, .c (.row 0 _ (by simp [addφ])), nx_made (by simp) hφ0 _ rfl _ (by rw [hw]; rfl) (by rw [hw]; rfl) (by rw [hw]; rfl) (by rw [hw]; exact fun _ => Nat.le_succ _) (by omega) hold (fun b h => by rw [hblk b h]; exact Nat.le_refl _) ?_⟩
    refine .inl ⟨.slice (some ⟨w.heap.size, 0, none⟩) 0 cap, [], by simp [addφ], fun b h hF => ?_, ⟨⟨by simp, .inr ⟨w.heap.size, cap, _, rfl, Nat.zero_le _, hnew, Nat.zero_le _, hc2, ?_, by simp⟩⟩, ?_⟩, P2.nil, by simp⟩
    · have := hrp.bd b hF
      rw [hblk b h] at this
      omega
    · have hz6 : z.cells.size = 6 := hzc
      simp only [Array.size_append, List.size_toArray, List.length_nil, size_zeroCells, hz6]
      omega
    · cases cap with
      | zero => omega
      | succ m => trivial
set_option maxRecDepth 100000 in
set_option maxHeartbeats 4000000 in
theorem concat_pc (a b : List Ac) (ha : a.length ≤ 1000) (hb' : b.length ≤ 1000) :
    PCp 49 [.c (.lst 1 [[.lst 6 (a.map encAc)], [.lst 6 (b.map encAc)]])] [] (.c (.row 0)) [.row 44 6 ((a ++ b).map encAc)] := by
  have ham : (a.map encAc).length = a.length := List.length_map ..
  have hbm : (b.map encAc).length = b.length := List.length_map ..
  have w1 : IntKind.i64.wrap (0 + ((a.map encAc).length : Int)) = ((a.map encAc).length : Int) := by rw [wrap_in (by omega) (by omega)]; omega
  have w2 : IntKind.i64.wrap (((a.map encAc).length : Int) + ((b.map encAc).length : Int)) = (((a.map encAc).length + (b.map encAc).length : Nat) : Int) := by rw [wrap_in (by omega) (by omega)]; omega
  have e1 : IntKind.i64.wrap 1 = 1 := by decide
  have e2 : IntKind.i64.wrap 2 = 2 := by decide
  refine fn_sound (mt := mts) tab_fits tab_mixed Tryz.func49 (by rfl) (by kernel_rfl) (by kernel_rfl) Tryz.results49 (Nat.le_of_ble_eq_true (by kernel_rfl)) ?_
  conv => whnf
  refine .un 3 ?_
  conv => whnf
  refine .mk (fun _ => ?_) (fun h => absurd h (by simp))
  conv => whnf
  refine .mk _ ⟨by decide, rfl⟩ ?_
  conv => whnf
  rw [w1]
  refine .mk (fun h => absurd h (by simp)) (fun _ => ?_)
  conv => whnf
  refine .mk (fun _ => ?_) (fun h => absurd h (by simp [e1]))
  conv => whnf
  refine .mk _ ⟨by decide, rfl⟩ ?_
  conv => whnf
  rw [w2]
  refine .mk (fun h => absurd h (by simp; omega)) (fun _ => ?_)
  conv => whnf
  refine .mk (fun h => absurd h (by simp [e1, e2])) (fun _ => ?_)
  conv => whnf
  refine .mk _ _ (growAct_pc _ (by omega)) ?_
  conv => whnf
  refine .un 3 ?_
  conv => whnf
  refine .mk (fun _ => ?_) (fun h => absurd h (by simp))
  conv => whnf
  refine .mk _ ⟨by decide, rfl⟩ ?_
  conv => whnf
  refine .mk (by unfold roomOK; simp; omega) ?_
  conv => whnf
  refine .mk (fun _ => ?_) (fun h => absurd h (by simp [e1]))
  conv => whnf
  refine .mk _ ⟨by decide, rfl⟩ ?_
  conv => whnf
  refine .mk (by unfold roomOK; simp; omega) ?_
  conv => whnf
  refine .mk (fun h => absurd h (by simp [e1, e2])) (fun _ => ?_)
  conv => whnf
  rw [List.map_append]
  exact .mk ⟨rfl, rfl⟩
end Go.Proofs.YtobcplhaabaemaaGreat

/- The two stores are one. -/
namespace Go.Proofs.YtobcplhaabaemaaGreat
set_option linter.unusedVariables false
set_option linter.unusedSimpArgs false
open Abs

section
variable {κ β : Type} [DecidableEq κ]
theorem get_of_mem {s : SM κ β} (h : s.ok) {e : Nat × κ × β} (he : e ∈ s.es) : s.get e.2.1 = some e.2.2 := by
  have hk := h.kn
  unfold SM.get SM.m at *
  generalize s.es = es at he hk
  clear h
  induction es with
  | nil => cases he
  | cons a r ih =>
    simp only [List.map_cons, List.nodup_cons] at hk
    rcases List.mem_cons.1 he with rfl | he
    · simp [mget]
    · have hne : ¬ a.2.1 = e.2.1 := by
        intro h2
        exact hk.1 (by rw [h2]; exact List.mem_map.2 ⟨e.2, List.mem_map.2 ⟨e, he, rfl⟩, rfl⟩)
      have := ih he hk.2
      simpa [mget, List.find?_cons, hne] using this
theorem mem_of_get {s : SM κ β} {x : κ} {y : β} (h : s.get x = some y) : ∃ n, (n, x, y) ∈ s.es := by
  unfold SM.get SM.m at h
  generalize s.es = es at h
  induction es with
  | nil => simp [mget] at h
  | cons a r ih =>
    by_cases hx : a.2.1 = x
    · have hy : a.2.2 = y := by simpa [mget, List.find?_cons, hx] using h
      exact ⟨a.1, by rw [← hx, ← hy]; simp⟩
    · obtain ⟨n, hn⟩ := ih (by simpa [mget, List.find?_cons, hx] using h)
      exact ⟨n, by simp [hn]⟩
end
/-- what the program's store has, by the document's -/
def seen (r : Rto) (d : ByteArray) : Option (ByteArray × Int) := if 0 < (r.l.get d).getD 0 then some ((r.k.get d).getD bE, (r.l.get d).getD 0) else none
structure Rel (s : Sto) (r : Rto) : Prop where
  k : ∀ d, s.k.get d = r.k.get d
  d : ∀ d, s.d.get d = seen r d
  n : ∀ d, 0 ≤ (r.l.get d).getD 0 ∧ (r.l.get d).getD 0 ≤ 200000
  h : ∀ d, 0 < (r.l.get d).getD 0 → (r.k.get d).isSome = true
theorem rel_nil : Rel stoNil rtoNil := ⟨fun _ => rfl, fun _ => rfl, fun _ => ⟨by show (0 : Int) ≤ 0; decide, by show (0 : Int) ≤ 200000; decide⟩, fun d h => by have : (0 : Int) < 0 := h; omega⟩
theorem rel_step {s : Sto} {r : Rto} (hs : s.ok) (h : Rel s r) {x : Ac} (hx : actErr x = 0) :
    Rel (takeS s x).1 (doR r x).1 ∧ (takeS s x).2.2 = (doR r x).2.2 ∧ ((doR r x).2.2 = 0 → (takeS s x).2.1 = ((doR r x).1.k.get x.drum).getD bE ∧ (doR r x).2.1 = if x.kd = 2 then x.long else if x.kd = 3 then - x.long else 0) := by
  have a := actErr_in hx
  have hk := h.k x.drum
  have ho := h.k x.of
  have hd := h.d x.drum
  have hn := h.n x.drum
  have hh := h.h x.drum
  have hwn : IntKind.i64.wrap (0 - x.long) = - x.long := by rw [wrap_in (by omega) (by omega)]; omega
  have hput : ∀ (t : ByteArray) (n : Int), 0 < n → n ≤ 200000 → Rel ⟨s.d.put x.drum (t, n), s.k.put x.drum t⟩ ⟨r.l.put x.drum n, r.k.put x.drum t⟩ := by
    intro t n h1 h2
    refine ⟨fun d => ?_, fun d => ?_, fun d => ?_, fun d => ?_⟩
    · rw [SM.get_put, SM.get_put, h.k d]
    · simp only [seen, SM.get_put]
      split
      · simp [h1]
      · rw [h.d d]; rfl
    · simp only [SM.get_put]
      split
      · simp; omega
      · exact h.n d
    · simp only [SM.get_put]
      split
      · simp
      · exact h.h d
  by_cases k1 : x.kd = 1
  · have hne : takeS s x = if (s.k.get x.drum).isSome then (s, bE, 6) else (⟨s.d.put x.drum (x.ty, x.long), s.k.put x.drum x.ty⟩, x.ty, 0) := by
      unfold takeS; rw [if_pos (.inl k1)]; simp only [k1, if_true]
    have hre : doR r x = if (r.k.get x.drum).isSome then (r, 0, 6) else (⟨r.l.put x.drum x.long, r.k.put x.drum x.ty⟩, 0, 0) := by
      unfold doR; rw [if_pos k1]
    rw [hne, hre, hk]
    split
    · exact ⟨h, rfl, fun e => by cases e⟩
    · exact ⟨hput _ _ (by omega) (by omega), rfl, fun _ => ⟨by simp [SM.get_put], by simp [k1]⟩⟩
  by_cases k3 : x.kd = 3
  · have hne : takeS s x = if (s.k.get x.drum).isSome then (s, bE, 6) else if (s.k.get x.of).isSome then (⟨s.d.put x.drum ((s.k.get x.of).getD bE, x.long), s.k.put x.drum ((s.k.get x.of).getD bE)⟩, (s.k.get x.of).getD bE, 0) else (s, bE, 8) := by
      unfold takeS; rw [if_pos (.inr k3)]; simp only [k1, if_false]
    have hre : doR r x = if (r.k.get x.drum).isSome then (r, 0, 6) else if (r.k.get x.of).isSome then (⟨r.l.put x.drum x.long, r.k.put x.drum ((r.k.get x.of).getD bE)⟩, IntKind.i64.wrap (0 - x.long), 0) else (r, 0, 8) := by
      unfold doR; rw [if_neg k1, if_neg (by omega), if_pos k3]
    rw [hne, hre, hk, ho]
    split
    · exact ⟨h, rfl, fun e => by cases e⟩
    · split
      · exact ⟨hput _ _ (by omega) (by omega), rfl, fun _ => ⟨by simp [SM.get_put], by rw [hwn]; simp [k3]⟩⟩
      · exact ⟨h, rfl, fun e => by cases e⟩
  have hin : (s.d.get x.drum).isSome = decide (0 < (r.l.get x.drum).getD 0) := by
    rw [hd]; unfold seen; split <;> simp_all
  have hne : takeS s x = if (s.d.get x.drum).isSome then (if x.kd = 2 ∧ ((s.d.get x.drum).getD (bE, 0)).2 < x.long then (s, bE, 12)
    else if x.kd = 4 ∨ IntKind.i64.wrap (((s.d.get x.drum).getD (bE, 0)).2 - x.long) = 0 then (⟨s.d.del x.drum, s.k⟩, ((s.d.get x.drum).getD (bE, 0)).1, 0)
    else (⟨s.d.put x.drum (((s.d.get x.drum).getD (bE, 0)).1, IntKind.i64.wrap (((s.d.get x.drum).getD (bE, 0)).2 - x.long)), s.k⟩, ((s.d.get x.drum).getD (bE, 0)).1, 0)) else (s, bE, 8) := by
    unfold takeS; rw [if_neg (by omega)]
  rw [hne, hin]
  by_cases h0 : 0 < (r.l.get x.drum).getD 0
  · have hv : (s.d.get x.drum).getD (bE, 0) = ((r.k.get x.drum).getD bE, (r.l.get x.drum).getD 0) := by rw [hd, seen, if_pos h0]; rfl
    rw [hv]
    generalize hg : (r.l.get x.drum).getD 0 = n at *
    have hw : IntKind.i64.wrap (n - x.long) = n - x.long := wrap_in (by omega) (by omega)
    simp only [h0, decide_true, if_true, hw]
    -- what is left of a drum
    have hres : ∀ m : Int, 0 ≤ m → m ≤ 200000 → Rel ⟨if m = 0 then s.d.del x.drum else s.d.put x.drum ((r.k.get x.drum).getD bE, m), s.k⟩ ⟨r.l.put x.drum m, r.k⟩ := by
      intro m m0 m1
      refine ⟨fun d => h.k d, fun d => ?_, fun d => ?_, fun d => ?_⟩
      · simp only [seen, SM.get_put]
        split
        · rename_i e
          rw [SM.get_del hs.d]
          by_cases hxd : x.drum = d
          · simp [hxd, e]
          · simp only [if_neg hxd]; rw [h.d d]; rfl
        · rename_i e
          rw [SM.get_put]
          by_cases hxd : x.drum = d
          · subst hxd; simp; omega
          · simp only [if_neg hxd]; rw [h.d d]; rfl
      · simp only [SM.get_put]
        split
        · simp; omega
        · exact h.n d
      · simp only [SM.get_put]
        split
        · rename_i e; intro _; rw [← e]; exact hh h0
        · exact h.h d
    by_cases k2 : x.kd = 2
    · have hre : doR r x = if n < x.long then (r, 0, 12) else (⟨r.l.put x.drum (n - x.long), r.k⟩, x.long, 0) := by
        unfold doR; rw [if_neg k1, if_pos k2, hg, if_neg (by omega), hw]
      rw [hre]
      by_cases hlt : n < x.long
      · rw [if_pos ⟨k2, hlt⟩, if_pos hlt]; exact ⟨h, rfl, fun e => by cases e⟩
      · rw [if_neg (fun e => hlt e.2), if_neg hlt]
        have hr := hres (n - x.long) (by omega) (by omega)
        by_cases hz : n - x.long = 0
        · rw [if_pos (.inr hz)]; rw [if_pos hz] at hr; exact ⟨hr, rfl, fun _ => ⟨rfl, by simp [k2]⟩⟩
        · rw [if_neg (by omega)]; rw [if_neg hz] at hr; exact ⟨hr, rfl, fun _ => ⟨rfl, by simp [k2]⟩⟩
    · have k4 : x.kd = 4 := by omega
      have hre : doR r x = (⟨r.l.put x.drum 0, r.k⟩, 0, 0) := by
        unfold doR; rw [if_neg k1, if_neg k2, if_neg k3, hg, if_neg (by omega)]
      rw [hre, if_neg (fun e => k2 e.1), if_pos (.inl k4)]
      have hr := hres 0 (by omega) (by omega)
      rw [if_pos rfl] at hr
      exact ⟨hr, rfl, fun _ => ⟨rfl, by simp [k4]⟩⟩
  · have hz : (r.l.get x.drum).getD 0 = 0 := by omega
    have hre : doR r x = (r, 0, 8) := by
      unfold doR; rw [if_neg k1]
      by_cases k2 : x.kd = 2
      · rw [if_pos k2, if_pos hz]
      · rw [if_neg k2, if_neg k3, if_pos hz]
    rw [hre]
    rw [show decide (0 < (r.l.get x.drum).getD 0) = false from decide_eq_false h0]
    exact ⟨h, rfl, fun e => by cases e⟩
theorem actsErr_all : ∀ (l : List Ac) (p : Option Ac), actsErr p l = 0 → ∀ x ∈ l, actErr x = 0
  | [], _, _, x, hx => by cases hx
  | y :: r, p, h, x, hx => by
    unfold actsErr at h
    split at h
    · rename_i h1; exact absurd h h1
    · split at h
      · cases h
      · rename_i h1 h2
        rcases List.mem_cons.1 hx with rfl | hx
        · simpa using h1
        · exact actsErr_all r _ h x hx
theorem actsFault_all {l : List Ac} (h : actsFault l = 0) : l.length ≤ 2000 ∧ ∀ x ∈ l, actErr x = 0 := by
  unfold actsFault at h
  split at h
  · cases h
  · exact ⟨by omega, actsErr_all l _ h⟩
theorem rel_at {l : List Ac} (h : actsFault l = 0) : ∀ k, k ≤ l.length → Rel (stoAt l k) (rtoAt l k)
  | 0, _ => rel_nil
  | k + 1, hk => by
    have hg : l.getD k acD = l[k]'(by omega) := by simp [show k < l.length by omega]
    have := (rel_step (stoAt_ok l k) (rel_at h k (by omega)) ((actsFault_all h).2 _ (List.getElem_mem (show k < l.length by omega)))).1
    rw [stoAt, rtoAt, hg]
    exact this
end Go.Proofs.YtobcplhaabaemaaGreat

/- Sums over both stores. -/
namespace Go.Proofs.YtobcplhaabaemaaGreat
set_option linter.unusedVariables false
set_option linter.unusedSimpArgs false
open Abs

def dPc (e : DE) : Pc := ⟨e.2.1, e.2.2.1, e.2.2.2⟩
theorem keys_nd {α : Type} [DecidableEq α] {β : Type} {s : SM α β} (h : s.ok) : (s.es.map (·.2.1)).Nodup := by
  have := h.kn
  rw [SM.m, List.map_map] at this
  exact this
theorem sto_perm {s : Sto} {r : Rto} (hs : s.ok) (hr : r.ok) (h : Rel s r) : (s.d.es.map dPc).Perm (stL r r.l.es) := by
  have n1 : (s.d.es.map dPc).Nodup := by
    refine nodup_of_map (f := Pc.key) ?_
    rw [List.map_map]
    exact keys_nd hs.d
  have n2 : (stL r r.l.es).Nodup := by
    refine nodup_of_map (f := Pc.key) ?_
    unfold stL
    rw [List.map_map]
    exact ((List.filter_sublist).map _).nodup (keys_nd hr.l)
  refine perm_of_nodup n1 n2 fun p => ?_
  have e1 : p ∈ s.d.es.map dPc ↔ s.d.get p.key = some (p.kind, p.long) := by
    constructor
    · intro hp
      obtain ⟨e, he, rfl⟩ := List.mem_map.1 hp
      exact get_of_mem hs.d he
    · intro hp
      obtain ⟨n, hn⟩ := mem_of_get hp
      exact List.mem_map.2 ⟨_, hn, rfl⟩
  have e2 : p ∈ stL r r.l.es ↔ seen r p.key = some (p.kind, p.long) := by
    unfold stL seen
    constructor
    · intro hp
      obtain ⟨e, he, rfl⟩ := List.mem_map.1 hp
      obtain ⟨he1, he2⟩ := List.mem_filter.1 he
      have hg := get_of_mem hr.l he1
      have he2 : 0 < e.2.2 := by simpa using he2
      show (if 0 < (r.l.get e.2.1).getD 0 then some ((r.k.get e.2.1).getD bE, (r.l.get e.2.1).getD 0) else none) = _
      rw [hg]
      simp only [Option.getD_some, if_pos he2]
      rfl
    · intro hp
      split at hp
      · rename_i h0
        cases hg : r.l.get p.key with
        | none => rw [hg] at h0; simp at h0
        | some n =>
          rw [hg] at hp h0
          simp only [Option.getD_some, Option.some.injEq, Prod.mk.injEq] at hp h0
          obtain ⟨m, hm⟩ := mem_of_get hg
          refine List.mem_map.2 ⟨_, List.mem_filter.2 ⟨hm, by simpa using h0⟩, ?_⟩
          obtain ⟨a, b, c⟩ := p
          simp only at hp
          simp only [stE, Pc.mk.injEq, true_and]
          exact hp
      · cases hp
  rw [e1, e2, h.d]
theorem eput_len {κ β : Type} [DecidableEq κ] (c : Nat) : ∀ (es : List (Nat × κ × β)) (x : κ) (y : β), (eput c es x y).length ≤ es.length + 1
  | [], _, _ => by simp [eput]
  | e :: r, x, y => by
    unfold eput
    split
    · simp
    · have := eput_len c r x y; simp; omega
theorem rto_len (l : List Ac) : ∀ k, (rtoAt l k).l.es.length ≤ k
  | 0 => Nat.le_refl _
  | k + 1 => by
    have ih := rto_len l k
    rw [rtoAt]
    unfold doR
    repeat' split
    all_goals first
      | (simp only; omega)
      | (have := fun y => eput_len (rtoAt l k).l.clock (rtoAt l k).l.es (l.getD k acD).drum y
         exact Nat.le_trans (this _) (by omega))
theorem longOk_at {l : List Ac} (hf : actsFault l = 0) (k : Nat) (hk : k ≤ l.length) : LongOk (stoAt l k) := by
  have hr := rel_at hf k hk
  refine ⟨fun e he => ?_, ?_⟩
  · have h1 := get_of_mem (stoAt_ok l k).d he
    rw [hr.d] at h1
    unfold seen at h1
    split at h1
    · rename_i h0
      have h2 := hr.n e.2.1
      simp only [Option.some.injEq] at h1
      rw [← h1]
      exact ⟨h0, h2.2⟩
    · cases h1
  · have h1 := (sto_perm (stoAt_ok l k) (rtoAt_ok l k) hr).length_eq
    have h2 := stL_len (rtoAt l k) (rtoAt l k).l.es
    have h3 := rto_len l k
    have h4 := (actsFault_all hf).1
    rw [List.length_map] at h1
    omega
end Go.Proofs.YtobcplhaabaemaaGreat

/- The least stock: both say the same. -/
namespace Go.Proofs.YtobcplhaabaemaaGreat
set_option linter.unusedVariables false
set_option linter.unusedSimpArgs false
open Abs

abbrev moN (l : List Ac) (k : Nat) : Int := (l.getD k acD).mo
theorem moN_at {l : List Ac} {k : Nat} (h : k < l.length) : moN l k = l[k].mo := by simp [moN, h]
theorem acts_adj : ∀ (l : List Ac) (p : Option Ac), actsErr p l = 0 → ∀ k (h : k + 1 < l.length), l[k].mo ≤ l[k + 1].mo
  | [], _, _, k, h => by simp at h
  | [a], _, _, k, h => by simp at h
  | a :: b :: r, p, he, k, h => by
    unfold actsErr at he
    split at he
    · rename_i h1; exact absurd he h1
    · split at he
      · cases he
      · cases k with
        | zero =>
          unfold actsErr at he
          split at he
          · rename_i h1; exact absurd he h1
          · split at he
            · cases he
            · rename_i h2
              simp only [badPrev, decide_eq_true_eq] at h2
              show a.mo ≤ b.mo
              rcases Int.lt_or_le b.mo a.mo with h3 | h3
              · exfalso
                apply h2
                have h4 : cmpI b.mo a.mo = -1 := by unfold cmpI; rw [if_pos h3]
                unfold timeC firstErr
                rw [h4, if_neg (by decide)]; decide
              · exact h3
        | succ k => exact acts_adj (b :: r) _ he k (by simpa using h)
theorem acts_sorted {l : List Ac} (hf : actsFault l = 0) (i : Nat) : ∀ j, i ≤ j → j < l.length → moN l i ≤ moN l j := by
  have ha : actsErr none l = 0 := by
    have := hf; unfold actsFault at this; split at this
    · cases this
    · exact this
  intro j
  induction j with
  | zero => intro h1 h2; have : i = 0 := by omega
            subst this; exact Int.le_refl _
  | succ j ih =>
    intro h1 h2
    rcases Nat.lt_or_ge i (j + 1) with h3 | h3
    · have h4 := acts_adj l none ha j h2
      have h5 := ih (by omega) (by omega)
      rw [moN_at (show j < l.length by omega)] at h5
      rw [moN_at h2]; omega
    · have : i = j + 1 := by omega
      subst this; exact Int.le_refl _
theorem cnt_iff {l : List Ac} (hf : actsFault l = 0) {k : Nat} (hk : k < l.length) (t : Int) : moN l k ≤ t ↔ k < cntAt l t := by
  constructor
  · intro h
    rcases Nat.lt_or_ge k (cntAt l t) with h1 | h1
    · exact h1
    · exfalso
      have h2 : cntAt l t < l.length := by omega
      have h3 := cntAt_out h2
      have h4 := acts_sorted hf (cntAt l t) k h1 hk
      rw [moN_at h2] at h4
      omega
  · intro h
    rw [moN_at hk]; exact cntAt_in h
end Go.Proofs.YtobcplhaabaemaaGreat

/- Lists of acts joined and sorted: by the program and by the document. -/
namespace Go.Proofs.YtobcplhaabaemaaGreat
set_option linter.unusedVariables false
set_option linter.unusedSimpArgs false
open Abs

def mgV (a b : List Ac) : List Ac := cpt (insSort timeC (a ++ b))
end Go.Proofs.YtobcplhaabaemaaGreat

/- The store at a moment, by the program. -/
namespace Go.Proofs.YtobcplhaabaemaaGreat
set_option linter.unusedVariables false
set_option linter.unusedSimpArgs false
open Abs

set_option maxRecDepth 100000 in
set_option maxHeartbeats 4000000 in
theorem at1N_pc (s : Sto) (a b : Int) (of : ByteArray) : PCp 88 [.c (.ptr 0 0), .c (.int .i64 a), .c (.str of), .c (.int .i64 b)] [stBox, stoD s, stoK s] (.tup []) [stBox, stoD s, stoK s] := by
  refine fn_sound (mt := mts) tab_fits tab_mixed Tryz.func88 (by rfl) (by kernel_rfl) (by kernel_rfl) Tryz.results88 (Nat.le_of_ble_eq_true (by kernel_rfl)) ?_
  conv => whnf
  exact .mk ⟨rfl, rfl⟩
set_option maxRecDepth 100000 in
set_option maxHeartbeats 4000000 in
theorem followA_pc (l : List Ac) (hl : l.length ≤ 100000) :
    PCp 87 [.c (.lst 6 (l.map encAc)), .c (.fn 88 [])] [] (.c (.ptr 0 0)) [stBox, stoD (stoAt l l.length), stoK (stoAt l l.length)] := by
  have hlm : (l.map encAc).length = l.length := List.length_map ..
  refine fn_sound (mt := mts) tab_fits tab_mixed Tryz.func87 (by rfl) (by kernel_rfl) (by kernel_rfl) Tryz.results87 (Nat.le_of_ble_eq_true (by kernel_rfl)) ?_
  conv => whnf
  refine loop_count (l.length) [] [1, 5, 14, 15, 16] (fun k (_ : Unit) => ⟨[(1, .c (.fn 88 [])), (5, .c (.ptr 0 0)), (14, .c (.lst 6 (l.map encAc))), (15, .c (.int .i64 (l.map encAc).length)), (16, .c (.int .i64 k))], [(0, .box [.mp 1, .mp 2]), (1, stoD (stoAt l k)), (2, stoK (stoAt l k))], 3⟩) (fun k (_ : Unit) => True) (()) ?_ ?_ ?_
  · conv => whnf
    exact ⟨rfl, trivial⟩
  · intro k _ hk _
    have hg : l.getD k ⟨0, 0, bE, bE, bE, 0⟩ = l[k] := by simp [hk]
    conv => whnf
    repeat' (first | ((first | refine Split.mk (fun h => ?_) (fun h => ?_) | refine CondG.mk (fun h => ?_) (fun h => ?_)) <;> (try simp only [decide_eq_true_eq, decide_eq_false_iff_not, Bool.not_eq_true', Bool.not_eq_false', beq_iff_eq, beq_eq_false_iff_ne, bne_iff_ne, bne_eq_false_iff_eq] at h) <;> (first | (exfalso; first | omega | exact h trivial) | (conv => whnf))) | (refine CallX.mk _ _ (by first | exact take_pc (stoAt l k) (stoAt_ok l k) l[k] | exact at1N_pc _ _ _ _) ?_; conv => whnf) | (refine CallG.mk _ _ (by first | exact take_pc (stoAt l k) (stoAt_ok l k) l[k] | exact at1N_pc _ _ _ _) ?_; conv => whnf) | (refine Ask.mk (by first | omega | (unfold roomOK; simp [cutRows]; done) | (unfold roomOK; simp [cutRows]; omega) | (simp [cutRows]; done) | (simp [cutRows]; omega)) ?_; conv => whnf) | (refine AppG.mk (by first | omega | (unfold roomOK; simp [cutRows]; done) | (unfold roomOK; simp [cutRows]; omega) | (simp [cutRows]; done) | (simp [cutRows]; omega)) ?_; conv => whnf) | (refine SliceG.fr ?_; conv => whnf) | (refine idx_at _ (by with_reducible rfl) (by first | assumption | omega) ?_; conv => whnf) | ((with_reducible refine row_map (by first | assumption | omega) ?_); conv => whnf) | ((with_reducible refine row_set (by first | assumption | omega | (simp only [List.length_set]; omega) | (simp; omega)) ?_); conv => whnf) | fail)
    refine count_next () hk (by rw [wrap_succ hk (by omega)]; simp only [stoAt, hg]; rfl) trivial
  · intro _ _
    conv => whnf
    repeat' (first | ((first | refine Split.mk (fun h => ?_) (fun h => ?_) | refine CondG.mk (fun h => ?_) (fun h => ?_)) <;> (try simp only [decide_eq_true_eq, decide_eq_false_iff_not, Bool.not_eq_true', Bool.not_eq_false', beq_iff_eq, beq_eq_false_iff_ne] at h) <;> (first | (exfalso; first | omega | exact h trivial) | (conv => whnf))) | (refine Ask.mk (by first | omega | (unfold roomOK; simp [cutRows]; done) | (unfold roomOK; simp [cutRows]; omega)) ?_; conv => whnf) | (refine AppG.mk (by first | omega | (unfold roomOK; simp [cutRows]; done) | (unfold roomOK; simp [cutRows]; omega)) ?_; conv => whnf) | (refine SliceG.fr ?_; conv => whnf) | fail)
    exact .mk ⟨rfl, rfl⟩
def atE (l : List Ac) (t : Int) : Int := if actsFault l ≠ 0 then actsFault l else if momB t = true then 0 else 1
theorem stoAt_take (l : List Ac) (n : Nat) (hn : n ≤ l.length) : ∀ k, k ≤ n → stoAt (l.take n) k = stoAt l k
  | 0, _ => rfl
  | k + 1, h => by
    unfold stoAt
    rw [stoAt_take l n hn k (by omega)]
    have e : (l.take n).getD k ⟨0, 0, bE, bE, bE, 0⟩ = l.getD k ⟨0, 0, bE, bE, bE, 0⟩ := by
      simp only [List.getD_eq_getElem?_getD, List.getElem?_take, if_pos (show k < n by omega)]
    rw [e]
set_option maxRecDepth 100000 in
set_option maxHeartbeats 4000000 in
theorem at_ok (l : List Ac) (t : Int) (h : atE l t = 0) : PCp 53 [.c (.lst 6 (l.map encAc)), .c (.int .i64 t)] [] (.tup [.c (.ptr 0 0), .c (.int .i64 0)]) [stBox, stoD (stoAt l (cntAt l t)), stoK (stoAt l (cntAt l t))] := by
  have hf : actsFault l = 0 := by
    unfold atE at h
    split at h
    · exact h
    · rename_i h1; omega
  have hm : momB t = true := by
    unfold atE at h
    rw [if_neg (by omega)] at h
    split at h
    · assumption
    · cases h
  have hl := (actsFault_all hf).1
  have hlm : (l.map encAc).length = l.length := List.length_map ..
  have c1 := bMoment_pc t
  rw [hm] at c1
  have c2 := checkActs_pc l
  rw [hf] at c2
  have c3 := followA_pc (l.take (cntAt l t)) (by simp; omega)
  have hcl := cntAt_le l t
  rw [show (l.take (cntAt l t)).length = cntAt l t by simp; omega, stoAt_take l _ hcl _ (Nat.le_refl _), List.map_take] at c3
  refine fn_sound (mt := mts) tab_fits tab_mixed Tryz.func53 (by rfl) (by kernel_rfl) (by kernel_rfl) Tryz.results53 (Nat.le_of_ble_eq_true (by kernel_rfl)) ?_
  conv => whnf
  repeat' (first | ((first | refine Split.mk (fun h => ?_) (fun h => ?_) | refine CondG.mk (fun h => ?_) (fun h => ?_)) <;> (try simp only [decide_eq_true_eq, decide_eq_false_iff_not, Bool.not_eq_true', Bool.not_eq_false', beq_iff_eq, beq_eq_false_iff_ne, bne_iff_ne, bne_eq_false_iff_eq] at h) <;> (first | (exfalso; first | omega | exact h trivial | contradiction | (simp_all [eqRes]; done)) | (conv => whnf))) | (refine CallX.mk _ _ (by first | exact c2 | exact c1) ?_; conv => whnf) | (refine CallG.mk _ _ (by first | exact c2 | exact c1) ?_; conv => whnf) | (refine Ask.mk (by first | omega | (unfold roomOK; simp [cutRows]; done) | (unfold roomOK; simp [cutRows]; omega) | (simp [cutRows]; done) | (simp [cutRows]; omega)) ?_; conv => whnf) | (refine AppG.mk (by first | omega | (unfold roomOK; simp [cutRows]; done) | (unfold roomOK; simp [cutRows]; omega) | (simp [cutRows]; done) | (simp [cutRows]; omega)) ?_; conv => whnf) | (refine SliceG.fr ?_; conv => whnf) | (refine idx_at _ (by with_reducible rfl) (by first | assumption | omega) ?_; conv => whnf) | ((with_reducible refine row_map (by first | assumption | omega) ?_); conv => whnf) | ((with_reducible refine row_set (by first | assumption | omega | (simp only [List.length_set]; omega) | (simp; omega)) ?_); conv => whnf) | fail)
  refine loop_while (fun (n : Nat) => n) [] [0, 1, 7] (fun (n : Nat) => [(7, .c (.int .i64 (n : Int)))]) (fun (n : Nat) => []) (fun (n : Nat) => n ≤ l.length ∧ cntAt l t ≤ n) (l.length) ?_
  conv => whnf
  refine ⟨(by first | rfl | (simp; done) | (simp; rfl)), ?_, ?_⟩
  · exact ⟨Nat.le_refl _, hcl⟩
  · intro n ⟨h1, h2⟩
    have hmem : ∀ k (hk : k < l.length), l[k].mo ≤ t ↔ k < cntAt l t := fun k hk => by
      have := cnt_iff hf hk t
      rwa [moN_at hk] at this
    cases n with
    | zero =>
      have e0 : cntAt l t = 0 := by omega
      rw [e0] at c3 ⊢
      conv => whnf
      repeat' (first | ((first | refine Split.mk (fun h => ?_) (fun h => ?_) | refine CondG.mk (fun h => ?_) (fun h => ?_)) <;> (try simp only [decide_eq_true_eq, decide_eq_false_iff_not, Bool.not_eq_true', Bool.not_eq_false', beq_iff_eq, beq_eq_false_iff_ne, bne_iff_ne, bne_eq_false_iff_eq] at h) <;> (first | (exfalso; first | omega | exact h trivial | contradiction | (simp_all [eqRes]; done)) | (conv => whnf))) | (refine CallX.mk _ _ (by first | exact c3) ?_; conv => whnf) | (refine CallG.mk _ _ (by first | exact c3) ?_; conv => whnf) | (refine Ask.mk (by first | omega | (unfold roomOK; simp [cutRows]; done) | (unfold roomOK; simp [cutRows]; omega) | (simp [cutRows]; done) | (simp [cutRows]; omega)) ?_; conv => whnf) | (refine AppG.mk (by first | omega | (unfold roomOK; simp [cutRows]; done) | (unfold roomOK; simp [cutRows]; omega) | (simp [cutRows]; done) | (simp [cutRows]; omega)) ?_; conv => whnf) | (refine SliceG.fr ?_; conv => whnf) | (refine idx_at _ (by with_reducible rfl) (by first | assumption | omega) ?_; conv => whnf) | ((with_reducible refine row_map (by first | assumption | omega) ?_); conv => whnf) | ((with_reducible refine row_set (by first | assumption | omega | (simp only [List.length_set]; omega) | (simp; omega)) ?_); conv => whnf) | fail)
      exact .mk ⟨rfl, rfl⟩
    | succ m =>
      have hk : m < l.length := by omega
      have hw : IntKind.i64.wrap (((m + 1 : Nat) : Int) - 1) = ((m : Nat) : Int) := by rw [wrap_in (by omega) (by omega)]; omega
      have h6 := hmem m hk
      by_cases h7 : m < cntAt l t
      · have h8 := h6.2 h7
        have e0 : cntAt l t = m + 1 := by omega
        rw [e0] at c3 ⊢
        conv => whnf
        repeat' (first | ((first | refine Split.mk (fun h => ?_) (fun h => ?_) | refine CondG.mk (fun h => ?_) (fun h => ?_)) <;> (try simp only [decide_eq_true_eq, decide_eq_false_iff_not, Bool.not_eq_true', Bool.not_eq_false', beq_iff_eq, beq_eq_false_iff_ne, bne_iff_ne, bne_eq_false_iff_eq] at h) <;> (first | (exfalso; first | omega | exact h trivial | contradiction | (simp_all [eqRes]; done)) | (conv => whnf))) | (refine Ask.mk (by first | omega | (unfold roomOK; simp [cutRows]; done) | (unfold roomOK; simp [cutRows]; omega) | (simp [cutRows]; done) | (simp [cutRows]; omega)) ?_; conv => whnf) | (refine AppG.mk (by first | omega | (unfold roomOK; simp [cutRows]; done) | (unfold roomOK; simp [cutRows]; omega) | (simp [cutRows]; done) | (simp [cutRows]; omega)) ?_; conv => whnf) | (refine SliceG.fr ?_; conv => whnf) | (refine idx_at _ (by with_reducible rfl) (by first | assumption | omega) ?_; conv => whnf) | ((with_reducible refine row_map (by first | assumption | omega) ?_); conv => whnf) | ((with_reducible refine row_set (by first | assumption | omega | (simp only [List.length_set]; omega) | (simp; omega)) ?_); conv => whnf) | fail)
        rw [hw]
        repeat' (first | ((first | refine Split.mk (fun h => ?_) (fun h => ?_) | refine CondG.mk (fun h => ?_) (fun h => ?_)) <;> (try simp only [decide_eq_true_eq, decide_eq_false_iff_not, Bool.not_eq_true', Bool.not_eq_false', beq_iff_eq, beq_eq_false_iff_ne, bne_iff_ne, bne_eq_false_iff_eq] at h) <;> (first | (exfalso; first | omega | exact h trivial | contradiction | (simp_all [eqRes]; done)) | (conv => whnf))) | (refine CallX.mk _ _ (by first | exact c3) ?_; conv => whnf) | (refine CallG.mk _ _ (by first | exact c3) ?_; conv => whnf) | (refine Ask.mk (by first | omega | (unfold roomOK; simp [cutRows]; done) | (unfold roomOK; simp [cutRows]; omega) | (simp [cutRows]; done) | (simp [cutRows]; omega)) ?_; conv => whnf) | (refine AppG.mk (by first | omega | (unfold roomOK; simp [cutRows]; done) | (unfold roomOK; simp [cutRows]; omega) | (simp [cutRows]; done) | (simp [cutRows]; omega)) ?_; conv => whnf) | (refine SliceG.fr ?_; conv => whnf) | (refine idx_at _ (by with_reducible rfl) (by first | assumption | omega) ?_; conv => whnf) | ((with_reducible refine row_map (by first | assumption | omega) ?_); conv => whnf) | ((with_reducible refine row_set (by first | assumption | omega | (simp only [List.length_set]; omega) | (simp; omega)) ?_); conv => whnf) | fail)
        exact .mk ⟨rfl, rfl⟩
      · have h8 : t < l[m].mo := by
          rcases Int.lt_or_le t l[m].mo with h9 | h9
          · exact h9
          · exact (h7 (h6.1 h9)).elim
        conv => whnf
        repeat' (first | ((first | refine Split.mk (fun h => ?_) (fun h => ?_) | refine CondG.mk (fun h => ?_) (fun h => ?_)) <;> (try simp only [decide_eq_true_eq, decide_eq_false_iff_not, Bool.not_eq_true', Bool.not_eq_false', beq_iff_eq, beq_eq_false_iff_ne, bne_iff_ne, bne_eq_false_iff_eq] at h) <;> (first | (exfalso; first | omega | exact h trivial | contradiction | (simp_all [eqRes]; done)) | (conv => whnf))) | (refine Ask.mk (by first | omega | (unfold roomOK; simp [cutRows]; done) | (unfold roomOK; simp [cutRows]; omega) | (simp [cutRows]; done) | (simp [cutRows]; omega)) ?_; conv => whnf) | (refine AppG.mk (by first | omega | (unfold roomOK; simp [cutRows]; done) | (unfold roomOK; simp [cutRows]; omega) | (simp [cutRows]; done) | (simp [cutRows]; omega)) ?_; conv => whnf) | (refine SliceG.fr ?_; conv => whnf) | (refine idx_at _ (by with_reducible rfl) (by first | assumption | omega) ?_; conv => whnf) | ((with_reducible refine row_map (by first | assumption | omega) ?_); conv => whnf) | ((with_reducible refine row_set (by first | assumption | omega | (simp only [List.length_set]; omega) | (simp; omega)) ?_); conv => whnf) | fail)
        rw [hw]
        repeat' (first | ((first | refine Split.mk (fun h => ?_) (fun h => ?_) | refine CondG.mk (fun h => ?_) (fun h => ?_)) <;> (try simp only [decide_eq_true_eq, decide_eq_false_iff_not, Bool.not_eq_true', Bool.not_eq_false', beq_iff_eq, beq_eq_false_iff_ne, bne_iff_ne, bne_eq_false_iff_eq] at h) <;> (first | (exfalso; first | omega | exact h trivial | contradiction | (simp_all [eqRes]; done)) | (conv => whnf))) | (refine Ask.mk (by first | omega | (unfold roomOK; simp [cutRows]; done) | (unfold roomOK; simp [cutRows]; omega) | (simp [cutRows]; done) | (simp [cutRows]; omega)) ?_; conv => whnf) | (refine AppG.mk (by first | omega | (unfold roomOK; simp [cutRows]; done) | (unfold roomOK; simp [cutRows]; omega) | (simp [cutRows]; done) | (simp [cutRows]; omega)) ?_; conv => whnf) | (refine SliceG.fr ?_; conv => whnf) | (refine idx_at _ (by with_reducible rfl) (by first | assumption | omega) ?_; conv => whnf) | ((with_reducible refine row_map (by first | assumption | omega) ?_); conv => whnf) | ((with_reducible refine row_set (by first | assumption | omega | (simp only [List.length_set]; omega) | (simp; omega)) ?_); conv => whnf) | fail)
        rw [hw]
        exact meas_next m (by omega) rfl ⟨by omega, by omega⟩
end Go.Proofs.YtobcplhaabaemaaGreat

/- What is in the store at a moment: the lists. -/
namespace Go.Proofs.YtobcplhaabaemaaGreat
set_option linter.unusedVariables false
set_option linter.unusedSimpArgs false
open Abs

set_option maxRecDepth 100000 in
set_option maxHeartbeats 4000000 in
theorem stockC_pc (a b : Pc) : PCp 55 [.agg (encPc a), .agg (encPc b)] [] (.c (.int .i64 (cmpS a.key b.key))) [] := by
  refine fn_sound (mt := mts) tab_fits tab_mixed Tryz.func55 (by rfl) (by kernel_rfl) (by kernel_rfl) Tryz.results55 (Nat.le_of_ble_eq_true (by kernel_rfl)) ?_
  conv => whnf
  repeat' (first | ((first | refine Split.mk (fun h => ?_) (fun h => ?_) | refine CondG.mk (fun h => ?_) (fun h => ?_)) <;> (try simp only [decide_eq_true_eq, decide_eq_false_iff_not, Bool.not_eq_true', Bool.not_eq_false', beq_iff_eq, beq_eq_false_iff_ne] at h) <;> (first | (exfalso; first | omega | exact h trivial) | (conv => whnf))) | (refine CallX.mk _ _ (by first | exact sCompare_pc _ _) ?_; conv => whnf) | (refine CallG.mk _ _ (by first | exact sCompare_pc _ _) ?_; conv => whnf) | (refine Ask.mk (by first | omega | (unfold roomOK; simp [cutRows]; done) | (unfold roomOK; simp [cutRows]; omega)) ?_; conv => whnf) | (refine AppG.mk (by first | omega | (unfold roomOK; simp [cutRows]; done) | (unfold roomOK; simp [cutRows]; omega)) ?_; conv => whnf) | (refine SliceG.fr ?_; conv => whnf) | fail)
  exact fini rfl
theorem PCx.mono {P : Program} {f : Nat} {args : List S} {objs : List Ob} {Q Q' : S → List Ob → Prop} (h : PCx P f args objs Q) (hi : ∀ r os, Q r os → Q' r os) : PCx P f args objs Q' :=
  ⟨h.fn, fun F φ w cs a b c => (h.calls F φ w cs a b c).mono (by rintro e w' ⟨c, F', φ', r, os, hQ, rest⟩; exact ⟨c, F', φ', r, os, hi _ _ hQ, rest⟩)⟩
theorem sortDrums_pc {g : Nat} (hg : ∀ a b : Pc, PCp g [.agg (encPc a), .agg (encPc b)] [] (.c (.int .i64 (cmpS a.key b.key))) []) (l : List Pc) (hl : l.length ≤ 1000000) (hn : (l.map Pc.key).Nodup) :
    PCq 54 [.c (.row 0), .c (.fn g [])] [.row 52 3 (l.map encPc)] fun r os => ∃ l', (Rise Pc.key l' ∧ l'.Perm l) ∧ r = .tup [] ∧ os = [.row 52 3 (l'.map encPc)] := by
  have h := sort_pcx layDrum (encA := encPc) (c := fun a b : Pc => cmpS a.key b.key) (by decide) (fun w => (tab_fits 52 _ rfl).isAgg w) (fun w => (tab_fits 52 _ rfl).sizeOf w) (fun x => rfl) (swo_key Pc.key) hg 52 l (by omega)
  refine PCx.mono h ?_
  rintro r os ⟨l', hs, h1, h2⟩
  exact ⟨l', ⟨rise_of hs.2 ((hs.1.map _).nodup_iff.2 hn), hs.1⟩, h1, h2⟩
def dL (vis : List DE) : List Pc := vis.map dPc
set_option maxRecDepth 100000 in
set_option maxHeartbeats 4000000 in
theorem dStock_pc (l : List Ac) (t : Int) (h0 : atE l t = 0) :
    PCq 17 [.c (.lst 6 (l.map encAc)), .c (.int .i64 t)] [] fun r os => ∃ ds : List Pc, (Rise Pc.key ds ∧ ds.Perm (dL (stoAt l (cntAt l t)).d.es)) ∧ r = .tup [.c (.row 0), .c (.int .i64 0)] ∧ os = [.row 52 3 (ds.map encPc)] := by
  have hok := stoAt_ok l (cntAt l t)
  have hf : actsFault l = 0 := by
    unfold atE at h0
    split at h0
    · exact h0
    · rename_i h1; omega
  have hlen : (stoAt l (cntAt l t)).d.es.length ≤ 1000000 := (longOk_at hf (cntAt l t) (cntAt_le l t)).2
  have hc := at_ok l t h0
  generalize hs : stoAt l (cntAt l t) = s at hok hc hlen
  refine fn_soundX (mt := mts) tab_fits tab_mixed Tryz.func17 (by rfl) (by kernel_rfl) (by kernel_rfl) Tryz.results17 (Nat.le_of_ble_eq_true (by kernel_rfl)) ?_
  conv => whnf
  repeat' (first | ((first | refine Split.mk (fun h => ?_) (fun h => ?_) | refine CondG.mk (fun h => ?_) (fun h => ?_)) <;> (try simp only [decide_eq_true_eq, decide_eq_false_iff_not, Bool.not_eq_true', Bool.not_eq_false', beq_iff_eq, beq_eq_false_iff_ne, bne_iff_ne, bne_eq_false_iff_eq] at h) <;> (first | (exfalso; first | omega | exact h trivial | contradiction | (simp_all [eqRes]; done)) | (conv => whnf))) | (refine CallX.mk _ _ (by first | exact hc) ?_; conv => whnf) | (refine CallG.mk _ _ (by first | exact hc) ?_; conv => whnf) | (refine Ask.mk (by first | omega | (unfold roomOK; simp [cutRows]; done) | (unfold roomOK; simp [cutRows]; omega) | (simp [cutRows]; done) | (simp [cutRows]; omega)) ?_; conv => whnf) | (refine AppG.mk (by first | omega | (unfold roomOK; simp [cutRows]; done) | (unfold roomOK; simp [cutRows]; omega) | (simp [cutRows]; done) | (simp [cutRows]; omega)) ?_; conv => whnf) | (refine SliceG.fr ?_; conv => whnf) | (refine idx_at _ (by with_reducible rfl) (by first | assumption | omega) ?_; conv => whnf) | ((with_reducible refine row_map (by first | assumption | omega) ?_); conv => whnf) | ((with_reducible refine row_set (by first | assumption | omega | (simp only [List.length_set]; omega) | (simp; omega)) ?_); conv => whnf) | fail)
  refine loop_meas (fun (vis : List DE) => s.d.es.length - vis.length) [.sl 8 52 3] [8, 24] (fun (vis : List DE) => ⟨[(8, .c (.row 0)), (24, .c (.ptr 1 0))], [(0, .row 52 3 ((dL vis.reverse).map encPc)), (1, .iter 2 s.d.clock (vis.map (·.1))), (2, stoD s)], 3⟩) (fun (vis : List DE) => Vis s.d vis) ([]) ?_ ?_
  · conv => whnf
    exact ⟨rfl, Vis.nil _⟩
  · intro vis hv
    have hvl := hv.len
    have hdl : (dL vis.reverse).length = vis.length := by simp [dL]
    have hslm : ((dL vis.reverse).map encPc).length = vis.length := by simp [dL]
    conv => whnf
    refine .mk rfl ?_
    conv => whnf
    refine sm_next hok.d hv (fun hp => ?_) (fun e he hn hv' hlt => ?_)
    · conv => whnf
      have hpr : (dL vis.reverse).Perm (dL s.d.es) := ((List.reverse_perm vis).trans hp).map _
      refine .ex _ (sortDrums_pc stockC_pc (dL vis.reverse) (by simp [dL]; omega) ?_) ?_
      · refine ((hpr.map Pc.key).nodup_iff).2 ?_
        unfold dL
        rw [List.map_map]
        exact keys_nd hok.d
      rintro _ _ ⟨ds, ⟨hr, hq⟩, rfl, rfl⟩
      conv => whnf
      exact .mk _ _ ⟨ds, ⟨hr, hq.trans hpr⟩, rfl, rfl⟩ (.mk ⟨rfl, rfl⟩)
    · conv => whnf
      refine .mk rfl ?_
      conv => whnf
      refine sm_at hok.d he ?_
      conv => whnf
      repeat' (first | ((first | refine Split.mk (fun h => ?_) (fun h => ?_) | refine CondG.mk (fun h => ?_) (fun h => ?_)) <;> (try simp only [decide_eq_true_eq, decide_eq_false_iff_not, Bool.not_eq_true', Bool.not_eq_false', beq_iff_eq, beq_eq_false_iff_ne, bne_iff_ne, bne_eq_false_iff_eq] at h) <;> (first | (exfalso; first | omega | exact h trivial) | (conv => whnf))) | (refine Ask.mk (by first | omega | (unfold roomOK; simp [cutRows]; done) | (unfold roomOK; simp [cutRows]; omega) | (simp [cutRows]; done) | (simp [cutRows]; omega)) ?_; conv => whnf) | (refine AppG.mk (by first | omega | (unfold roomOK; simp [cutRows]; done) | (unfold roomOK; simp [cutRows]; omega) | (simp [cutRows]; done) | (simp [cutRows]; omega)) ?_; conv => whnf) | (refine SliceG.fr ?_; conv => whnf) | (refine idx_at _ (by with_reducible rfl) (by first | assumption | omega) ?_; conv => whnf) | ((with_reducible refine row_map (by first | assumption | omega) ?_); conv => whnf) | ((with_reducible refine row_set (by first | assumption | omega | (simp only [List.length_set]; omega) | (simp; omega)) ?_); conv => whnf) | fail)
      have h1 : dL (e :: vis).reverse = dL vis.reverse ++ [dPc e] := by simp [dL]
      exact meas_next (e :: vis) (by simp only [List.length_cons]; omega) (by rw [h1, List.map_append]; rfl) hv'
end Go.Proofs.YtobcplhaabaemaaGreat

/- What is in the store at a moment, by the document; sums by type in maps; pairs. -/
namespace Go.Proofs.YtobcplhaabaemaaGreat
set_option linter.unusedVariables false
set_option linter.unusedSimpArgs false
open Abs

/-- the names of what is more than nothing, in order -/
def Keys (g : ByteArray → Int) (ns : List ByteArray) : Prop := Rise id ns ∧ ∀ n, n ∈ ns ↔ 0 < g n
theorem Keys.one {g g' : ByteArray → Int} {a b : List ByteArray} (h : Keys g a) (h' : Keys g' b) (e : ∀ n, g n = g' n) : a = b :=
  rise_ext h.1 h'.1 (fun x => by rw [h.2, h'.2, e])
end Go.Proofs.YtobcplhaabaemaaGreat

/- Pairs of names and numbers out of a map. -/
namespace Go.Proofs.YtobcplhaabaemaaGreat
set_option linter.unusedVariables false
set_option linter.unusedSimpArgs false
open Abs

end Go.Proofs.YtobcplhaabaemaaGreat

/- Totals by type, by the program and by the document. -/
namespace Go.Proofs.YtobcplhaabaemaaGreat
set_option linter.unusedVariables false
set_option linter.unusedSimpArgs false
open Abs

end Go.Proofs.YtobcplhaabaemaaGreat

/- MergedActs: the document's list. -/
namespace Go.Proofs.YtobcplhaabaemaaGreat
set_option linter.unusedVariables false
set_option linter.unusedSimpArgs false
open Abs

end Go.Proofs.YtobcplhaabaemaaGreat

/- Refused acts, by the program. -/
namespace Go.Proofs.YtobcplhaabaemaaGreat
set_option linter.unusedVariables false
set_option linter.unusedSimpArgs false
open Abs

end Go.Proofs.YtobcplhaabaemaaGreat

/- Lists that are the same. -/
namespace Go.Proofs.YtobcplhaabaemaaGreat
set_option linter.unusedVariables false
set_option linter.unusedSimpArgs false
open Abs

end Go.Proofs.YtobcplhaabaemaaGreat

/- Both sides of what is refused, in stock, and in all. -/
namespace Go.Proofs.YtobcplhaabaemaaGreat
set_option linter.unusedVariables false
set_option linter.unusedSimpArgs false
open Abs

end Go.Proofs.YtobcplhaabaemaaGreat

/- Plain: the least stock of a window is that of some moment. -/
namespace Go.Proofs.YtobcplhaabaemaaGreat
set_option linter.unusedVariables false
set_option linter.unusedSimpArgs false
open Abs

theorem of_same {l : List Ac} (kind : ByteArray) {s t : Int} (h : cntAt l s = cntAt l t) : ofR l kind s = ofR l kind t := by unfold ofR; rw [h]
end Go.Proofs.YtobcplhaabaemaaGreat

/- Ducts and cables in them: what is computed, as functions on lists. -/
namespace Go.Proofs.YtobcplhaabaemaaGreat
set_option linter.unusedVariables false
set_option linter.unusedSimpArgs false
open Abs

structure Du where
  key : ByteArray
  a : ByteArray
  b : ByteArray
  long : Int
  inner : Int
def encDu (x : Du) : List V := [.str x.key, .str x.a, .str x.b, .int .i64 x.long, .int .i64 x.inner]
structure Ly where
  cable : ByteArray
  outer : Int
  ducts : List ByteArray
def encLy (x : Ly) : List V := [.str x.cable, .int .i64 x.outer, .lst 1 (x.ducts.map encS)]

def keyErr (has : ByteArray → Bool) (first : Bool) (before k : ByteArray) : Int := if !has k then 8 else if !first && leB k before then 7 else 0
def duErr (first : Bool) (before : ByteArray) (x : Du) : Int :=
  if !keyB x.key || !keyB x.a || !keyB x.b then 5 else if x.a = x.b then 6 else if x.long < 1 ∨ 200000 < x.long ∨ x.inner < 1 ∨ 1000 < x.inner then 1 else if !first && leB x.key before then 7 else 0
def duFault (l : List Du) : Int := if 300 < l.length then 2 else seqErr duErr Du.key true ⟨#[]⟩ l
def duAt (d : List Du) (k : ByteArray) : Option Du := d.find? fun x => decide (x.key = k)
def du0 : Du := ⟨⟨#[]⟩, ⟨#[]⟩, ⟨#[]⟩, 0, 0⟩
def duG (d : List Du) (k : ByteArray) : Du := (duAt d k).getD du0
def hasD (d : List Du) (k : ByteArray) : Bool := (duAt d k).isSome
def cabErr (d : List Du) (x : Ly) : Int :=
  if x.outer < 1 ∨ 1000 < x.outer then 1 else if x.ducts.length = 0 then 8 else if 300 < x.ducts.length then 2 else seqErr (keyErr (hasD d)) id true ⟨#[]⟩ x.ducts
def lyErr (d : List Du) (first : Bool) (before : ByteArray) (x : Ly) : Int :=
  if !keyB x.cable then 5 else if !first && leB x.cable before then 7 else cabErr d x
def lysErr (d : List Du) (l : List Ly) : Int := seqErr (lyErr d) Ly.cable true ⟨#[]⟩ l
def inL (l : List Ly) (k : ByteArray) : List Ly := l.filter fun x => decide (k ∈ x.ducts)
def fullL (d : List Du) (l : List Ly) : Bool := d.any fun x => decide (20 < (inL l x.key).length)
def lyFault (d : List Du) (l : List Ly) : Int := if duFault d ≠ 0 then duFault d else if 300 < l.length then 2 else if lysErr d l ≠ 0 then lysErr d l else if fullL d l then 12 else 0

structure DuOk (d : List Du) : Prop where
  rise : Rise Du.key d
  len : d.length ≤ 300
  each : ∀ x ∈ d, keyB x.key = true ∧ 1 ≤ x.long ∧ x.long ≤ 200000 ∧ 1 ≤ x.inner ∧ x.inner ≤ 1000
theorem duErr_ok {f : Bool} {b : ByteArray} {x : Du} (h : duErr f b x = 0) : keyB x.key = true ∧ 1 ≤ x.long ∧ x.long ≤ 200000 ∧ 1 ≤ x.inner ∧ x.inner ≤ 1000 ∧ (f = false → ltB b x.key = true) := by
  unfold duErr at h
  split at h
  · omega
  · split at h
    · omega
    · split at h
      · omega
      · split at h
        · omega
        · rename_i h1 h2 h3 h4
          simp only [Bool.or_eq_true, Bool.not_eq_true', not_or, Bool.not_eq_false] at h1
          refine ⟨h1.1.1, by omega, by omega, by omega, by omega, fun hf => ?_⟩
          subst hf
          simp at h4
          exact leB_not.1 h4
theorem duFault_ok {d : List Du} (h : duFault d = 0) : DuOk d := by
  unfold duFault at h
  split at h
  · omega
  · refine ⟨seqErr_rise (fun b x hx => (duErr_ok hx).2.2.2.2.2 rfl) h, by omega, fun x hx => ?_⟩
    obtain ⟨f, b, h1⟩ := seqErr_all h x hx
    have := duErr_ok h1
    exact ⟨this.1, this.2.1, this.2.2.1, this.2.2.2.1, this.2.2.2.2.1⟩
theorem hasD_iff {d : List Du} {k : ByteArray} : hasD d k = true ↔ ∃ x ∈ d, x.key = k := by
  unfold hasD duAt
  rw [List.find?_isSome]; simp
theorem duAt_mem {d : List Du} (h : DuOk d) {x : Du} (hx : x ∈ d) : duAt d x.key = some x := rise_find h.rise hx
theorem duG_mem {d : List Du} (h : DuOk d) {x : Du} (hx : x ∈ d) : duG d x.key = x := by unfold duG; rw [duAt_mem h hx]; rfl
theorem keyErr_ok {has : ByteArray → Bool} {f : Bool} {b k : ByteArray} (h : keyErr has f b k = 0) : has k = true ∧ (f = false → ltB b k = true) := by
  unfold keyErr at h
  split at h
  · omega
  · split at h
    · omega
    · rename_i h1 h2
      refine ⟨by simpa using h1, fun hf => ?_⟩
      subst hf
      simp at h2
      exact leB_not.1 h2
structure LyX (d : List Du) (x : Ly) : Prop where
  out : 1 ≤ x.outer ∧ x.outer ≤ 1000
  len : x.ducts.length ≤ 300
  rise : Rise id x.ducts
  has : ∀ k ∈ x.ducts, hasD d k = true
theorem lyErr_ok {d : List Du} {f : Bool} {b : ByteArray} {x : Ly} (h : lyErr d f b x = 0) : LyX d x ∧ keyB x.cable = true ∧ (f = false → ltB b x.cable = true) := by
  unfold lyErr cabErr at h
  split at h
  · omega
  · split at h
    · omega
    · split at h
      · omega
      · split at h
        · omega
        · split at h
          · omega
          · rename_i h1 h2 h3 h4 h5
            refine ⟨⟨by omega, by omega, seqErr_rise (fun b k hk => (keyErr_ok hk).2 rfl) h, fun k hk => ?_⟩, by simpa using h1, fun hf => ?_⟩
            · obtain ⟨f, b, h1⟩ := seqErr_all h k hk
              exact (keyErr_ok h1).1
            · subst hf
              simp at h2
              exact leB_not.1 h2
structure LyOk (d : List Du) (l : List Ly) : Prop where
  du : DuOk d
  len : l.length ≤ 300
  rise : Rise Ly.cable l
  each : ∀ x ∈ l, LyX d x
  few : ∀ x ∈ d, (inL l x.key).length ≤ 20
theorem lysErr_ok {d : List Du} {l : List Ly} (h : lysErr d l = 0) : Rise Ly.cable l ∧ ∀ x ∈ l, LyX d x := by
  refine ⟨seqErr_rise (fun b x hx => (lyErr_ok hx).2.2 rfl) h, fun x hx => ?_⟩
  obtain ⟨f, b, h1⟩ := seqErr_all h x hx
  exact (lyErr_ok h1).1
theorem lyFault_ok {d : List Du} {l : List Ly} (h : lyFault d l = 0) : LyOk d l := by
  unfold lyFault at h
  split at h
  · omega
  · split at h
    · omega
    · split at h
      · omega
      · split at h
        · omega
        · rename_i h1 h2 h3 h4
          obtain ⟨h5, h6⟩ := lysErr_ok (show lysErr d l = 0 by omega)
          refine ⟨duFault_ok (by omega), by omega, h5, h6, fun x hx => ?_⟩
          unfold fullL at h4
          rw [List.any_eq_true] at h4
          rcases Nat.lt_or_ge 20 (inL l x.key).length with h7 | h7
          · exact absurd ⟨x, hx, by simpa using h7⟩ h4
          · exact h7
/-- the keys one behind another are counted -/
theorem count_nd {k : ByteArray} : ∀ {l : List ByteArray}, l.Nodup → l.count k = if k ∈ l then 1 else 0
  | [], _ => by simp
  | a :: r, h => by
    obtain ⟨h1, h2⟩ := List.nodup_cons.1 h
    rw [List.count_cons, count_nd h2]
    by_cases e : a = k
    · subst e; simp [h1]
    · have e' : ¬ k = a := fun x => e x.symm
      simp [e, e']
theorem flat_count {d : List Du} {k : ByteArray} : ∀ {l : List Ly}, (∀ x ∈ l, LyX d x) → (l.flatMap Ly.ducts).count k = (inL l k).length
  | [], _ => by simp [inL]
  | a :: r, h => by
    have ih := flat_count (k := k) (l := r) (fun x hx => h x (by simp [hx]))
    have hn : a.ducts.Nodup := by have := rise_nodup (h a (by simp)).rise; simpa using this
    rw [List.flatMap_cons, List.count_append, ih, count_nd hn]
    unfold inL
    rw [List.filter_cons]
    by_cases e : k ∈ a.ducts <;> simp [e]; omega
def manyB (ks : List ByteArray) : Bool := ks.any fun k => decide (20 < ks.count k)
theorem many_full {d : List Du} {l : List Ly} (h : ∀ x ∈ l, LyX d x) : manyB (l.flatMap Ly.ducts) = fullL d l := by
  rw [Bool.eq_iff_iff]
  unfold manyB fullL
  rw [List.any_eq_true, List.any_eq_true]
  constructor
  · rintro ⟨k, hk, h1⟩
    obtain ⟨x, hx, hkx⟩ := List.mem_flatMap.1 hk
    obtain ⟨y, hy, rfl⟩ := hasD_iff.1 ((h x hx).has k hkx)
    refine ⟨y, hy, ?_⟩
    rw [flat_count h] at h1; exact h1
  · rintro ⟨x, hx, h1⟩
    rw [← flat_count h] at h1
    have h2 : 20 < (l.flatMap Ly.ducts).count x.key := by simpa using h1
    exact ⟨x.key, List.count_pos_iff.1 (by omega), h1⟩
theorem many_push (ks : List ByteArray) (k : ByteArray) : manyB (ks ++ [k]) = (manyB ks || decide (20 < ks.count k + 1)) := by
  rw [Bool.eq_iff_iff, Bool.or_eq_true]
  unfold manyB
  rw [List.any_eq_true, List.any_eq_true]
  simp only [decide_eq_true_eq, List.count_append]
  constructor
  · rintro ⟨x, hx, h⟩
    by_cases e : x = k
    · subst e; right; simpa using h
    · left
      have : [k].count x = 0 := by rw [List.count_eq_zero]; simpa using e
      rw [this] at h
      refine ⟨x, ?_, by omega⟩
      exact List.count_pos_iff.1 (by omega)
  · rintro (⟨x, hx, h⟩ | h)
    · exact ⟨x, by simp [hx], by omega⟩
    · exact ⟨k, by simp, by simpa using h⟩

/-! sums -/
theorem sum_take {α : Type} (f : α → Int) (l : List α) (k : Nat) (h : k < l.length) : ((l.take (k + 1)).map f).sum = ((l.take k).map f).sum + f l[k] := by
  rw [List.take_succ_eq_append_getElem h, List.map_append, List.sum_append]; simp
theorem sum_in {α : Type} {f : α → Int} {B : Int} : ∀ {l : List α}, (∀ x ∈ l, 0 ≤ f x ∧ f x ≤ B) → 0 ≤ (l.map f).sum ∧ (l.map f).sum ≤ B * l.length
  | [], _ => by simp
  | x :: r, h => by
    have h1 := h x (by simp)
    have ih := sum_in (l := r) (fun y hy => h y (by simp [hy]))
    simp only [List.map_cons, List.sum_cons, List.length_cons]
    have : B * ((r.length + 1 : Nat) : Int) = B * r.length + B := by rw [Int.natCast_add, Int.mul_add]; simp
    omega
def sqV (l : List Int) : Int := (l.map fun x => x * x).sum
def partV (n : Nat) : Int := if n = 1 then 53 else if n = 2 then 31 else 40
def roomB (inner : Int) (l : List Int) : Bool := decide (100 * sqV l ≤ partV l.length * inner * inner) && !(l.any fun n => decide (inner < n))
def mostV (inner : Int) (all : List Int) (outer : Int) : Nat → Nat
  | 0 => 0
  | n + 1 => if roomB inner (all ++ List.replicate (n + 1) outer) then n + 1 else mostV inner all outer n
theorem sq_in {l : List Int} (h : ∀ x ∈ l, 0 ≤ x ∧ x ≤ 1000) : 0 ≤ sqV l ∧ sqV l ≤ 1000000 * l.length := by
  refine sum_in fun x hx => ?_
  have := h x hx
  exact ⟨Int.mul_nonneg this.1 this.1, by have := Int.mul_le_mul this.2 this.2 this.1 (by omega : (0 : Int) ≤ 1000); omega⟩
def outV (l : List Ly) (k : ByteArray) : List Int := (inL l k).map Ly.outer
end Go.Proofs.YtobcplhaabaemaaGreat

/- Ducts and cables in them: lists searched. -/
namespace Go.Proofs.YtobcplhaabaemaaGreat
set_option linter.unusedVariables false
set_option linter.unusedSimpArgs false
open Abs

def isStr (t : S) : Prop := ∃ key : ByteArray, t = .c (.str key)
set_option maxRecDepth 100000 in
set_option maxHeartbeats 4000000 in
theorem bsDu_pc (g : Nat) (c : Du → Int) (t : S) (l : List Du) (hl : l.length ≤ 1000000) (hmono : ∀ i j (hj : j < l.length) (hij : i ≤ j), c l[j] < 0 → c (l[i]'(by omega)) < 0) (ht : isStr t) (hg : ∀ x ∈ l, PCp g [.agg (encDu x), t] [] (.c (.int .i64 (c x))) []) :
    PCp 180 [.c (.lst 5 (l.map encDu)), t, .c (.fn g [])] [] (.tup [.c (.int .i64 ((cntL c l : Nat) : Int)), .c (.bool (hitL c l))]) [] := by
  have hlm : (l.map encDu).length = l.length := List.length_map ..
  obtain ⟨key, rfl⟩ := ht
  refine fn_sound (mt := mts) tab_fits tab_mixed Tryz.func180 (by rfl) (by kernel_rfl) (by kernel_rfl) Tryz.results180 (Nat.le_of_ble_eq_true (by kernel_rfl)) ?_
  conv => whnf
  refine loop_meas2 (fun (i : Nat) (j : Nat) => j - i) [] [0, 1, 2, 8, 9, 10] (fun (i : Nat) (j : Nat) => ⟨[(0, .c (.lst 5 (l.map encDu))), (1, .c (.str key)), (2, .c (.fn g [])), (8, .c (.int .i64 (l.map encDu).length)), (9, .c (.int .i64 ((i : Nat) : Int))), (10, .c (.int .i64 ((j : Nat) : Int)))], [], 0⟩) (fun (i : Nat) (j : Nat) => i ≤ j ∧ j ≤ l.length ∧ (∀ k (h : k < l.length), k < i → c l[k] < 0) ∧ (∀ k (h : k < l.length), j ≤ k → ¬ c l[k] < 0)) (0) (l.length) ?_ ?_
  · conv => whnf
    exact ⟨by rw [hlm]; rfl, Nat.zero_le _, Nat.le_refl _, by intro k h h2; omega, by intro k h h2; omega⟩
  · intro i j ⟨h1, h2, h3, h4⟩
    have hmid := mid_eq (i := i) (j := j) (by omega)
    conv => whnf
    repeat' (first | ((first | refine Split.mk (fun h => ?_) (fun h => ?_) | refine CondG.mk (fun h => ?_) (fun h => ?_)) <;> (try simp only [decide_eq_true_eq, decide_eq_false_iff_not, Bool.not_eq_true', Bool.not_eq_false', beq_iff_eq, beq_eq_false_iff_ne, bne_iff_ne, bne_eq_false_iff_eq] at h) <;> (first | (exfalso; first | omega | exact h trivial) | (conv => whnf))) | (refine Ask.mk (by first | omega | (unfold roomOK; simp [cutRows]; done) | (unfold roomOK; simp [cutRows]; omega) | (simp [cutRows]; done) | (simp [cutRows]; omega)) ?_; conv => whnf) | (refine AppG.mk (by first | omega | (unfold roomOK; simp [cutRows]; done) | (unfold roomOK; simp [cutRows]; omega) | (simp [cutRows]; done) | (simp [cutRows]; omega)) ?_; conv => whnf) | (refine SliceG.fr ?_; conv => whnf) | (refine idx_at _ (by with_reducible rfl) (by first | assumption | omega) ?_; conv => whnf) | ((with_reducible refine row_map (by first | assumption | omega) ?_); conv => whnf) | ((with_reducible refine row_set (by first | assumption | omega | (simp only [List.length_set]; omega) | (simp; omega)) ?_); conv => whnf) | fail)
    · rw [hmid]
      refine idx_map ((i + j) / 2) (by omega) rfl ?_
      conv => whnf
      repeat' (first | ((first | refine Split.mk (fun h => ?_) (fun h => ?_) | refine CondG.mk (fun h => ?_) (fun h => ?_)) <;> (try simp only [decide_eq_true_eq, decide_eq_false_iff_not, Bool.not_eq_true', Bool.not_eq_false', beq_iff_eq, beq_eq_false_iff_ne] at h) <;> (first | (exfalso; first | omega | exact h trivial) | (conv => whnf))) | (refine CallX.mk _ _ (by first | exact hg (l[(i + j) / 2]'(by omega)) (List.getElem_mem _)) ?_; conv => whnf) | (refine CallG.mk _ _ (by first | exact hg (l[(i + j) / 2]'(by omega)) (List.getElem_mem _)) ?_; conv => whnf) | (refine Ask.mk (by first | omega | (unfold roomOK; simp [cutRows]; done) | (unfold roomOK; simp [cutRows]; omega)) ?_; conv => whnf) | (refine AppG.mk (by first | omega | (unfold roomOK; simp [cutRows]; done) | (unfold roomOK; simp [cutRows]; omega)) ?_; conv => whnf) | (refine SliceG.fr ?_; conv => whnf) | fail)
      · exact meas_next ((i + j) / 2 + 1, j) (by simp only; omega) (by rw [wrap_succ (n := l.length) (by omega) (by omega)]; rfl) ⟨by simp only; omega, h2, fun k hk hki => hmono k ((i + j) / 2) (by omega) (by simp only at hki; omega) h, h4⟩
      · exact meas_next (i, (i + j) / 2) (by simp only; omega) rfl ⟨by simp only; omega, by simp only; omega, h3, fun k hk hki => fun hc => h (hmono ((i + j) / 2) k hk hki hc)⟩
    all_goals
      have hij : i = j := by omega
      subst hij
      have hci : cntL c l = i := cntL_at h2 h3 h4
    · repeat' (first
        | (refine Split.mk (fun h => ?_) (fun h => ?_) <;> (try simp only [decide_eq_true_eq, decide_eq_false_iff_not, Bool.not_eq_true', Bool.not_eq_false', beq_iff_eq, beq_eq_false_iff_ne, bne_iff_ne, bne_eq_false_iff_eq] at h) <;> (first | (exfalso; first | omega | exact h trivial) | (conv => whnf)))
        | (refine CondG.mk (fun h => ?_) (fun h => ?_) <;> (try simp only [decide_eq_true_eq, decide_eq_false_iff_not, Bool.not_eq_true', Bool.not_eq_false', beq_iff_eq, beq_eq_false_iff_ne, bne_iff_ne, bne_eq_false_iff_eq] at h) <;> (first | (exfalso; first | omega | exact h trivial) | (conv => whnf)))
        | (refine CallX.mk _ _ (by first | exact hg (l[i]'(by omega)) (List.getElem_mem _)) ?_; conv => whnf)
        | (refine CallG.mk _ _ (by first | exact hg (l[i]'(by omega)) (List.getElem_mem _)) ?_; conv => whnf)
        | (refine Ask.mk (by first | omega | (unfold roomOK; simp [cutRows]; done) | (unfold roomOK; simp [cutRows]; omega) | (simp [cutRows]; done) | (simp [cutRows]; omega)) ?_; conv => whnf)
        | (refine AppG.mk (by first | omega | (unfold roomOK; simp [cutRows]; done) | (unfold roomOK; simp [cutRows]; omega) | (simp [cutRows]; done) | (simp [cutRows]; omega)) ?_; conv => whnf)
        | (refine SliceG.fr ?_; conv => whnf)
        | (refine idx_at _ (by with_reducible rfl) (by first | assumption | omega) ?_; conv => whnf)
        | ((with_reducible refine row_map (by first | assumption | omega) ?_); conv => whnf)
        | ((with_reducible refine row_set (by first | assumption | omega | (simp only [List.length_set]; omega) | (simp; omega)) ?_); conv => whnf)
        | fail)
      exact .mk ⟨by rw [hitL, hci, List.getElem?_eq_getElem (show i < l.length by omega)]; rfl, rfl⟩
    · exact .mk ⟨by rw [hitL, hci, List.getElem?_eq_none (show l.length ≤ i by omega)]; rfl, rfl⟩
end Go.Proofs.YtobcplhaabaemaaGreat

/- Strings searched in two halves; lists copied. -/
namespace Go.Proofs.YtobcplhaabaemaaGreat
set_option linter.unusedVariables false
set_option linter.unusedSimpArgs false
open Abs

set_option maxRecDepth 100000 in
set_option maxHeartbeats 4000000 in
theorem isNaNS_pc (s : ByteArray) : PCp 203 [.c (.str s)] [] (.c (.bool false)) [] := by
  refine fn_sound (mt := mts) tab_fits tab_mixed Tryz.func203 (by rfl) (by kernel_rfl) (by kernel_rfl) Tryz.results203 (Nat.le_of_ble_eq_true (by kernel_rfl)) ?_
  conv => whnf
  exact finb (by simp)
set_option maxRecDepth 100000 in
set_option maxHeartbeats 4000000 in
theorem cisNaNS_pc (s : ByteArray) : PCp 210 [.c (.str s)] [] (.c (.bool false)) [] := by
  refine fn_sound (mt := mts) tab_fits tab_mixed Tryz.func210 (by rfl) (by kernel_rfl) (by kernel_rfl) Tryz.results210 (Nat.le_of_ble_eq_true (by kernel_rfl)) ?_
  conv => whnf
  exact finb (by simp)
set_option maxRecDepth 100000 in
set_option maxHeartbeats 4000000 in
theorem lessS_pc (a b : ByteArray) : PCp 202 [.c (.str a), .c (.str b)] [] (.c (.bool (ltB a b))) [] := by
  refine fn_sound (mt := mts) tab_fits tab_mixed Tryz.func202 (by rfl) (by kernel_rfl) (by kernel_rfl) Tryz.results202 (Nat.le_of_ble_eq_true (by kernel_rfl)) ?_
  conv => whnf
  repeat' (first | ((first | refine Split.mk (fun h => ?_) (fun h => ?_) | refine CondG.mk (fun h => ?_) (fun h => ?_)) <;> (try simp only [decide_eq_true_eq, decide_eq_false_iff_not, Bool.not_eq_true', Bool.not_eq_false', beq_iff_eq, beq_eq_false_iff_ne, bne_iff_ne, bne_eq_false_iff_eq] at h) <;> (first | (exfalso; first | omega | exact h trivial) | (conv => whnf))) | (refine CallX.mk _ _ (by first | exact cisNaNS_pc _) ?_; conv => whnf) | (refine CallG.mk _ _ (by first | exact cisNaNS_pc _) ?_; conv => whnf) | (refine Ask.mk (by first | omega | (unfold roomOK; simp [cutRows]; done) | (unfold roomOK; simp [cutRows]; omega) | (simp [cutRows]; done) | (simp [cutRows]; omega)) ?_; conv => whnf) | (refine AppG.mk (by first | omega | (unfold roomOK; simp [cutRows]; done) | (unfold roomOK; simp [cutRows]; omega) | (simp [cutRows]; done) | (simp [cutRows]; omega)) ?_; conv => whnf) | (refine SliceG.fr ?_; conv => whnf) | (refine idx_at _ (by with_reducible rfl) (by first | assumption | omega) ?_; conv => whnf) | ((with_reducible refine row_map (by first | assumption | omega) ?_); conv => whnf) | ((with_reducible refine row_set (by first | assumption | omega | (simp only [List.length_set]; omega) | (simp; omega)) ?_); conv => whnf) | fail)
  all_goals exact finb (by simp_all [ltB])
/-- how many are less, and whether the next one is it -/
def cntS (t : ByteArray) (l : List ByteArray) : Nat := cntL (fun x => if ltB x t then -1 else if x.toList = t.toList then 0 else 1) l
def hitS (t : ByteArray) (l : List ByteArray) : Bool := hitL (fun x => if ltB x t then -1 else if x.toList = t.toList then 0 else 1) l
set_option maxRecDepth 100000 in
set_option maxHeartbeats 4000000 in
theorem binS_pc (t : ByteArray) (l : List ByteArray) (hl : l.length ≤ 1000000) (hmono : ∀ i j (hj : j < l.length) (hij : i ≤ j), ltB l[j] t = true → ltB (l[i]'(by omega)) t = true) :
    PCp 174 [.c (.lst 1 (l.map encS)), .c (.str t)] [] (.tup [.c (.int .i64 ((cntS t l : Nat) : Int)), .c (.bool (hitS t l))]) [] := by
  have hlm : (l.map encS).length = l.length := List.length_map ..
  have hc : ∀ x : ByteArray, (if ltB x t then (-1 : Int) else if x.toList = t.toList then 0 else 1) < 0 ↔ ltB x t = true := by
    intro x; split
    · simp_all
    · split <;> simp_all
  refine fn_sound (mt := mts) tab_fits tab_mixed Tryz.func174 (by rfl) (by kernel_rfl) (by kernel_rfl) Tryz.results174 (Nat.le_of_ble_eq_true (by kernel_rfl)) ?_
  conv => whnf
  refine loop_meas2 (fun (i : Nat) (j : Nat) => j - i) [] [0, 1, 6, 7, 8] (fun (i : Nat) (j : Nat) => ⟨[(0, .c (.lst 1 (l.map encS))), (1, .c (.str t)), (6, .c (.int .i64 (l.map encS).length)), (7, .c (.int .i64 ((i : Nat) : Int))), (8, .c (.int .i64 ((j : Nat) : Int)))], [], 0⟩) (fun (i : Nat) (j : Nat) => i ≤ j ∧ j ≤ l.length ∧ (∀ k (h : k < l.length), k < i → ltB l[k] t = true) ∧ (∀ k (h : k < l.length), j ≤ k → ¬ ltB l[k] t = true)) (0) (l.length) ?_ ?_
  · conv => whnf
    exact ⟨by rw [hlm]; rfl, Nat.zero_le _, Nat.le_refl _, by intro k h h2; omega, by intro k h h2; omega⟩
  · intro i j ⟨h1, h2, h3, h4⟩
    have hmid := mid_eq (i := i) (j := j) (by omega)
    conv => whnf
    repeat' (first | ((first | refine Split.mk (fun h => ?_) (fun h => ?_) | refine CondG.mk (fun h => ?_) (fun h => ?_)) <;> (try simp only [decide_eq_true_eq, decide_eq_false_iff_not, Bool.not_eq_true', Bool.not_eq_false', beq_iff_eq, beq_eq_false_iff_ne, bne_iff_ne, bne_eq_false_iff_eq] at h) <;> (first | (exfalso; first | omega | exact h trivial) | (conv => whnf))) | (refine Ask.mk (by first | omega | (unfold roomOK; simp [cutRows]; done) | (unfold roomOK; simp [cutRows]; omega) | (simp [cutRows]; done) | (simp [cutRows]; omega)) ?_; conv => whnf) | (refine AppG.mk (by first | omega | (unfold roomOK; simp [cutRows]; done) | (unfold roomOK; simp [cutRows]; omega) | (simp [cutRows]; done) | (simp [cutRows]; omega)) ?_; conv => whnf) | (refine SliceG.fr ?_; conv => whnf) | (refine idx_at _ (by with_reducible rfl) (by first | assumption | omega) ?_; conv => whnf) | ((with_reducible refine row_map (by first | assumption | omega) ?_); conv => whnf) | ((with_reducible refine row_set (by first | assumption | omega | (simp only [List.length_set]; omega) | (simp; omega)) ?_); conv => whnf) | fail)
    · rw [hmid]
      refine idx_map ((i + j) / 2) (by omega) rfl ?_
      conv => whnf
      repeat' (first | ((first | refine Split.mk (fun h => ?_) (fun h => ?_) | refine CondG.mk (fun h => ?_) (fun h => ?_)) <;> (try simp only [decide_eq_true_eq, decide_eq_false_iff_not, Bool.not_eq_true', Bool.not_eq_false', beq_iff_eq, beq_eq_false_iff_ne] at h) <;> (first | (exfalso; first | omega | exact h trivial) | (conv => whnf))) | (refine CallX.mk _ _ (by first | exact lessS_pc _ _) ?_; conv => whnf) | (refine CallG.mk _ _ (by first | exact lessS_pc _ _) ?_; conv => whnf) | (refine Ask.mk (by first | omega | (unfold roomOK; simp [cutRows]; done) | (unfold roomOK; simp [cutRows]; omega)) ?_; conv => whnf) | (refine AppG.mk (by first | omega | (unfold roomOK; simp [cutRows]; done) | (unfold roomOK; simp [cutRows]; omega)) ?_; conv => whnf) | (refine SliceG.fr ?_; conv => whnf) | fail)
      · exact meas_next ((i + j) / 2 + 1, j) (by simp only; omega) (by rw [wrap_succ (n := l.length) (by omega) (by omega)]; rfl) ⟨by simp only; omega, h2, fun k hk hki => hmono k ((i + j) / 2) (by omega) (by simp only at hki; omega) h, h4⟩
      · exact meas_next (i, (i + j) / 2) (by simp only; omega) rfl ⟨by simp only; omega, by simp only; omega, h3, fun k hk hki => fun hc => (by rw [hmono ((i + j) / 2) k hk hki hc] at h; cases h)⟩
    all_goals
      have hij : i = j := by omega
      subst hij
      have hci : cntS t l = i := cntL_at h2 (fun k hk hki => (hc _).2 (h3 k hk hki)) (fun k hk hki => fun e => h4 k hk hki ((hc _).1 e))
    · have hh : hitS t l = true := by
        unfold hitS hitL
        unfold cntS at hci
        rw [hci, List.getElem?_eq_getElem (show i < l.length by omega)]
        have h5 : ltB (l[i]'(by omega)) t = false := by simpa using h4 i (by omega) (Nat.le_refl _)
        have h6 : (l[i]'(by omega)).toList = t.toList := by assumption
        simp [h5, h6]
      exact .mk ⟨by rw [hci, hh]; rfl, rfl⟩
    · have hh : hitS t l = false := by
        unfold hitS hitL
        unfold cntS at hci
        rw [hci, List.getElem?_eq_getElem (show i < l.length by omega)]
        have h5 : ltB (l[i]'(by omega)) t = false := by simpa using h4 i (by omega) (Nat.le_refl _)
        have h6 : ¬ (l[i]'(by omega)).toList = t.toList := by assumption
        simp [h5, h6]
      repeat' (first | ((first | refine Split.mk (fun h => ?_) (fun h => ?_) | refine CondG.mk (fun h => ?_) (fun h => ?_)) <;> (try simp only [decide_eq_true_eq, decide_eq_false_iff_not, Bool.not_eq_true', Bool.not_eq_false', beq_iff_eq, beq_eq_false_iff_ne, bne_iff_ne, bne_eq_false_iff_eq] at h) <;> (first | (exfalso; first | omega | exact h trivial) | (conv => whnf))) | (refine CallX.mk _ _ (by first | exact isNaNS_pc _) ?_; conv => whnf) | (refine CallG.mk _ _ (by first | exact isNaNS_pc _) ?_; conv => whnf) | (refine Ask.mk (by first | omega | (unfold roomOK; simp [cutRows]; done) | (unfold roomOK; simp [cutRows]; omega) | (simp [cutRows]; done) | (simp [cutRows]; omega)) ?_; conv => whnf) | (refine AppG.mk (by first | omega | (unfold roomOK; simp [cutRows]; done) | (unfold roomOK; simp [cutRows]; omega) | (simp [cutRows]; done) | (simp [cutRows]; omega)) ?_; conv => whnf) | (refine SliceG.fr ?_; conv => whnf) | (refine idx_at _ (by with_reducible rfl) (by first | assumption | omega) ?_; conv => whnf) | ((with_reducible refine row_map (by first | assumption | omega) ?_); conv => whnf) | ((with_reducible refine row_set (by first | assumption | omega | (simp only [List.length_set]; omega) | (simp; omega)) ?_); conv => whnf) | fail)
      all_goals exact .mk ⟨by rw [hci, hh]; rfl, rfl⟩
    · exact .mk ⟨by rw [hci]; unfold hitS hitL; unfold cntS at hci; rw [hci, List.getElem?_eq_none (show l.length ≤ i by omega)]; rfl, rfl⟩
set_option maxRecDepth 100000 in
set_option maxHeartbeats 4000000 in
theorem cloneI_pc (l : List Int) (hl : l.length ≤ 1000000) : PCp 11 [.c (.lst 1 (l.map encI))] [] (.c (.row 0)) [.row 3 1 (l.map encI)] := by
  have hlm : (l.map encI).length = l.length := List.length_map ..
  refine fn_sound (mt := mts) tab_fits tab_mixed Tryz.func11 (by rfl) (by kernel_rfl) (by kernel_rfl) Tryz.results11 (Nat.le_of_ble_eq_true (by kernel_rfl)) ?_
  conv => whnf
  refine .mk (fun h => ?_) ?_
  · conv => whnf
    exact .own 3 1 rfl rfl (by rw [h]; rfl)
  · conv => whnf
    repeat' (first | ((first | refine Split.mk (fun h => ?_) (fun h => ?_) | refine CondG.mk (fun h => ?_) (fun h => ?_)) <;> (try simp only [decide_eq_true_eq, decide_eq_false_iff_not, Bool.not_eq_true', Bool.not_eq_false', beq_iff_eq, beq_eq_false_iff_ne] at h) <;> (first | (exfalso; first | omega | exact h trivial) | (conv => whnf))) | (refine Ask.mk (by first | omega | (unfold roomOK; simp [cutRows]; done) | (unfold roomOK; simp [cutRows]; omega)) ?_; conv => whnf) | (refine AppG.mk (by first | omega | (unfold roomOK; simp [cutRows]; done) | (unfold roomOK; simp [cutRows]; omega)) ?_; conv => whnf) | (refine SliceG.fr ?_; conv => whnf) | fail)
    exact .mk ⟨rfl, rfl⟩
end Go.Proofs.YtobcplhaabaemaaGreat

/- Lists made of one number. -/
namespace Go.Proofs.YtobcplhaabaemaaGreat
set_option linter.unusedVariables false
set_option linter.unusedSimpArgs false
open Abs

/-! a number, some times -/
end Go.Proofs.YtobcplhaabaemaaGreat

/- Numbers, fractions, lists of strings. -/
namespace Go.Proofs.YtobcplhaabaemaaGreat
set_option linter.unusedVariables false
set_option linter.unusedSimpArgs false
open Abs

theorem squares_b {l : List Int} (h : ∀ x ∈ l, 0 ≤ x ∧ x ≤ 1000) (hl : l.length ≤ 1000000) {k : Nat} (hk : k < l.length) : IntKind.i64.wrap (sqV (l.take k) + IntKind.i64.wrap (l[k] * l[k])) = sqV (l.take (k + 1)) := by
  have h1 := h l[k] (List.getElem_mem hk)
  have h2 : 0 ≤ l[k] * l[k] := Int.mul_nonneg h1.1 h1.1
  have h3 := Int.mul_le_mul h1.2 h1.2 h1.1 (by omega : (0 : Int) ≤ 1000)
  have h4 := sq_in (l := l.take k) (fun x hx => h x (List.mem_of_mem_take hx))
  have h5 : (l.take k).length ≤ 1000000 := by rw [List.length_take]; omega
  rw [wrap_in (x := l[k] * l[k]) (by omega) (by omega), wrap_in (by omega) (by omega)]
  exact (sum_take (fun x => x * x) l k hk).symm
set_option maxRecDepth 100000 in
set_option maxHeartbeats 4000000 in
theorem dSquares_pc (l : List Int) (hb : ∀ x ∈ l, 0 ≤ x ∧ x ≤ 1000) (hl : l.length ≤ 1000000) : PCp 182 [.c (.lst 1 (l.map encI))] [] (.c (.int .i64 (sqV l))) [] := by
  have hlm : (l.map encI).length = l.length := List.length_map ..
  refine fn_sound (mt := mts) tab_fits tab_mixed Tryz.func182 (by rfl) (by kernel_rfl) (by kernel_rfl) Tryz.results182 (Nat.le_of_ble_eq_true (by kernel_rfl)) ?_
  conv => whnf
  refine loop_for (l.length) [] [3, 6, 7, 8] (fun k (_ : Unit) => [(3, .c (.int .i64 (sqV (l.take k)))), (8, .c (.int .i64 (k : Int)))]) (fun k (_ : Unit) => []) (fun k (_ : Unit) => True) (()) ?_
  conv => whnf
  refine ⟨(by first | rfl | (simp; done) | (simp; rfl)), (by trivial), ?_, ?_⟩
  · intro k _ hk _
    conv => whnf
    repeat' (first | ((first | refine Split.mk (fun h => ?_) (fun h => ?_) | refine CondG.mk (fun h => ?_) (fun h => ?_)) <;> (try simp only [decide_eq_true_eq, decide_eq_false_iff_not, Bool.not_eq_true', Bool.not_eq_false', beq_iff_eq, beq_eq_false_iff_ne, bne_iff_ne, bne_eq_false_iff_eq] at h) <;> (first | (exfalso; first | omega | exact h trivial) | (conv => whnf))) | (refine Ask.mk (by first | omega | (unfold roomOK; simp [cutRows]; done) | (unfold roomOK; simp [cutRows]; omega) | (simp [cutRows]; done) | (simp [cutRows]; omega)) ?_; conv => whnf) | (refine AppG.mk (by first | omega | (unfold roomOK; simp [cutRows]; done) | (unfold roomOK; simp [cutRows]; omega) | (simp [cutRows]; done) | (simp [cutRows]; omega)) ?_; conv => whnf) | (refine SliceG.fr ?_; conv => whnf) | (refine idx_at _ (by with_reducible rfl) (by first | assumption | omega) ?_; conv => whnf) | ((with_reducible refine row_map (by first | assumption | omega) ?_); conv => whnf) | ((with_reducible refine row_set (by first | assumption | omega | (simp only [List.length_set]; omega) | (simp; omega)) ?_); conv => whnf) | fail)
    exact count_next () hk (by rw [wrap_succ hk (by omega), squares_b hb hl hk]; rfl) trivial
  · intro _ _
    conv => whnf
    repeat' (first | ((first | refine Split.mk (fun h => ?_) (fun h => ?_) | refine CondG.mk (fun h => ?_) (fun h => ?_)) <;> (try simp only [decide_eq_true_eq, decide_eq_false_iff_not, Bool.not_eq_true', Bool.not_eq_false', beq_iff_eq, beq_eq_false_iff_ne, bne_iff_ne, bne_eq_false_iff_eq] at h) <;> (first | (exfalso; first | omega | exact h trivial) | (conv => whnf))) | (refine Ask.mk (by first | omega | (unfold roomOK; simp [cutRows]; done) | (unfold roomOK; simp [cutRows]; omega) | (simp [cutRows]; done) | (simp [cutRows]; omega)) ?_; conv => whnf) | (refine AppG.mk (by first | omega | (unfold roomOK; simp [cutRows]; done) | (unfold roomOK; simp [cutRows]; omega) | (simp [cutRows]; done) | (simp [cutRows]; omega)) ?_; conv => whnf) | (refine SliceG.fr ?_; conv => whnf) | (refine idx_at _ (by with_reducible rfl) (by first | assumption | omega) ?_; conv => whnf) | ((with_reducible refine row_map (by first | assumption | omega) ?_); conv => whnf) | ((with_reducible refine row_set (by first | assumption | omega | (simp only [List.length_set]; omega) | (simp; omega)) ?_); conv => whnf) | fail)
    exact fini (by rw [List.take_length])
end Go.Proofs.YtobcplhaabaemaaGreat

/- Ducts and cables are checked. -/
namespace Go.Proofs.YtobcplhaabaemaaGreat
set_option linter.unusedVariables false
set_option linter.unusedSimpArgs false
open Abs

theorem k0 {k : Nat} : decide ((0 : Int) < (k : Int)) = !decide (k = 0) := by
  rw [Bool.eq_iff_iff]; simp; omega
theorem seq_hit {α : Type} {e : Bool → ByteArray → α → Int} {key : α → ByteArray} {l : List α} {k : Nat} {f : Bool} {b : ByteArray} {r v : Int} (hk : k < l.length) (hi : seqErr e key f b (l.drop k) = r) (hv : e f b l[k] = v) (h0 : v ≠ 0) : v = r := by
  rw [seqErr_drop hk, hv, if_neg h0] at hi; exact hi
theorem seq_next {α : Type} {e : Bool → ByteArray → α → Int} {key : α → ByteArray} {l : List α} {k : Nat} {f : Bool} {b : ByteArray} {r : Int} (hk : k < l.length) (hi : seqErr e key f b (l.drop k) = r) (hv : e f b l[k] = 0) : seqErr e key false (key l[k]) (l.drop (k + 1)) = r := by
  rw [seqErr_drop hk, hv, if_pos rfl] at hi; exact hi
theorem seq_next' {α : Type} {e : Bool → ByteArray → α → Int} {key : α → ByteArray} {l : List α} {k : Nat} {f : Bool} {b : ByteArray} {r : Int} (hk : k < l.length) (hi : seqErr e key f b (l.drop k) = r) (hv : e f b l[k] = 0) : seqErr e key (decide (k + 1 = 0)) (befK key l (k + 1)) (l.drop (k + 1)) = r := by
  rw [befK_succ hk]; exact seq_next hk hi hv
theorem seq_end {α : Type} {e : Bool → ByteArray → α → Int} {key : α → ByteArray} {l : List α} {f : Bool} {b : ByteArray} {r : Int} (hi : seqErr e key f b (l.drop l.length) = r) : r = 0 := by
  rw [List.drop_of_length_le (Nat.le_refl _)] at hi; exact hi.symm
set_option maxRecDepth 100000 in
set_option maxHeartbeats 4000000 in
theorem checkDucts_pc (d : List Du) : PCp 178 [.c (.lst 5 (d.map encDu))] [] (.c (.int .i64 (duFault d))) [] := by
  have hlm : (d.map encDu).length = d.length := List.length_map ..
  refine fn_sound (mt := mts) tab_fits tab_mixed Tryz.func178 (by rfl) (by kernel_rfl) (by kernel_rfl) Tryz.results178 (Nat.le_of_ble_eq_true (by kernel_rfl)) ?_
  conv => whnf
  repeat' (first | ((first | refine Split.mk (fun h => ?_) (fun h => ?_) | refine CondG.mk (fun h => ?_) (fun h => ?_)) <;> (try simp only [decide_eq_true_eq, decide_eq_false_iff_not, Bool.not_eq_true', Bool.not_eq_false', beq_iff_eq, beq_eq_false_iff_ne, bne_iff_ne, bne_eq_false_iff_eq] at h) <;> (first | (exfalso; first | omega | exact h trivial) | (conv => whnf))) | (refine Ask.mk (by first | omega | (unfold roomOK; simp [cutRows]; done) | (unfold roomOK; simp [cutRows]; omega) | (simp [cutRows]; done) | (simp [cutRows]; omega)) ?_; conv => whnf) | (refine AppG.mk (by first | omega | (unfold roomOK; simp [cutRows]; done) | (unfold roomOK; simp [cutRows]; omega) | (simp [cutRows]; done) | (simp [cutRows]; omega)) ?_; conv => whnf) | (refine SliceG.fr ?_; conv => whnf) | (refine idx_at _ (by with_reducible rfl) (by first | assumption | omega) ?_; conv => whnf) | ((with_reducible refine row_map (by first | assumption | omega) ?_); conv => whnf) | ((with_reducible refine row_set (by first | assumption | omega | (simp only [List.length_set]; omega) | (simp; omega)) ?_); conv => whnf) | fail)
  · exact fini (by rw [duFault, if_pos (by omega)])
  have hF : duFault d = seqErr duErr Du.key true ⟨#[]⟩ d := by rw [duFault, if_neg (by omega)]
  refine loop_for (d.length) [] [0, 8, 9, 10] (fun k (_ : Unit) => [(10, .c (.int .i64 (k : Int)))]) (fun k (_ : Unit) => []) (fun k (_ : Unit) => seqErr duErr Du.key (decide (k = 0)) (befK Du.key d k) (d.drop k) = duFault d) (()) ?_
  conv => whnf
  refine ⟨(by first | rfl | (simp; done) | (simp; rfl)), ?_, ?_, ?_⟩
  · exact hF.symm
  · intro k _ hk hi
    conv => whnf
    repeat' (first | ((first | refine Split.mk (fun h => ?_) (fun h => ?_) | refine CondG.mk (fun h => ?_) (fun h => ?_)) <;> (try simp only [decide_eq_true_eq, decide_eq_false_iff_not, Bool.not_eq_true', Bool.not_eq_false', beq_iff_eq, beq_eq_false_iff_ne, bne_iff_ne, bne_eq_false_iff_eq] at h) <;> (first | (exfalso; first | omega | exact h trivial) | (conv => whnf))) | (refine CallX.mk _ _ (by first | exact bKey_pc _ | exact bOut_pc _ _ _) ?_; conv => whnf) | (refine CallG.mk _ _ (by first | exact bKey_pc _ | exact bOut_pc _ _ _) ?_; conv => whnf) | (refine Ask.mk (by first | omega | (unfold roomOK; simp [cutRows]; done) | (unfold roomOK; simp [cutRows]; omega) | (simp [cutRows]; done) | (simp [cutRows]; omega)) ?_; conv => whnf) | (refine AppG.mk (by first | omega | (unfold roomOK; simp [cutRows]; done) | (unfold roomOK; simp [cutRows]; omega) | (simp [cutRows]; done) | (simp [cutRows]; omega)) ?_; conv => whnf) | (refine SliceG.fr ?_; conv => whnf) | (refine idx_at _ (by with_reducible rfl) (by first | assumption | omega) ?_; conv => whnf) | ((with_reducible refine row_map (by first | assumption | omega) ?_); conv => whnf) | ((with_reducible refine row_set (by first | assumption | omega | (simp only [List.length_set]; omega) | (simp; omega)) ?_); conv => whnf) | ((refine idx_map (k - 1) (by omega) (by rw [wrap_in (by omega) (by omega)]; omega) ?_); conv => whnf) | fail)
    all_goals try simp only [toList_eq'] at *
    all_goals have hb := befK_pos (key := Du.key) (l := d) (Nat.le_of_lt hk)
    all_goals first
      | (refine fini (seq_hit hk hi ?_ (by decide)); clear hi hF; unfold duErr; (try rw [hb (by omega)]); (repeat' split) <;> first | rfl | (exfalso; first | omega | (simp_all [leB, toList_eq']; done) | (simp_all [leB, toList_eq']; omega)))
      | (refine count_next () hk (by rw [wrap_succ hk (by omega)]; rfl) (seq_next' hk hi ?_); clear hi hF; unfold duErr; (try rw [hb (by omega)]); (repeat' split) <;> first | rfl | (exfalso; first | omega | (simp_all [leB, toList_eq']; done) | (simp_all [leB, toList_eq']; omega)))
  · intro _ hi
    conv => whnf
    repeat' (first | ((first | refine Split.mk (fun h => ?_) (fun h => ?_) | refine CondG.mk (fun h => ?_) (fun h => ?_)) <;> (try simp only [decide_eq_true_eq, decide_eq_false_iff_not, Bool.not_eq_true', Bool.not_eq_false', beq_iff_eq, beq_eq_false_iff_ne, bne_iff_ne, bne_eq_false_iff_eq] at h) <;> (first | (exfalso; first | omega | exact h trivial) | (conv => whnf))) | (refine Ask.mk (by first | omega | (unfold roomOK; simp [cutRows]; done) | (unfold roomOK; simp [cutRows]; omega) | (simp [cutRows]; done) | (simp [cutRows]; omega)) ?_; conv => whnf) | (refine AppG.mk (by first | omega | (unfold roomOK; simp [cutRows]; done) | (unfold roomOK; simp [cutRows]; omega) | (simp [cutRows]; done) | (simp [cutRows]; omega)) ?_; conv => whnf) | (refine SliceG.fr ?_; conv => whnf) | (refine idx_at _ (by with_reducible rfl) (by first | assumption | omega) ?_; conv => whnf) | ((with_reducible refine row_map (by first | assumption | omega) ?_); conv => whnf) | ((with_reducible refine row_set (by first | assumption | omega | (simp only [List.length_set]; omega) | (simp; omega)) ?_); conv => whnf) | fail)
    exact fini (seq_end hi).symm
end Go.Proofs.YtobcplhaabaemaaGreat

/- Ducts are found; cables are checked. -/
namespace Go.Proofs.YtobcplhaabaemaaGreat
set_option linter.unusedVariables false
set_option linter.unusedSimpArgs false
open Abs

set_option maxRecDepth 100000 in
set_option maxHeartbeats 4000000 in
theorem find1_pc (x : Du) (k : ByteArray) : PCp 181 [.agg (encDu x), .c (.str k)] [] (.c (.int .i64 (cmpS x.key k))) [] := by
  refine fn_sound (mt := mts) tab_fits tab_mixed Tryz.func181 (by rfl) (by kernel_rfl) (by kernel_rfl) Tryz.results181 (Nat.le_of_ble_eq_true (by kernel_rfl)) ?_
  conv => whnf
  repeat' (first | ((first | refine Split.mk (fun h => ?_) (fun h => ?_) | refine CondG.mk (fun h => ?_) (fun h => ?_)) <;> (try simp only [decide_eq_true_eq, decide_eq_false_iff_not, Bool.not_eq_true', Bool.not_eq_false', beq_iff_eq, beq_eq_false_iff_ne, bne_iff_ne, bne_eq_false_iff_eq] at h) <;> (first | (exfalso; first | omega | exact h trivial) | (conv => whnf))) | (refine CallX.mk _ _ (by first | exact sCompare_pc _ _) ?_; conv => whnf) | (refine CallG.mk _ _ (by first | exact sCompare_pc _ _) ?_; conv => whnf) | (refine Ask.mk (by first | omega | (unfold roomOK; simp [cutRows]; done) | (unfold roomOK; simp [cutRows]; omega) | (simp [cutRows]; done) | (simp [cutRows]; omega)) ?_; conv => whnf) | (refine AppG.mk (by first | omega | (unfold roomOK; simp [cutRows]; done) | (unfold roomOK; simp [cutRows]; omega) | (simp [cutRows]; done) | (simp [cutRows]; omega)) ?_; conv => whnf) | (refine SliceG.fr ?_; conv => whnf) | (refine idx_at _ (by with_reducible rfl) (by first | assumption | omega) ?_; conv => whnf) | ((with_reducible refine row_map (by first | assumption | omega) ?_); conv => whnf) | ((with_reducible refine row_set (by first | assumption | omega | (simp only [List.length_set]; omega) | (simp; omega)) ?_); conv => whnf) | fail)
  exact fini rfl
set_option maxRecDepth 100000 in
set_option maxHeartbeats 4000000 in
theorem find_pc (d : List Du) (hd : DuOk d) (k : ByteArray) : PCp 149 [.c (.lst 5 (d.map encDu)), .c (.str k)] [] (.tup [.agg (encDu (duG d k)), .c (.bool (hasD d k))]) [] := by
  have hlm : (d.map encDu).length = d.length := List.length_map ..
  have hc : ∀ x : Du, (cmpS x.key k < 0 ↔ ltB x.key k = true) ∧ (cmpS x.key k = 0 ↔ x.key = k) := fun x => ⟨cmp_lt, cmp_zero⟩
  have hf := find_rise (c := fun x : Du => cmpS x.key k) hc hd.rise
  have hl := hd.len
  refine fn_sound (mt := mts) tab_fits tab_mixed Tryz.func149 (by rfl) (by kernel_rfl) (by kernel_rfl) Tryz.results149 (Nat.le_of_ble_eq_true (by kernel_rfl)) ?_
  conv => whnf
  repeat' (first | ((first | refine Split.mk (fun h => ?_) (fun h => ?_) | refine CondG.mk (fun h => ?_) (fun h => ?_)) <;> (try simp only [decide_eq_true_eq, decide_eq_false_iff_not, Bool.not_eq_true', Bool.not_eq_false', beq_iff_eq, beq_eq_false_iff_ne, bne_iff_ne, bne_eq_false_iff_eq] at h) <;> (first | (exfalso; first | omega | exact h trivial) | (conv => whnf))) | (refine CallX.mk _ _ (by first | exact bsDu_pc 181 (fun x => cmpS x.key k) (.c (.str k)) d (by omega) (rise_mono (fun x => cmp_lt) hd.rise) ⟨_, rfl⟩ (fun x _ => find1_pc x k)) ?_; conv => whnf) | (refine CallG.mk _ _ (by first | exact bsDu_pc 181 (fun x => cmpS x.key k) (.c (.str k)) d (by omega) (rise_mono (fun x => cmp_lt) hd.rise) ⟨_, rfl⟩ (fun x _ => find1_pc x k)) ?_; conv => whnf) | (refine Ask.mk (by first | omega | (unfold roomOK; simp [cutRows]; done) | (unfold roomOK; simp [cutRows]; omega) | (simp [cutRows]; done) | (simp [cutRows]; omega)) ?_; conv => whnf) | (refine AppG.mk (by first | omega | (unfold roomOK; simp [cutRows]; done) | (unfold roomOK; simp [cutRows]; omega) | (simp [cutRows]; done) | (simp [cutRows]; omega)) ?_; conv => whnf) | (refine SliceG.fr ?_; conv => whnf) | (refine idx_at _ (by with_reducible rfl) (by first | assumption | omega) ?_; conv => whnf) | ((with_reducible refine row_map (by first | assumption | omega) ?_); conv => whnf) | ((with_reducible refine row_set (by first | assumption | omega | (simp only [List.length_set]; omega) | (simp; omega)) ?_); conv => whnf) | fail)
  · have hn : duAt d k = none := by unfold duAt; rw [hf, h]; rfl
    exact .mk ⟨by unfold duG hasD; rw [hn]; rfl, rfl⟩
  · have hlt : cntL (fun x : Du => cmpS x.key k) d < d.length := by
      rcases Nat.lt_or_ge (cntL (fun x : Du => cmpS x.key k) d) d.length with h1 | h1
      · exact h1
      · unfold hitL at h; rw [List.getElem?_eq_none h1] at h; cases h
    have hn : duAt d k = some (d[cntL (fun x : Du => cmpS x.key k) d]) := by unfold duAt; rw [hf, if_pos h, List.getElem?_eq_getElem hlt]
    refine idx_map _ hlt rfl ?_
    conv => whnf
    exact .mk ⟨by unfold duG hasD; rw [hn]; rfl, rfl⟩
set_option maxRecDepth 100000 in
set_option maxHeartbeats 4000000 in
theorem cableFault_pc (d : List Du) (hd : DuOk d) (x : Ly) (hx : x.ducts.length ≤ 1000000) : PCp 179 [.c (.lst 5 (d.map encDu)), .agg (encLy x)] [] (.c (.int .i64 (cabErr d x))) [] := by
  have hlm : (x.ducts.map encS).length = x.ducts.length := List.length_map ..
  refine fn_sound (mt := mts) tab_fits tab_mixed Tryz.func179 (by rfl) (by kernel_rfl) (by kernel_rfl) Tryz.results179 (Nat.le_of_ble_eq_true (by kernel_rfl)) ?_
  conv => whnf
  repeat' (first | ((first | refine Split.mk (fun h => ?_) (fun h => ?_) | refine CondG.mk (fun h => ?_) (fun h => ?_)) <;> (try simp only [decide_eq_true_eq, decide_eq_false_iff_not, Bool.not_eq_true', Bool.not_eq_false', beq_iff_eq, beq_eq_false_iff_ne, bne_iff_ne, bne_eq_false_iff_eq] at h) <;> (first | (exfalso; first | omega | exact h trivial) | (conv => whnf))) | (refine CallX.mk _ _ (by first | exact bOut_pc _ _ _) ?_; conv => whnf) | (refine CallG.mk _ _ (by first | exact bOut_pc _ _ _) ?_; conv => whnf) | (refine Ask.mk (by first | omega | (unfold roomOK; simp [cutRows]; done) | (unfold roomOK; simp [cutRows]; omega) | (simp [cutRows]; done) | (simp [cutRows]; omega)) ?_; conv => whnf) | (refine AppG.mk (by first | omega | (unfold roomOK; simp [cutRows]; done) | (unfold roomOK; simp [cutRows]; omega) | (simp [cutRows]; done) | (simp [cutRows]; omega)) ?_; conv => whnf) | (refine SliceG.fr ?_; conv => whnf) | (refine idx_at _ (by with_reducible rfl) (by first | assumption | omega) ?_; conv => whnf) | ((with_reducible refine row_map (by first | assumption | omega) ?_); conv => whnf) | ((with_reducible refine row_set (by first | assumption | omega | (simp only [List.length_set]; omega) | (simp; omega)) ?_); conv => whnf) | fail)
  · exact fini (by rw [cabErr, if_pos h])
  · exact fini (by rw [cabErr, if_neg (by assumption), if_pos (by omega)])
  · exact fini (by rw [cabErr, if_neg (by assumption), if_neg (by omega), if_pos (by omega)])
  have hF : cabErr d x = seqErr (keyErr (hasD d)) id true ⟨#[]⟩ x.ducts := by rw [cabErr, if_neg (by assumption), if_neg (by omega), if_neg (by omega)]
  refine loop_for (x.ducts.length) [] [0, 3, 24, 25, 26] (fun k (_ : Unit) => [(26, .c (.int .i64 (k : Int)))]) (fun k (_ : Unit) => []) (fun k (_ : Unit) => seqErr (keyErr (hasD d)) id (decide (k = 0)) (befK id x.ducts k) (x.ducts.drop k) = cabErr d x) (()) ?_
  conv => whnf
  refine ⟨(by first | rfl | (simp; done) | (simp; rfl)), ?_, ?_, ?_⟩
  · exact hF.symm
  · intro k _ hk hi
    conv => whnf
    repeat' (first | ((first | refine Split.mk (fun h => ?_) (fun h => ?_) | refine CondG.mk (fun h => ?_) (fun h => ?_)) <;> (try simp only [decide_eq_true_eq, decide_eq_false_iff_not, Bool.not_eq_true', Bool.not_eq_false', beq_iff_eq, beq_eq_false_iff_ne, bne_iff_ne, bne_eq_false_iff_eq] at h) <;> (first | (exfalso; first | omega | exact h trivial) | (conv => whnf))) | (refine CallX.mk _ _ (by first | exact find_pc d hd _) ?_; conv => whnf) | (refine CallG.mk _ _ (by first | exact find_pc d hd _) ?_; conv => whnf) | (refine Ask.mk (by first | omega | (unfold roomOK; simp [cutRows]; done) | (unfold roomOK; simp [cutRows]; omega) | (simp [cutRows]; done) | (simp [cutRows]; omega)) ?_; conv => whnf) | (refine AppG.mk (by first | omega | (unfold roomOK; simp [cutRows]; done) | (unfold roomOK; simp [cutRows]; omega) | (simp [cutRows]; done) | (simp [cutRows]; omega)) ?_; conv => whnf) | (refine SliceG.fr ?_; conv => whnf) | (refine idx_at _ (by with_reducible rfl) (by first | assumption | omega) ?_; conv => whnf) | ((with_reducible refine row_map (by first | assumption | omega) ?_); conv => whnf) | ((with_reducible refine row_set (by first | assumption | omega | (simp only [List.length_set]; omega) | (simp; omega)) ?_); conv => whnf) | ((refine idx_map (k - 1) (by omega) (by rw [wrap_in (by omega) (by omega)]; omega) ?_); conv => whnf) | fail)
    all_goals try simp only [toList_eq'] at *
    all_goals have hb := befK_pos (key := id) (l := x.ducts) (Nat.le_of_lt hk)
    all_goals first
      | (refine fini (seq_hit hk hi ?_ (by decide)); clear hi hF; unfold keyErr; (try rw [hb (by omega)]); (repeat' split) <;> first | rfl | (exfalso; first | omega | (simp_all [leB, toList_eq']; done) | (simp_all [leB, toList_eq']; omega)))
      | (refine count_next () hk (by rw [wrap_succ hk (by omega)]; rfl) (seq_next' hk hi ?_); clear hi hF; unfold keyErr; (try rw [hb (by omega)]); (repeat' split) <;> first | rfl | (exfalso; first | omega | (simp_all [leB, toList_eq']; done) | (simp_all [leB, toList_eq']; omega)))
  · intro _ hi
    conv => whnf
    repeat' (first | ((first | refine Split.mk (fun h => ?_) (fun h => ?_) | refine CondG.mk (fun h => ?_) (fun h => ?_)) <;> (try simp only [decide_eq_true_eq, decide_eq_false_iff_not, Bool.not_eq_true', Bool.not_eq_false', beq_iff_eq, beq_eq_false_iff_ne, bne_iff_ne, bne_eq_false_iff_eq] at h) <;> (first | (exfalso; first | omega | exact h trivial) | (conv => whnf))) | (refine Ask.mk (by first | omega | (unfold roomOK; simp [cutRows]; done) | (unfold roomOK; simp [cutRows]; omega) | (simp [cutRows]; done) | (simp [cutRows]; omega)) ?_; conv => whnf) | (refine AppG.mk (by first | omega | (unfold roomOK; simp [cutRows]; done) | (unfold roomOK; simp [cutRows]; omega) | (simp [cutRows]; done) | (simp [cutRows]; omega)) ?_; conv => whnf) | (refine SliceG.fr ?_; conv => whnf) | (refine idx_at _ (by with_reducible rfl) (by first | assumption | omega) ?_; conv => whnf) | ((with_reducible refine row_map (by first | assumption | omega) ?_); conv => whnf) | ((with_reducible refine row_set (by first | assumption | omega | (simp only [List.length_set]; omega) | (simp; omega)) ?_); conv => whnf) | fail)
    exact fini (seq_end hi).symm
end Go.Proofs.YtobcplhaabaemaaGreat

/- Cables in ducts: checked by the program. -/
namespace Go.Proofs.YtobcplhaabaemaaGreat
set_option linter.unusedVariables false
set_option linter.unusedSimpArgs false
open Abs

structure CntOk (m : SM ByteArray Int) (ks : List ByteArray) : Prop where
  ok : m.ok
  cnt : ∀ k, (m.get k).getD 0 = (ks.count k : Nat)
theorem CntOk.nil : CntOk SM.nil [] := ⟨SM.ok_nil, fun k => by rw [SM.get_nil]; rfl⟩
theorem CntOk.push {m : SM ByteArray Int} {ks : List ByteArray} (h : CntOk m ks) (k : ByteArray) : CntOk (m.put k ((ks.count k + 1 : Nat) : Int)) (ks ++ [k]) := by
  refine ⟨h.ok.put _ _, fun x => ?_⟩
  rw [SM.get_put, List.count_append]
  by_cases e : k = x
  · subst e; simp
  · have : [k].count x = 0 := by rw [List.count_eq_zero]; simpa using fun h => e h.symm
    rw [if_neg e, h.cnt, this]; rfl
set_option maxRecDepth 100000 in
set_option maxHeartbeats 4000000 in
theorem checkLying_pc (d : List Du) (l : List Ly) (hx : ∀ x ∈ l, x.ducts.length ≤ 1000000) : PCp 148 [.c (.lst 5 (d.map encDu)), .c (.lst 3 (l.map encLy))] [] (.c (.int .i64 (lyFault d l))) [] := by
  have hlm : (l.map encLy).length = l.length := List.length_map ..
  refine fn_sound (mt := mts) tab_fits tab_mixed Tryz.func148 (by rfl) (by kernel_rfl) (by kernel_rfl) Tryz.results148 (Nat.le_of_ble_eq_true (by kernel_rfl)) ?_
  conv => whnf
  repeat' (first | ((first | refine Split.mk (fun h => ?_) (fun h => ?_) | refine CondG.mk (fun h => ?_) (fun h => ?_)) <;> (try simp only [decide_eq_true_eq, decide_eq_false_iff_not, Bool.not_eq_true', Bool.not_eq_false', beq_iff_eq, beq_eq_false_iff_ne, bne_iff_ne, bne_eq_false_iff_eq] at h) <;> (first | (exfalso; first | omega | exact h trivial) | (conv => whnf))) | (refine CallX.mk _ _ (by first | exact checkDucts_pc d) ?_; conv => whnf) | (refine CallG.mk _ _ (by first | exact checkDucts_pc d) ?_; conv => whnf) | (refine Ask.mk (by first | omega | (unfold roomOK; simp [cutRows]; done) | (unfold roomOK; simp [cutRows]; omega) | (simp [cutRows]; done) | (simp [cutRows]; omega)) ?_; conv => whnf) | (refine AppG.mk (by first | omega | (unfold roomOK; simp [cutRows]; done) | (unfold roomOK; simp [cutRows]; omega) | (simp [cutRows]; done) | (simp [cutRows]; omega)) ?_; conv => whnf) | (refine SliceG.fr ?_; conv => whnf) | (refine idx_at _ (by with_reducible rfl) (by first | assumption | omega) ?_; conv => whnf) | ((with_reducible refine row_map (by first | assumption | omega) ?_); conv => whnf) | ((with_reducible refine row_set (by first | assumption | omega | (simp only [List.length_set]; omega) | (simp; omega)) ?_); conv => whnf) | fail)
  · exact fini (by rw [lyFault, if_pos h])
  · exact fini (by rw [lyFault, if_neg (by simp_all), if_pos (by omega)])
  rename_i hd0
  have hd0 : duFault d = 0 := by simpa using hd0
  have hd := duFault_ok hd0
  have hF : lyFault d l = if lysErr d l ≠ 0 then lysErr d l else if fullL d l then 12 else 0 := by rw [lyFault, if_neg (by simp [hd0]), if_neg (by omega)]
  refine loop_for (l.length) [] [0, 1, 6, 7, 22, 23, 24] (fun k (m : SM ByteArray Int) => [(7, .c (.bool (manyB ((l.take k).flatMap Ly.ducts)))), (24, .c (.int .i64 (k : Int)))]) (fun k (m : SM ByteArray Int) => [(0, smO ekS evI m)]) (fun k (m : SM ByteArray Int) => CntOk m ((l.take k).flatMap Ly.ducts) ∧ ((l.take k).flatMap Ly.ducts).length ≤ 300 * k ∧ seqErr (lyErr d) Ly.cable (decide (k = 0)) (befK Ly.cable l k) (l.drop k) = lysErr d l) (SM.nil) ?_
  conv => whnf
  refine ⟨(by first | rfl | (simp; done) | (simp; rfl)), ?_, ?_, ?_⟩
  · exact ⟨CntOk.nil, by simp, rfl⟩
  · intro k m hk ⟨hm, hn, hi⟩
    have hb := befK_pos (key := Ly.cable) (l := l) (Nat.le_of_lt hk)
    conv => whnf
    repeat' (first | ((first | refine Split.mk (fun h => ?_) (fun h => ?_) | refine CondG.mk (fun h => ?_) (fun h => ?_)) <;> (try simp only [decide_eq_true_eq, decide_eq_false_iff_not, Bool.not_eq_true', Bool.not_eq_false', beq_iff_eq, beq_eq_false_iff_ne, bne_iff_ne, bne_eq_false_iff_eq] at h) <;> (first | (exfalso; first | omega | exact h trivial) | (conv => whnf))) | (refine CallX.mk _ _ (by first | exact bKey_pc _ | exact cableFault_pc d hd l[k] (hx _ (List.getElem_mem hk))) ?_; conv => whnf) | (refine CallG.mk _ _ (by first | exact bKey_pc _ | exact cableFault_pc d hd l[k] (hx _ (List.getElem_mem hk))) ?_; conv => whnf) | (refine Ask.mk (by first | omega | (unfold roomOK; simp [cutRows]; done) | (unfold roomOK; simp [cutRows]; omega) | (simp [cutRows]; done) | (simp [cutRows]; omega)) ?_; conv => whnf) | (refine AppG.mk (by first | omega | (unfold roomOK; simp [cutRows]; done) | (unfold roomOK; simp [cutRows]; omega) | (simp [cutRows]; done) | (simp [cutRows]; omega)) ?_; conv => whnf) | (refine SliceG.fr ?_; conv => whnf) | (refine idx_at _ (by with_reducible rfl) (by first | assumption | omega) ?_; conv => whnf) | ((with_reducible refine row_map (by first | assumption | omega) ?_); conv => whnf) | ((with_reducible refine row_set (by first | assumption | omega | (simp only [List.length_set]; omega) | (simp; omega)) ?_); conv => whnf) | ((refine idx_map (k - 1) (by omega) (by rw [wrap_in (by omega) (by omega)]; omega) ?_); conv => whnf) | fail)
    all_goals try simp only [toList_eq'] at *
    all_goals first
      | (have he : lyErr d (decide (k = 0)) (befK Ly.cable l k) l[k] = 5 := by (unfold lyErr; clear hi hF; (try rw [hb (by omega)]); (repeat' split) <;> first | rfl | (exfalso; first | omega | (simp_all [leB, toList_eq']; done) | (simp_all [leB, toList_eq']; omega)))
         have h9 := seq_hit hk hi he (by decide)
         exact fini (by rw [hF, if_pos (by omega)]; exact h9))
      | (have he : lyErr d (decide (k = 0)) (befK Ly.cable l k) l[k] = 7 := by (unfold lyErr; clear hi hF; (try rw [hb (by omega)]); (repeat' split) <;> first | rfl | (exfalso; first | omega | (simp_all [leB, toList_eq']; done) | (simp_all [leB, toList_eq']; omega)))
         have h9 := seq_hit hk hi he (by decide)
         exact fini (by rw [hF, if_pos (by omega)]; exact h9))
      | (have he : lyErr d (decide (k = 0)) (befK Ly.cable l k) l[k] = cabErr d l[k] := by (unfold lyErr; clear hi hF; (try rw [hb (by omega)]); (repeat' split) <;> first | rfl | (exfalso; first | omega | (simp_all [leB, toList_eq']; done) | (simp_all [leB, toList_eq']; omega)))
         have h9 := seq_hit hk hi he (by assumption)
         exact fini (by rw [hF, if_pos (by omega)]; exact h9))
      | skip
    all_goals
      have he : lyErr d (decide (k = 0)) (befK Ly.cable l k) l[k] = 0 := by (unfold lyErr; clear hi hF; (try rw [hb (by omega)]); (repeat' split) <;> first | rfl | assumption | (exfalso; first | omega | (simp_all [leB, toList_eq']; done) | (simp_all [leB, toList_eq']; omega)))
      have hX := (lyErr_ok he).1
      have hxl := hX.len
      have hxm : (l[k].ducts.map encS).length = l[k].ducts.length := List.length_map ..
      have hnx := seq_next' hk hi he
      have hft : (l.take (k + 1)).flatMap Ly.ducts = (l.take k).flatMap Ly.ducts ++ l[k].ducts := by rw [List.take_succ_eq_append_getElem hk, List.flatMap_append, List.flatMap_cons, List.flatMap_nil, List.append_nil]
      generalize (l.take k).flatMap Ly.ducts = A at *
      refine loop_for (l[k].ducts.length) [] [0, 1, 6, 7, 22, 23, 24, 55, 56, 57] (fun j (m' : SM ByteArray Int) => [(7, .c (.bool (manyB (A ++ l[k].ducts.take j)))), (57, .c (.int .i64 (j : Int)))]) (fun j (m' : SM ByteArray Int) => [(0, smO ekS evI m')]) (fun j (m' : SM ByteArray Int) => CntOk m' (A ++ l[k].ducts.take j)) (m) ?_
      conv => whnf
      refine ⟨?_, ?_, ?_, ?_⟩
      · rw [List.take_zero, List.append_nil]; rfl
      · simpa using hm
      · intro j m' hj hm'
        have htj : A ++ l[k].ducts.take (j + 1) = A ++ l[k].ducts.take j ++ [l[k].ducts[j]] := by rw [List.take_succ_eq_append_getElem hj, List.append_assoc]
        have hlen : (A ++ l[k].ducts.take j).count l[k].ducts[j] ≤ 300 * k + 300 := Nat.le_trans List.count_le_length (by rw [List.length_append, List.length_take]; omega)
        have hmp := many_push (A ++ l[k].ducts.take j) l[k].ducts[j]
        rw [← htj] at hmp
        conv => whnf
        repeat' (first | ((first | refine Split.mk (fun h => ?_) (fun h => ?_) | refine CondG.mk (fun h => ?_) (fun h => ?_)) <;> (try simp only [decide_eq_true_eq, decide_eq_false_iff_not, Bool.not_eq_true', Bool.not_eq_false', beq_iff_eq, beq_eq_false_iff_ne, bne_iff_ne, bne_eq_false_iff_eq] at h) <;> (first | (exfalso; first | omega | exact h trivial) | (conv => whnf))) | (refine Ask.mk (by first | omega | (unfold roomOK; simp [cutRows]; done) | (unfold roomOK; simp [cutRows]; omega) | (simp [cutRows]; done) | (simp [cutRows]; omega)) ?_; conv => whnf) | (refine AppG.mk (by first | omega | (unfold roomOK; simp [cutRows]; done) | (unfold roomOK; simp [cutRows]; omega) | (simp [cutRows]; done) | (simp [cutRows]; omega)) ?_; conv => whnf) | (refine SliceG.fr ?_; conv => whnf) | (refine idx_at _ (by with_reducible rfl) (by first | assumption | omega) ?_; conv => whnf) | ((with_reducible refine row_map (by first | assumption | omega) ?_); conv => whnf) | ((with_reducible refine row_set (by first | assumption | omega | (simp only [List.length_set]; omega) | (simp; omega)) ?_); conv => whnf) | ((with_reducible refine sm_look (ek := ekS) (ev := evI) keyStr _ _ ((0 : Int)) ?_ ?_); exact rfl; conv => whnf) | ((with_reducible refine sm_upd (ek := ekS) (ev := evI) keyStr _ _ _ ?_); conv => whnf) | ((with_reducible refine sm_del (ek := ekS) (ev := evI) keyStr _ _ ?_); conv => whnf) | ((with_reducible refine sm_entry (ek := ekS) (ev := evI) keyStr _ _ ((0 : Int)) ?_ ?_); exact rfl; conv => whnf) | fail)
        all_goals
          generalize hc : (A ++ l[k].ducts.take j).count l[k].ducts[j] = c at *
          have hcm : (m'.get l[k].ducts[j]).getD 0 = (c : Nat) := by rw [hm'.cnt, hc]
          have hw : IntKind.i64.wrap ((m'.get l[k].ducts[j]).getD 0 + 1) = ((c + 1 : Nat) : Int) := by rw [hcm, wrap_in (by omega) (by omega)]; rfl
          have hg : ((m'.put l[k].ducts[j] ((c + 1 : Nat) : Int)).get l[k].ducts[j]).getD 0 = ((c + 1 : Nat) : Int) := by rw [SM.get_put, if_pos rfl]; rfl
          have hdc : decide ((20 : Int) < ((c + 1 : Nat) : Int)) = decide (20 < c + 1) := by rw [decide_eq_decide]; omega
          have hok := hm'.push l[k].ducts[j]
          rw [hc, ← htj] at hok
          rw [hw]
        · exact count_next _ hj (by rw [wrap_succ hj (by omega), hmp, h]; rfl) hok
        · rw [hg, hdc]
          exact count_next _ hj (by rw [wrap_succ hj (by omega), hmp, h]; rfl) hok
      · intro m' hm'
        rw [List.take_length] at *
        conv => whnf
        repeat' (first | ((first | refine Split.mk (fun h => ?_) (fun h => ?_) | refine CondG.mk (fun h => ?_) (fun h => ?_)) <;> (try simp only [decide_eq_true_eq, decide_eq_false_iff_not, Bool.not_eq_true', Bool.not_eq_false', beq_iff_eq, beq_eq_false_iff_ne, bne_iff_ne, bne_eq_false_iff_eq] at h) <;> (first | (exfalso; first | omega | exact h trivial) | (conv => whnf))) | (refine Ask.mk (by first | omega | (unfold roomOK; simp [cutRows]; done) | (unfold roomOK; simp [cutRows]; omega) | (simp [cutRows]; done) | (simp [cutRows]; omega)) ?_; conv => whnf) | (refine AppG.mk (by first | omega | (unfold roomOK; simp [cutRows]; done) | (unfold roomOK; simp [cutRows]; omega) | (simp [cutRows]; done) | (simp [cutRows]; omega)) ?_; conv => whnf) | (refine SliceG.fr ?_; conv => whnf) | (refine idx_at _ (by with_reducible rfl) (by first | assumption | omega) ?_; conv => whnf) | ((with_reducible refine row_map (by first | assumption | omega) ?_); conv => whnf) | ((with_reducible refine row_set (by first | assumption | omega | (simp only [List.length_set]; omega) | (simp; omega)) ?_); conv => whnf) | fail)
        exact count_next m' hk (by rw [wrap_succ hk (by omega), hft]; rfl) ⟨by rw [hft]; exact hm', by rw [hft, List.length_append]; omega, hnx⟩
  · intro m ⟨hm, hn, hi⟩
    rw [List.take_length] at *
    have h0 := seq_end hi
    have hall := many_full (lysErr_ok h0).2
    conv => whnf
    repeat' (first | ((first | refine Split.mk (fun h => ?_) (fun h => ?_) | refine CondG.mk (fun h => ?_) (fun h => ?_)) <;> (try simp only [decide_eq_true_eq, decide_eq_false_iff_not, Bool.not_eq_true', Bool.not_eq_false', beq_iff_eq, beq_eq_false_iff_ne, bne_iff_ne, bne_eq_false_iff_eq] at h) <;> (first | (exfalso; first | omega | exact h trivial) | (conv => whnf))) | (refine Ask.mk (by first | omega | (unfold roomOK; simp [cutRows]; done) | (unfold roomOK; simp [cutRows]; omega) | (simp [cutRows]; done) | (simp [cutRows]; omega)) ?_; conv => whnf) | (refine AppG.mk (by first | omega | (unfold roomOK; simp [cutRows]; done) | (unfold roomOK; simp [cutRows]; omega) | (simp [cutRows]; done) | (simp [cutRows]; omega)) ?_; conv => whnf) | (refine SliceG.fr ?_; conv => whnf) | (refine idx_at _ (by with_reducible rfl) (by first | assumption | omega) ?_; conv => whnf) | ((with_reducible refine row_map (by first | assumption | omega) ?_); conv => whnf) | ((with_reducible refine row_set (by first | assumption | omega | (simp only [List.length_set]; omega) | (simp; omega)) ?_); conv => whnf) | fail)
    · exact fini (by rw [hF, if_neg (by simp [h0]), if_pos (by rw [← hall]; exact h)])
    · exact fini (by rw [hF, if_neg (by simp [h0]), if_neg (by rw [← hall, h]; decide)])
end Go.Proofs.YtobcplhaabaemaaGreat

/- Cables in ducts: by the document; what lies in a duct. -/
namespace Go.Proofs.YtobcplhaabaemaaGreat
set_option linter.unusedVariables false
set_option linter.unusedSimpArgs false
open Abs

theorem inL_take {l : List Ly} {k : Nat} (h : k < l.length) (key : ByteArray) : inL (l.take (k + 1)) key = inL (l.take k) key ++ (if key ∈ l[k].ducts then [l[k]] else []) := by
  unfold inL
  rw [List.take_succ_eq_append_getElem h, List.filter_append]
  by_cases e : key ∈ l[k].ducts <;> simp [e]
theorem inL_len (l : List Ly) (key : ByteArray) : (inL l key).length ≤ l.length := List.length_filter_le _ _
end Go.Proofs.YtobcplhaabaemaaGreat

/- What lies in a duct, and what has room there. -/
namespace Go.Proofs.YtobcplhaabaemaaGreat
set_option linter.unusedVariables false
set_option linter.unusedSimpArgs false
open Abs

theorem hitS_eq {l : List ByteArray} (h : Rise id l) (t : ByteArray) : hitS t l = decide (t ∈ l) := by
  have hc : ∀ x : ByteArray, ((if ltB x t then (-1 : Int) else if x.toList = t.toList then 0 else 1) < 0 ↔ ltB (id x) t = true) ∧ ((if ltB x t then (-1 : Int) else if x.toList = t.toList then 0 else 1) = 0 ↔ id x = t) := by
    intro x
    by_cases h1 : ltB x t = true
    · simp [h1, ltB_ne h1]
    · by_cases h2 : x = t
      · subst h2; simp [h1]
      · simp [h1, h2, toList_eq']
  have hf := find_rise hc h
  unfold hitS
  generalize hh : hitL (fun x => if ltB x t then (-1 : Int) else if x.toList = t.toList then 0 else 1) l = b at *
  rw [Bool.eq_iff_iff, decide_eq_true_eq]
  cases b with
  | false =>
    constructor
    · intro e; cases e
    · intro ht
      have h1 : (l.find? fun x => decide (id x = t)).isSome := by rw [List.find?_isSome]; exact ⟨t, ht, by simp⟩
      rw [hf] at h1; simp at h1
  | true =>
    refine ⟨fun _ => ?_, fun _ => rfl⟩
    unfold hitL at hh
    split at hh
    · rename_i x hx
      rw [if_pos rfl, hx] at hf
      have h1 := List.find?_some hf
      have h2 := List.mem_of_find?_eq_some hf
      have : x = t := by simpa using h1
      rwa [this] at h2
    · cases hh
theorem binS_ok {l : List ByteArray} (h : Rise id l) (hl : l.length ≤ 1000000) (t : ByteArray) : PCp 174 [.c (.lst 1 (l.map encS)), .c (.str t)] [] (.tup [.c (.int .i64 ((cntS t l : Nat) : Int)), .c (.bool (decide (t ∈ l)))]) [] := by
  rw [← hitS_eq h]
  refine binS_pc t l hl ?_
  intro i j hj hij hlt
  rcases Nat.lt_or_ge i j with h1 | h1
  · exact ltB_trans (h.at h1 hj) hlt
  · have : i = j := by omega
    subst this; exact hlt
set_option maxRecDepth 100000 in
set_option maxHeartbeats 4000000 in
theorem dIn_pc (l : List Ly) (hl : l.length ≤ 1000000) (hx : ∀ x ∈ l, Rise id x.ducts ∧ x.ducts.length ≤ 1000000) (key : ByteArray) : PCp 151 [.c (.lst 3 (l.map encLy)), .c (.str key)] [] (.c (.lst 3 ((inL l key).map encLy))) [] := by
  have hlm : (l.map encLy).length = l.length := List.length_map ..
  refine fn_sound (mt := mts) tab_fits tab_mixed Tryz.func151 (by rfl) (by kernel_rfl) (by kernel_rfl) Tryz.results151 (Nat.le_of_ble_eq_true (by kernel_rfl)) ?_
  conv => whnf
  refine loop_for (l.length) [.sl 5 236 3] [1, 5, 10, 11, 12] (fun k (_ : Unit) => [(12, .c (.int .i64 (k : Int)))]) (fun k (_ : Unit) => [(0, .row 236 3 ((inL (l.take k) key).map encLy))]) (fun k (_ : Unit) => True) (()) ?_
  conv => whnf
  refine ⟨(by first | rfl | (simp; done) | (simp; rfl)), (by trivial), ?_, ?_⟩
  · intro k _ hk _
    have hle := inL_len (l.take k) key
    have hcm : ((inL (l.take k) key).map encLy).length = (inL (l.take k) key).length := List.length_map ..
    have htl : (l.take k).length = k := by rw [List.length_take]; omega
    have ht := inL_take hk key
    obtain ⟨h1, h2⟩ := hx _ (List.getElem_mem hk)
    conv => whnf
    repeat' (first | ((first | refine Split.mk (fun h => ?_) (fun h => ?_) | refine CondG.mk (fun h => ?_) (fun h => ?_)) <;> (try simp only [decide_eq_true_eq, decide_eq_false_iff_not, Bool.not_eq_true', Bool.not_eq_false', beq_iff_eq, beq_eq_false_iff_ne, bne_iff_ne, bne_eq_false_iff_eq] at h) <;> (first | (exfalso; first | omega | exact h trivial) | (conv => whnf))) | (refine CallX.mk _ _ (by first | exact binS_ok h1 h2 key) ?_; conv => whnf) | (refine CallG.mk _ _ (by first | exact binS_ok h1 h2 key) ?_; conv => whnf) | (refine Ask.mk (by first | omega | (unfold roomOK; simp [cutRows]; done) | (unfold roomOK; simp [cutRows]; omega) | (simp [cutRows]; done) | (simp [cutRows]; omega)) ?_; conv => whnf) | (refine AppG.mk (by first | omega | (unfold roomOK; simp [cutRows]; done) | (unfold roomOK; simp [cutRows]; omega) | (simp [cutRows]; done) | (simp [cutRows]; omega)) ?_; conv => whnf) | (refine SliceG.fr ?_; conv => whnf) | (refine idx_at _ (by with_reducible rfl) (by first | assumption | omega) ?_; conv => whnf) | ((with_reducible refine row_map (by first | assumption | omega) ?_); conv => whnf) | ((with_reducible refine row_set (by first | assumption | omega | (simp only [List.length_set]; omega) | (simp; omega)) ?_); conv => whnf) | fail)
    · rw [if_pos h] at ht
      exact count_next () hk (by rw [wrap_succ hk (by omega), ht, List.map_append]; rfl) trivial
    · rw [if_neg h, List.append_nil] at ht
      exact count_next () hk (by rw [wrap_succ hk (by omega), ht]; rfl) trivial
  · intro _ _
    rw [List.take_length]
    conv => whnf
    repeat' (first | ((first | refine Split.mk (fun h => ?_) (fun h => ?_) | refine CondG.mk (fun h => ?_) (fun h => ?_)) <;> (try simp only [decide_eq_true_eq, decide_eq_false_iff_not, Bool.not_eq_true', Bool.not_eq_false', beq_iff_eq, beq_eq_false_iff_ne, bne_iff_ne, bne_eq_false_iff_eq] at h) <;> (first | (exfalso; first | omega | exact h trivial) | (conv => whnf))) | (refine Ask.mk (by first | omega | (unfold roomOK; simp [cutRows]; done) | (unfold roomOK; simp [cutRows]; omega) | (simp [cutRows]; done) | (simp [cutRows]; omega)) ?_; conv => whnf) | (refine AppG.mk (by first | omega | (unfold roomOK; simp [cutRows]; done) | (unfold roomOK; simp [cutRows]; omega) | (simp [cutRows]; done) | (simp [cutRows]; omega)) ?_; conv => whnf) | (refine SliceG.fr ?_; conv => whnf) | (refine idx_at _ (by with_reducible rfl) (by first | assumption | omega) ?_; conv => whnf) | ((with_reducible refine row_map (by first | assumption | omega) ?_); conv => whnf) | ((with_reducible refine row_set (by first | assumption | omega | (simp only [List.length_set]; omega) | (simp; omega)) ?_); conv => whnf) | fail)
    exact .frz 0 _ _ _ rfl (.weak [_] (.fro 0 _ _ rfl) rfl (Nat.le_refl _))
set_option maxRecDepth 100000 in
set_option maxHeartbeats 4000000 in
theorem dOuters_pc (l : List Ly) (hl : l.length ≤ 1000000) (hx : ∀ x ∈ l, Rise id x.ducts ∧ x.ducts.length ≤ 1000000) (key : ByteArray) : PCp 105 [.c (.lst 3 (l.map encLy)), .c (.str key)] [] (.c (.row 0)) [.row 3 1 ((outV l key).map encI)] := by
  have hle := inL_len l key
  refine fn_sound (mt := mts) tab_fits tab_mixed Tryz.func105 (by rfl) (by kernel_rfl) (by kernel_rfl) Tryz.results105 (Nat.le_of_ble_eq_true (by kernel_rfl)) ?_
  conv => whnf
  repeat' (first | ((first | refine Split.mk (fun h => ?_) (fun h => ?_) | refine CondG.mk (fun h => ?_) (fun h => ?_)) <;> (try simp only [decide_eq_true_eq, decide_eq_false_iff_not, Bool.not_eq_true', Bool.not_eq_false', beq_iff_eq, beq_eq_false_iff_ne, bne_iff_ne, bne_eq_false_iff_eq] at h) <;> (first | (exfalso; first | omega | exact h trivial) | (conv => whnf))) | (refine CallX.mk _ _ (by first | exact dIn_pc l hl hx key) ?_; conv => whnf) | (refine CallG.mk _ _ (by first | exact dIn_pc l hl hx key) ?_; conv => whnf) | (refine Ask.mk (by first | omega | (unfold roomOK; simp [cutRows]; done) | (unfold roomOK; simp [cutRows]; omega) | (simp [cutRows]; done) | (simp [cutRows]; omega)) ?_; conv => whnf) | (refine AppG.mk (by first | omega | (unfold roomOK; simp [cutRows]; done) | (unfold roomOK; simp [cutRows]; omega) | (simp [cutRows]; done) | (simp [cutRows]; omega)) ?_; conv => whnf) | (refine SliceG.fr ?_; conv => whnf) | (refine idx_at _ (by with_reducible rfl) (by first | assumption | omega) ?_; conv => whnf) | ((with_reducible refine row_map (by first | assumption | omega) ?_); conv => whnf) | ((with_reducible refine row_set (by first | assumption | omega | (simp only [List.length_set]; omega) | (simp; omega)) ?_); conv => whnf) | fail)
  have hO : outV l key = (inL l key).map Ly.outer := rfl
  rw [hO]
  generalize inL l key = L at *
  have hlm : (L.map encLy).length = L.length := List.length_map ..
  refine loop_for (L.length) [.sl 5 3 1] [5, 10, 11, 12] (fun k (_ : Unit) => [(12, .c (.int .i64 (k : Int)))]) (fun k (_ : Unit) => [(0, .row 3 1 (((L.take k).map Ly.outer).map encI))]) (fun k (_ : Unit) => True) (()) ?_
  conv => whnf
  refine ⟨(by first | rfl | (simp; done) | (simp; rfl)), (by trivial), ?_, ?_⟩
  · intro k _ hk _
    have hcm : (((L.take k).map Ly.outer).map encI).length = (L.take k).length := by simp
    have htl : (L.take k).length = k := by rw [List.length_take]; omega
    conv => whnf
    repeat' (first | ((first | refine Split.mk (fun h => ?_) (fun h => ?_) | refine CondG.mk (fun h => ?_) (fun h => ?_)) <;> (try simp only [decide_eq_true_eq, decide_eq_false_iff_not, Bool.not_eq_true', Bool.not_eq_false', beq_iff_eq, beq_eq_false_iff_ne, bne_iff_ne, bne_eq_false_iff_eq] at h) <;> (first | (exfalso; first | omega | exact h trivial) | (conv => whnf))) | (refine Ask.mk (by first | omega | (unfold roomOK; simp [cutRows]; done) | (unfold roomOK; simp [cutRows]; omega) | (simp [cutRows]; done) | (simp [cutRows]; omega)) ?_; conv => whnf) | (refine AppG.mk (by first | omega | (unfold roomOK; simp [cutRows]; done) | (unfold roomOK; simp [cutRows]; omega) | (simp [cutRows]; done) | (simp [cutRows]; omega)) ?_; conv => whnf) | (refine SliceG.fr ?_; conv => whnf) | (refine idx_at _ (by with_reducible rfl) (by first | assumption | omega) ?_; conv => whnf) | ((with_reducible refine row_map (by first | assumption | omega) ?_); conv => whnf) | ((with_reducible refine row_set (by first | assumption | omega | (simp only [List.length_set]; omega) | (simp; omega)) ?_); conv => whnf) | fail)
    exact count_next () hk (by rw [wrap_succ hk (by omega), List.take_succ_eq_append_getElem hk, List.map_append, List.map_append]; rfl) trivial
  · intro _ _
    rw [List.take_length]
    conv => whnf
    repeat' (first | ((first | refine Split.mk (fun h => ?_) (fun h => ?_) | refine CondG.mk (fun h => ?_) (fun h => ?_)) <;> (try simp only [decide_eq_true_eq, decide_eq_false_iff_not, Bool.not_eq_true', Bool.not_eq_false', beq_iff_eq, beq_eq_false_iff_ne, bne_iff_ne, bne_eq_false_iff_eq] at h) <;> (first | (exfalso; first | omega | exact h trivial) | (conv => whnf))) | (refine Ask.mk (by first | omega | (unfold roomOK; simp [cutRows]; done) | (unfold roomOK; simp [cutRows]; omega) | (simp [cutRows]; done) | (simp [cutRows]; omega)) ?_; conv => whnf) | (refine AppG.mk (by first | omega | (unfold roomOK; simp [cutRows]; done) | (unfold roomOK; simp [cutRows]; omega) | (simp [cutRows]; done) | (simp [cutRows]; omega)) ?_; conv => whnf) | (refine SliceG.fr ?_; conv => whnf) | (refine idx_at _ (by with_reducible rfl) (by first | assumption | omega) ?_; conv => whnf) | ((with_reducible refine row_map (by first | assumption | omega) ?_); conv => whnf) | ((with_reducible refine row_set (by first | assumption | omega | (simp only [List.length_set]; omega) | (simp; omega)) ?_); conv => whnf) | fail)
    exact .mk ⟨rfl, rfl⟩
end Go.Proofs.YtobcplhaabaemaaGreat

/- Ducts: fills, rooms, how many more. -/
namespace Go.Proofs.YtobcplhaabaemaaGreat
set_option linter.unusedVariables false
set_option linter.unusedSimpArgs false
open Abs

def oneE (d : List Du) (l : List Ly) (k : ByteArray) : Int := if lyFault d l ≠ 0 then lyFault d l else if hasD d k then 0 else 8
def duV (d : List Du) (l : List Ly) (k : ByteArray) : Du := if oneE d l k = 0 then duG d k else du0
theorem oneE_ok {d : List Du} {l : List Ly} {k : ByteArray} (h : oneE d l k = 0) : LyOk d l ∧ hasD d k = true ∧ lyFault d l = 0 := by
  unfold oneE at h
  split at h
  · exact absurd h (by assumption)
  · split at h
    · rename_i h1 h2; exact ⟨lyFault_ok (by omega), h2, by omega⟩
    · omega
theorem LyOk.rl {d : List Du} {l : List Ly} (h : LyOk d l) : ∀ x ∈ l, Rise id x.ducts ∧ x.ducts.length ≤ 1000000 := fun x hx => ⟨(h.each x hx).rise, by have := (h.each x hx).len; omega⟩
theorem LyOk.o1000 {d : List Du} {l : List Ly} (h : LyOk d l) (k : ByteArray) : ∀ x ∈ outV l k, 0 ≤ x ∧ x ≤ 1000 := by
  intro x hx
  obtain ⟨y, hy, rfl⟩ := List.mem_map.1 hx
  have := (h.each y (List.mem_filter.1 hy).1).out
  omega
theorem outV_len (l : List Ly) (k : ByteArray) : (outV l k).length = (inL l k).length := List.length_map ..
theorem LyOk.out20 {d : List Du} {l : List Ly} (h : LyOk d l) {k : ByteArray} (hk : hasD d k = true) : (outV l k).length ≤ 20 := by
  obtain ⟨x, hx, rfl⟩ := hasD_iff.1 hk
  rw [outV_len]; exact h.few x hx
theorem duG_in {d : List Du} (h : DuOk d) {k : ByteArray} (hk : hasD d k = true) : duG d k ∈ d ∧ (duG d k).key = k := by
  obtain ⟨x, hx, rfl⟩ := hasD_iff.1 hk
  rw [duG_mem h hx]; exact ⟨hx, rfl⟩
set_option maxRecDepth 100000 in
set_option maxHeartbeats 4000000 in
theorem ductOf_pc (d : List Du) (l : List Ly) (hx : ∀ x ∈ l, x.ducts.length ≤ 1000000) (k : ByteArray) : PCp 102 [.c (.lst 5 (d.map encDu)), .c (.lst 3 (l.map encLy)), .c (.str k)] [] (.tup [.agg (encDu (duV d l k)), .c (.int .i64 (oneE d l k))]) [] := by
  refine fn_sound (mt := mts) tab_fits tab_mixed Tryz.func102 (by rfl) (by kernel_rfl) (by kernel_rfl) Tryz.results102 (Nat.le_of_ble_eq_true (by kernel_rfl)) ?_
  conv => whnf
  repeat' (first | ((first | refine Split.mk (fun h => ?_) (fun h => ?_) | refine CondG.mk (fun h => ?_) (fun h => ?_)) <;> (try simp only [decide_eq_true_eq, decide_eq_false_iff_not, Bool.not_eq_true', Bool.not_eq_false', beq_iff_eq, beq_eq_false_iff_ne, bne_iff_ne, bne_eq_false_iff_eq] at h) <;> (first | (exfalso; first | omega | exact h trivial) | (conv => whnf))) | (refine CallX.mk _ _ (by first | exact checkLying_pc d l hx) ?_; conv => whnf) | (refine CallG.mk _ _ (by first | exact checkLying_pc d l hx) ?_; conv => whnf) | (refine Ask.mk (by first | omega | (unfold roomOK; simp [cutRows]; done) | (unfold roomOK; simp [cutRows]; omega) | (simp [cutRows]; done) | (simp [cutRows]; omega)) ?_; conv => whnf) | (refine AppG.mk (by first | omega | (unfold roomOK; simp [cutRows]; done) | (unfold roomOK; simp [cutRows]; omega) | (simp [cutRows]; done) | (simp [cutRows]; omega)) ?_; conv => whnf) | (refine SliceG.fr ?_; conv => whnf) | (refine idx_at _ (by with_reducible rfl) (by first | assumption | omega) ?_; conv => whnf) | ((with_reducible refine row_map (by first | assumption | omega) ?_); conv => whnf) | ((with_reducible refine row_set (by first | assumption | omega | (simp only [List.length_set]; omega) | (simp; omega)) ?_); conv => whnf) | fail)
  · have h1 : oneE d l k = lyFault d l := by rw [oneE, if_pos h]
    exact .mk ⟨by rw [duV, h1, if_neg h]; rfl, rfl⟩
  have hok := lyFault_ok h
  repeat' (first | ((first | refine Split.mk (fun h => ?_) (fun h => ?_) | refine CondG.mk (fun h => ?_) (fun h => ?_)) <;> (try simp only [decide_eq_true_eq, decide_eq_false_iff_not, Bool.not_eq_true', Bool.not_eq_false', beq_iff_eq, beq_eq_false_iff_ne, bne_iff_ne, bne_eq_false_iff_eq] at h) <;> (first | (exfalso; first | omega | exact h trivial) | (conv => whnf))) | (refine CallX.mk _ _ (by first | exact find_pc d hok.du k) ?_; conv => whnf) | (refine CallG.mk _ _ (by first | exact find_pc d hok.du k) ?_; conv => whnf) | (refine Ask.mk (by first | omega | (unfold roomOK; simp [cutRows]; done) | (unfold roomOK; simp [cutRows]; omega) | (simp [cutRows]; done) | (simp [cutRows]; omega)) ?_; conv => whnf) | (refine AppG.mk (by first | omega | (unfold roomOK; simp [cutRows]; done) | (unfold roomOK; simp [cutRows]; omega) | (simp [cutRows]; done) | (simp [cutRows]; omega)) ?_; conv => whnf) | (refine SliceG.fr ?_; conv => whnf) | (refine idx_at _ (by with_reducible rfl) (by first | assumption | omega) ?_; conv => whnf) | ((with_reducible refine row_map (by first | assumption | omega) ?_); conv => whnf) | ((with_reducible refine row_set (by first | assumption | omega | (simp only [List.length_set]; omega) | (simp; omega)) ?_); conv => whnf) | fail)
  · have h1 : oneE d l k = 8 := by rw [oneE, if_neg (by omega), if_neg (by rw [h]; decide)]
    exact .mk ⟨by rw [duV, h1, if_neg (by decide)]; rfl, rfl⟩
  · have h1 : oneE d l k = 0 := by rw [oneE, if_neg (by omega), if_pos h]
    exact .mk ⟨by rw [duV, h1, if_pos rfl]; rfl, rfl⟩
end Go.Proofs.YtobcplhaabaemaaGreat

/- Ducts: what has room, how many more. -/
namespace Go.Proofs.YtobcplhaabaemaaGreat
set_option linter.unusedVariables false
set_option linter.unusedSimpArgs false
open Abs

set_option maxRecDepth 100000 in
set_option maxHeartbeats 4000000 in
theorem dOuterFault_pc (n : Int) : PCp 103 [.c (.int .i64 n)] [] (.c (.int .i64 (if n < 1 ∨ 1000 < n then 1 else 0))) [] := by
  refine fn_sound (mt := mts) tab_fits tab_mixed Tryz.func103 (by rfl) (by kernel_rfl) (by kernel_rfl) Tryz.results103 (Nat.le_of_ble_eq_true (by kernel_rfl)) ?_
  conv => whnf
  repeat' (first | ((first | refine Split.mk (fun h => ?_) (fun h => ?_) | refine CondG.mk (fun h => ?_) (fun h => ?_)) <;> (try simp only [decide_eq_true_eq, decide_eq_false_iff_not, Bool.not_eq_true', Bool.not_eq_false', beq_iff_eq, beq_eq_false_iff_ne, bne_iff_ne, bne_eq_false_iff_eq] at h) <;> (first | (exfalso; first | omega | exact h trivial) | (conv => whnf))) | (refine CallX.mk _ _ (by first | exact bOut_pc _ _ _) ?_; conv => whnf) | (refine CallG.mk _ _ (by first | exact bOut_pc _ _ _) ?_; conv => whnf) | (refine Ask.mk (by first | omega | (unfold roomOK; simp [cutRows]; done) | (unfold roomOK; simp [cutRows]; omega) | (simp [cutRows]; done) | (simp [cutRows]; omega)) ?_; conv => whnf) | (refine AppG.mk (by first | omega | (unfold roomOK; simp [cutRows]; done) | (unfold roomOK; simp [cutRows]; omega) | (simp [cutRows]; done) | (simp [cutRows]; omega)) ?_; conv => whnf) | (refine SliceG.fr ?_; conv => whnf) | (refine idx_at _ (by with_reducible rfl) (by first | assumption | omega) ?_; conv => whnf) | ((with_reducible refine row_map (by first | assumption | omega) ?_); conv => whnf) | ((with_reducible refine row_set (by first | assumption | omega | (simp only [List.length_set]; omega) | (simp; omega)) ?_); conv => whnf) | fail)
  all_goals exact fini (by simp_all <;> omega)
set_option maxRecDepth 100000 in
set_option maxHeartbeats 4000000 in
theorem ixIK_pc (key : Int) (g : Nat) (p : Int → Bool) (l : List Int) (hl : l.length ≤ 1000000) (hg : ∀ x ∈ l, PCp g [.c (.int .i64 x), .c (.ptr 0 0)] [.box [.int .i64 key]] (.c (.bool (p x))) [.box [.int .i64 key]]) : PCp 68 [.c (.lst 1 (l.map encI)), .c (.fn g [.ptr 0 0])] [.box [.int .i64 key]] (.c (.int .i64 (idxP p l))) [.box [.int .i64 key]] := by
  have hlm : (l.map encI).length = l.length := List.length_map ..
  refine fn_sound (mt := mts) tab_fits tab_mixed Tryz.func68 (by rfl) (by kernel_rfl) (by kernel_rfl) Tryz.results68 (Nat.le_of_ble_eq_true (by kernel_rfl)) ?_
  conv => whnf
  refine loop_count (l.length) [] [0, 1, 7, 8] (fun k (_ : Unit) => ⟨[(0, .c (.lst 1 (l.map encI))), (1, .c (.fn g [.ptr 0 0])), (7, .c (.int .i64 (l.map encI).length)), (8, .c (.int .i64 k))], [(0, .box [.int .i64 key])], 1⟩) (fun k (_ : Unit) => ∀ i (hi : i < l.length), i < k → p l[i] = false) (()) ?_ ?_ ?_
  · conv => whnf
    exact ⟨rfl, by intro i hi h; omega⟩
  · intro k _ hk hi
    conv => whnf
    repeat' (first | ((first | refine Split.mk (fun h => ?_) (fun h => ?_) | refine CondG.mk (fun h => ?_) (fun h => ?_)) <;> (try simp only [decide_eq_true_eq, decide_eq_false_iff_not, Bool.not_eq_true', Bool.not_eq_false', beq_iff_eq, beq_eq_false_iff_ne, bne_iff_ne, bne_eq_false_iff_eq] at h) <;> (first | (exfalso; first | omega | exact h trivial) | (conv => whnf))) | (refine CallX.mk _ _ (by first | exact hg l[k] (List.getElem_mem hk)) ?_; conv => whnf) | (refine CallG.mk _ _ (by first | exact hg l[k] (List.getElem_mem hk)) ?_; conv => whnf) | (refine Ask.mk (by first | omega | (unfold roomOK; simp [cutRows]; done) | (unfold roomOK; simp [cutRows]; omega) | (simp [cutRows]; done) | (simp [cutRows]; omega)) ?_; conv => whnf) | (refine AppG.mk (by first | omega | (unfold roomOK; simp [cutRows]; done) | (unfold roomOK; simp [cutRows]; omega) | (simp [cutRows]; done) | (simp [cutRows]; omega)) ?_; conv => whnf) | (refine SliceG.fr ?_; conv => whnf) | (refine idx_at _ (by with_reducible rfl) (by first | assumption | omega) ?_; conv => whnf) | ((with_reducible refine row_map (by first | assumption | omega) ?_); conv => whnf) | ((with_reducible refine row_set (by first | assumption | omega | (simp only [List.length_set]; omega) | (simp; omega)) ?_); conv => whnf) | fail)
    · exact .mk ⟨by rw [idxP_hit hk (fun i hi' => hi i (by omega) hi') h]; rfl, rfl⟩
    · refine count_next () hk (by rw [wrap_succ hk (by omega)]; rfl) ?_
      exact all_succ' hi h
  · intro _ hi
    conv => whnf
    repeat' (first | ((first | refine Split.mk (fun h => ?_) (fun h => ?_) | refine CondG.mk (fun h => ?_) (fun h => ?_)) <;> (try simp only [decide_eq_true_eq, decide_eq_false_iff_not, Bool.not_eq_true', Bool.not_eq_false', beq_iff_eq, beq_eq_false_iff_ne] at h) <;> (first | (exfalso; first | omega | exact h trivial) | (conv => whnf))) | (refine Ask.mk (by first | omega | (unfold roomOK; simp [cutRows]; done) | (unfold roomOK; simp [cutRows]; omega)) ?_; conv => whnf) | (refine AppG.mk (by first | omega | (unfold roomOK; simp [cutRows]; done) | (unfold roomOK; simp [cutRows]; omega)) ?_; conv => whnf) | (refine SliceG.fr ?_; conv => whnf) | fail)
    exact .mk ⟨by rw [idxP_miss (fun i h => hi i h h)]; rfl, rfl⟩
set_option maxRecDepth 100000 in
set_option maxHeartbeats 4000000 in
theorem ixIKC_pc (key : Int) (g : Nat) (p : Int → Bool) (l : List Int) (hl : l.length ≤ 1000000) (hg : ∀ x ∈ l, PCp g [.c (.int .i64 x), .c (.ptr 0 0)] [.box [.int .i64 key]] (.c (.bool (p x))) [.box [.int .i64 key]]) : PCp 32 [.c (.lst 1 (l.map encI)), .c (.fn g [.ptr 0 0])] [.box [.int .i64 key]] (.c (.bool (l.any p))) [.box [.int .i64 key]] := by
  refine fn_sound (mt := mts) tab_fits tab_mixed Tryz.func32 (by rfl) (by kernel_rfl) (by kernel_rfl) Tryz.results32 (Nat.le_of_ble_eq_true (by kernel_rfl)) ?_
  conv => whnf
  repeat' (first | ((first | refine Split.mk (fun h => ?_) (fun h => ?_) | refine CondG.mk (fun h => ?_) (fun h => ?_)) <;> (try simp only [decide_eq_true_eq, decide_eq_false_iff_not, Bool.not_eq_true', Bool.not_eq_false', beq_iff_eq, beq_eq_false_iff_ne] at h) <;> (first | (exfalso; first | omega | exact h trivial) | (conv => whnf))) | (refine CallX.mk _ _ (by first | exact ixIK_pc key g p l hl hg) ?_; conv => whnf) | (refine CallG.mk _ _ (by first | exact ixIK_pc key g p l hl hg) ?_; conv => whnf) | (refine Ask.mk (by first | omega | (unfold roomOK; simp [cutRows]; done) | (unfold roomOK; simp [cutRows]; omega)) ?_; conv => whnf) | (refine AppG.mk (by first | omega | (unfold roomOK; simp [cutRows]; done) | (unfold roomOK; simp [cutRows]; omega)) ?_; conv => whnf) | (refine SliceG.fr ?_; conv => whnf) | fail)
  exact .mk ⟨by rw [← idxP_any]; rfl, rfl⟩
set_option maxRecDepth 100000 in
set_option maxHeartbeats 4000000 in
theorem room1_pc (n inner : Int) : PCp 184 [.c (.int .i64 n), .c (.ptr 0 0)] [.box [.int .i64 inner]] (.c (.bool (decide (inner < n)))) [.box [.int .i64 inner]] := by
  refine fn_sound (mt := mts) tab_fits tab_mixed Tryz.func184 (by rfl) (by kernel_rfl) (by kernel_rfl) Tryz.results184 (Nat.le_of_ble_eq_true (by kernel_rfl)) ?_
  conv => whnf
  repeat' (first | ((first | refine Split.mk (fun h => ?_) (fun h => ?_) | refine CondG.mk (fun h => ?_) (fun h => ?_)) <;> (try simp only [decide_eq_true_eq, decide_eq_false_iff_not, Bool.not_eq_true', Bool.not_eq_false', beq_iff_eq, beq_eq_false_iff_ne, bne_iff_ne, bne_eq_false_iff_eq] at h) <;> (first | (exfalso; first | omega | exact h trivial) | (conv => whnf))) | (refine Ask.mk (by first | omega | (unfold roomOK; simp [cutRows]; done) | (unfold roomOK; simp [cutRows]; omega) | (simp [cutRows]; done) | (simp [cutRows]; omega)) ?_; conv => whnf) | (refine AppG.mk (by first | omega | (unfold roomOK; simp [cutRows]; done) | (unfold roomOK; simp [cutRows]; omega) | (simp [cutRows]; done) | (simp [cutRows]; omega)) ?_; conv => whnf) | (refine SliceG.fr ?_; conv => whnf) | (refine idx_at _ (by with_reducible rfl) (by first | assumption | omega) ?_; conv => whnf) | ((with_reducible refine row_map (by first | assumption | omega) ?_); conv => whnf) | ((with_reducible refine row_set (by first | assumption | omega | (simp only [List.length_set]; omega) | (simp; omega)) ?_); conv => whnf) | fail)
  exact .mk ⟨rfl, rfl⟩
set_option maxRecDepth 100000 in
set_option maxHeartbeats 4000000 in
theorem part_pc (n : Nat) : PCp 183 [.c (.int .i64 (n : Int))] [] (.c (.int .i64 (partV n))) [] := by
  refine fn_sound (mt := mts) tab_fits tab_mixed Tryz.func183 (by rfl) (by kernel_rfl) (by kernel_rfl) Tryz.results183 (Nat.le_of_ble_eq_true (by kernel_rfl)) ?_
  conv => whnf
  repeat' (first | ((first | refine Split.mk (fun h => ?_) (fun h => ?_) | refine CondG.mk (fun h => ?_) (fun h => ?_)) <;> (try simp only [decide_eq_true_eq, decide_eq_false_iff_not, Bool.not_eq_true', Bool.not_eq_false', beq_iff_eq, beq_eq_false_iff_ne, bne_iff_ne, bne_eq_false_iff_eq] at h) <;> (first | (exfalso; first | omega | exact h trivial) | (conv => whnf))) | (refine Ask.mk (by first | omega | (unfold roomOK; simp [cutRows]; done) | (unfold roomOK; simp [cutRows]; omega) | (simp [cutRows]; done) | (simp [cutRows]; omega)) ?_; conv => whnf) | (refine AppG.mk (by first | omega | (unfold roomOK; simp [cutRows]; done) | (unfold roomOK; simp [cutRows]; omega) | (simp [cutRows]; done) | (simp [cutRows]; omega)) ?_; conv => whnf) | (refine SliceG.fr ?_; conv => whnf) | (refine idx_at _ (by with_reducible rfl) (by first | assumption | omega) ?_; conv => whnf) | ((with_reducible refine row_map (by first | assumption | omega) ?_); conv => whnf) | ((with_reducible refine row_set (by first | assumption | omega | (simp only [List.length_set]; omega) | (simp; omega)) ?_); conv => whnf) | fail)
  all_goals refine fini ?_
  all_goals unfold partV
  all_goals repeat' split
  all_goals omega
theorem partV_in (n : Nat) : 31 ≤ partV n ∧ partV n ≤ 53 := by
  unfold partV
  repeat' split
  all_goals omega
theorem room_w {inner : Int} {l : List Int} (hi : 1 ≤ inner ∧ inner ≤ 1000) (hl : l.length ≤ 100000) (ho : ∀ x ∈ l, 0 ≤ x ∧ x ≤ 1000) : IntKind.i64.wrap (100 * sqV l) = 100 * sqV l ∧ IntKind.i64.wrap (IntKind.i64.wrap (partV l.length * inner) * inner) = partV l.length * inner * inner ∧ 0 ≤ partV l.length * inner * inner := by
  have h1 := sq_in ho
  have h2 := partV_in l.length
  have h3 : 0 ≤ partV l.length * inner := Int.mul_nonneg (by omega) (by omega)
  have h4 : partV l.length * inner ≤ 53 * 1000 := Int.mul_le_mul (by omega) (by omega) (by omega) (by omega)
  have h5 : 0 ≤ partV l.length * inner * inner := Int.mul_nonneg h3 (by omega)
  have h6 : partV l.length * inner * inner ≤ 53000 * 1000 := Int.mul_le_mul (by omega) (by omega) (by omega) (by omega)
  refine ⟨wrap_in (by omega) (by omega), ?_, h5⟩
  rw [wrap_in (x := partV l.length * inner) (by omega) (by omega), wrap_in (by omega) (by omega)]
set_option maxRecDepth 100000 in
set_option maxHeartbeats 4000000 in
theorem dRoom_pc (inner : Int) (l : List Int) (hi : 1 ≤ inner ∧ inner ≤ 1000) (hl : l.length ≤ 100000) (ho : ∀ x ∈ l, 0 ≤ x ∧ x ≤ 1000) : PCp 150 [.c (.int .i64 inner), .c (.lst 1 (l.map encI))] [] (.c (.bool (roomB inner l))) [] := by
  have hlm : (l.map encI).length = l.length := List.length_map ..
  obtain ⟨w1, w2, _⟩ := room_w hi hl ho
  refine fn_sound (mt := mts) tab_fits tab_mixed Tryz.func150 (by rfl) (by kernel_rfl) (by kernel_rfl) Tryz.results150 (Nat.le_of_ble_eq_true (by kernel_rfl)) ?_
  conv => whnf
  repeat' (first | ((first | refine Split.mk (fun h => ?_) (fun h => ?_) | refine CondG.mk (fun h => ?_) (fun h => ?_)) <;> (try simp only [decide_eq_true_eq, decide_eq_false_iff_not, Bool.not_eq_true', Bool.not_eq_false', beq_iff_eq, beq_eq_false_iff_ne, bne_iff_ne, bne_eq_false_iff_eq] at h) <;> (first | (exfalso; first | omega | exact h trivial) | (conv => whnf))) | (refine CallX.mk _ _ (by first | exact dSquares_pc l ho (by omega) | exact (by rw [hlm]; exact part_pc l.length) | exact ixIKC_pc inner 184 (fun n => decide (inner < n)) l (by omega) (fun x _ => room1_pc x inner)) ?_; conv => whnf) | (refine CallG.mk _ _ (by first | exact dSquares_pc l ho (by omega) | exact (by rw [hlm]; exact part_pc l.length) | exact ixIKC_pc inner 184 (fun n => decide (inner < n)) l (by omega) (fun x _ => room1_pc x inner)) ?_; conv => whnf) | (refine Ask.mk (by first | omega | (unfold roomOK; simp [cutRows]; done) | (unfold roomOK; simp [cutRows]; omega) | (simp [cutRows]; done) | (simp [cutRows]; omega)) ?_; conv => whnf) | (refine AppG.mk (by first | omega | (unfold roomOK; simp [cutRows]; done) | (unfold roomOK; simp [cutRows]; omega) | (simp [cutRows]; done) | (simp [cutRows]; omega)) ?_; conv => whnf) | (refine SliceG.fr ?_; conv => whnf) | (refine idx_at _ (by with_reducible rfl) (by first | assumption | omega) ?_; conv => whnf) | ((with_reducible refine row_map (by first | assumption | omega) ?_); conv => whnf) | ((with_reducible refine row_set (by first | assumption | omega | (simp only [List.length_set]; omega) | (simp; omega)) ?_); conv => whnf) | fail)
  all_goals rw [w1, w2] at *
  · refine finb ?_
    unfold roomB; rw [decide_eq_true h, Bool.true_and]
  · refine finb ?_
    unfold roomB; rw [decide_eq_false h, Bool.false_and]
set_option maxRecDepth 100000 in
set_option maxHeartbeats 4000000 in
theorem dMost_pc (x : Du) (all : List Int) (outer : Int) (hi : 1 ≤ x.inner ∧ x.inner ≤ 1000) (hl : all.length ≤ 20) (ho : ∀ y ∈ all, 0 ≤ y ∧ y ≤ 1000) (hq : 0 ≤ outer ∧ outer ≤ 1000) : PCp 104 [.agg (encDu x), .c (.lst 1 (all.map encI)), .c (.int .i64 outer)] [] (.c (.int .i64 (mostV x.inner all outer (20 - all.length) : Nat))) [] := by
  have hlm : (all.map encI).length = all.length := List.length_map ..
  have hin : ∀ n, ∀ y ∈ all ++ List.replicate n outer, 0 ≤ y ∧ y ≤ 1000 := by
    intro n y hy
    rcases List.mem_append.1 hy with h | h
    · exact ho y h
    · rw [(List.mem_replicate.1 h).2]; exact hq
  have hw : IntKind.i64.wrap (20 - ((all.map encI).length : Nat)) = ((20 - all.length : Nat) : Int) := by rw [hlm, wrap_in (by omega) (by omega)]; omega
  refine fn_sound (mt := mts) tab_fits tab_mixed Tryz.func104 (by rfl) (by kernel_rfl) (by kernel_rfl) Tryz.results104 (Nat.le_of_ble_eq_true (by kernel_rfl)) ?_
  conv => whnf
  rw [hw]
  refine loop_while (fun (n : Nat) => n) [] [1, 2, 3, 7] (fun (n : Nat) => [(7, .c (.int .i64 (n : Int)))]) (fun (n : Nat) => []) (fun (n : Nat) => n ≤ 20 - all.length ∧ mostV x.inner all outer n = mostV x.inner all outer (20 - all.length)) (20 - all.length) ?_
  conv => whnf
  refine ⟨(by first | rfl | (simp; done) | (simp; rfl)), ?_, ?_⟩
  · exact ⟨Nat.le_refl _, rfl⟩
  · intro n ⟨h1, h2⟩
    conv => whnf
    repeat' (first | ((first | refine Split.mk (fun h => ?_) (fun h => ?_) | refine CondG.mk (fun h => ?_) (fun h => ?_)) <;> (try simp only [decide_eq_true_eq, decide_eq_false_iff_not, Bool.not_eq_true', Bool.not_eq_false', beq_iff_eq, beq_eq_false_iff_ne, bne_iff_ne, bne_eq_false_iff_eq] at h) <;> (first | (exfalso; first | omega | exact h trivial) | (conv => whnf))) | (refine CallX.mk _ _ (by first | exact cloneI_pc all (by omega)) ?_; conv => whnf) | (refine CallG.mk _ _ (by first | exact cloneI_pc all (by omega)) ?_; conv => whnf) | (refine Ask.mk (by first | omega | (unfold roomOK; simp [cutRows]; done) | (unfold roomOK; simp [cutRows]; omega) | (simp [cutRows]; done) | (simp [cutRows]; omega)) ?_; conv => whnf) | (refine AppG.mk (by first | omega | (unfold roomOK; simp [cutRows]; done) | (unfold roomOK; simp [cutRows]; omega) | (simp [cutRows]; done) | (simp [cutRows]; omega)) ?_; conv => whnf) | (refine SliceG.fr ?_; conv => whnf) | (refine idx_at _ (by with_reducible rfl) (by first | assumption | omega) ?_; conv => whnf) | ((with_reducible refine row_map (by first | assumption | omega) ?_); conv => whnf) | ((with_reducible refine row_set (by first | assumption | omega | (simp only [List.length_set]; omega) | (simp; omega)) ?_); conv => whnf) | fail)
    · obtain ⟨m, rfl⟩ : ∃ m, n = m + 1 := ⟨n - 1, by omega⟩
      have hlr : ∀ k, k ≤ m + 1 → (all ++ List.replicate k outer).length ≤ 100 := by intro k hk; simp; omega
      refine loop_for (m + 1) [] [1, 2, 3, 7, 8, 18, 19] (fun k (_ : Unit) => [(19, .c (.int .i64 (k : Int)))]) (fun k (_ : Unit) => [(1, .row 3 1 ((all ++ List.replicate k outer).map encI))]) (fun k (_ : Unit) => True) (()) ?_
      conv => whnf
      refine ⟨(by first | rfl | (simp; done) | (simp; rfl)), (by trivial), ?_, ?_⟩
      · intro k _ hk _
        have h3 := hlr k (by omega)
        have h4 : ((all ++ List.replicate k outer).map encI).length ≤ 100 := by rw [List.length_map]; exact h3
        conv => whnf
        repeat' (first | ((first | refine Split.mk (fun h => ?_) (fun h => ?_) | refine CondG.mk (fun h => ?_) (fun h => ?_)) <;> (try simp only [decide_eq_true_eq, decide_eq_false_iff_not, Bool.not_eq_true', Bool.not_eq_false', beq_iff_eq, beq_eq_false_iff_ne, bne_iff_ne, bne_eq_false_iff_eq] at h) <;> (first | (exfalso; first | omega | exact h trivial) | (conv => whnf))) | (refine Ask.mk (by first | omega | (unfold roomOK; simp [cutRows]; done) | (unfold roomOK; simp [cutRows]; omega) | (simp [cutRows]; done) | (simp [cutRows]; omega)) ?_; conv => whnf) | (refine AppG.mk (by first | omega | (unfold roomOK; simp [cutRows]; done) | (unfold roomOK; simp [cutRows]; omega) | (simp [cutRows]; done) | (simp [cutRows]; omega)) ?_; conv => whnf) | (refine SliceG.fr ?_; conv => whnf) | (refine idx_at _ (by with_reducible rfl) (by first | assumption | omega) ?_; conv => whnf) | ((with_reducible refine row_map (by first | assumption | omega) ?_); conv => whnf) | ((with_reducible refine row_set (by first | assumption | omega | (simp only [List.length_set]; omega) | (simp; omega)) ?_); conv => whnf) | fail)
        exact count_next () hk (by rw [wrap_succ hk (by omega), List.replicate_succ', ← List.append_assoc, List.map_append (l₁ := all ++ List.replicate k outer)]; rfl) trivial
      · intro _ _
        have h3 := hlr (m + 1) (by omega)
        have hR := dRoom_pc x.inner (all ++ List.replicate (m + 1) outer) hi (by omega) (hin _)
        conv => whnf
        repeat' (first | ((first | refine Split.mk (fun h => ?_) (fun h => ?_) | refine CondG.mk (fun h => ?_) (fun h => ?_)) <;> (try simp only [decide_eq_true_eq, decide_eq_false_iff_not, Bool.not_eq_true', Bool.not_eq_false', beq_iff_eq, beq_eq_false_iff_ne, bne_iff_ne, bne_eq_false_iff_eq] at h) <;> (first | (exfalso; first | omega | exact h trivial) | (conv => whnf))) | (refine CallX.mk _ _ (by first | exact hR) ?_; conv => whnf) | (refine CallG.mk _ _ (by first | exact hR) ?_; conv => whnf) | (refine Ask.mk (by first | omega | (unfold roomOK; simp [cutRows]; done) | (unfold roomOK; simp [cutRows]; omega) | (simp [cutRows]; done) | (simp [cutRows]; omega)) ?_; conv => whnf) | (refine AppG.mk (by first | omega | (unfold roomOK; simp [cutRows]; done) | (unfold roomOK; simp [cutRows]; omega) | (simp [cutRows]; done) | (simp [cutRows]; omega)) ?_; conv => whnf) | (refine SliceG.fr ?_; conv => whnf) | (refine idx_at _ (by with_reducible rfl) (by first | assumption | omega) ?_; conv => whnf) | ((with_reducible refine row_map (by first | assumption | omega) ?_); conv => whnf) | ((with_reducible refine row_set (by first | assumption | omega | (simp only [List.length_set]; omega) | (simp; omega)) ?_); conv => whnf) | fail)
        · exact fini (by rw [← h2, mostV, if_pos h])
        · exact meas_next m (by omega) (by rw [show IntKind.i64.wrap (((m + 1 : Nat) : Int) - 1) = (m : Int) by rw [wrap_in (by omega) (by omega)]; omega]; rfl) ⟨by omega, by rw [← h2, mostV, if_neg (by rw [h]; decide)]⟩
    · have : n = 0 := by omega
      subst this
      exact fini (by rw [← h2]; rfl)
def twoE (d : List Du) (l : List Ly) (k : ByteArray) (outer : Int) : Int := if oneE d l k ≠ 0 then oneE d l k else if outer < 1 ∨ 1000 < outer then 1 else 0
theorem twoE_ok {d : List Du} {l : List Ly} {k : ByteArray} {outer : Int} (h : twoE d l k outer = 0) : oneE d l k = 0 ∧ 0 ≤ outer ∧ outer ≤ 1000 ∧ duV d l k = duG d k := by
  unfold twoE at h
  split at h
  · exact absurd h (by assumption)
  · split at h
    · omega
    · have h1 : oneE d l k = 0 := by omega
      exact ⟨h1, by omega, by omega, by rw [duV, if_pos h1]⟩
theorem twoE_first (d : List Du) (l : List Ly) (k : ByteArray) (outer : Int) : firstErr [oneE d l k, if outer < 1 ∨ 1000 < outer then 1 else 0] = twoE d l k outer := by
  unfold twoE firstErr firstErr firstErr
  repeat' split
  all_goals omega
def mostX (d : List Du) (l : List Ly) (k : ByteArray) (outer : Int) : Nat := if twoE d l k outer = 0 then mostV (duG d k).inner (outV l k) outer (20 - (outV l k).length) else 0
set_option maxRecDepth 100000 in
set_option maxHeartbeats 4000000 in
theorem dMostX_pc (d : List Du) (l : List Ly) (hx : ∀ x ∈ l, x.ducts.length ≤ 1000000) (k : ByteArray) (outer : Int) : PCp 61 [.c (.lst 5 (d.map encDu)), .c (.lst 3 (l.map encLy)), .c (.str k), .c (.int .i64 outer)] [] (.tup [.c (.int .i64 (mostX d l k outer : Nat)), .c (.int .i64 (twoE d l k outer))]) [] := by
  refine fn_sound (mt := mts) tab_fits tab_mixed Tryz.func61 (by rfl) (by kernel_rfl) (by kernel_rfl) Tryz.results61 (Nat.le_of_ble_eq_true (by kernel_rfl)) ?_
  conv => whnf
  repeat' (first | ((first | refine Split.mk (fun h => ?_) (fun h => ?_) | refine CondG.mk (fun h => ?_) (fun h => ?_)) <;> (try simp only [decide_eq_true_eq, decide_eq_false_iff_not, Bool.not_eq_true', Bool.not_eq_false', beq_iff_eq, beq_eq_false_iff_ne, bne_iff_ne, bne_eq_false_iff_eq] at h) <;> (first | (exfalso; first | omega | exact h trivial) | (conv => whnf))) | (refine CallX.mk _ _ (by first | exact ductOf_pc d l hx k | exact dOuterFault_pc outer | exact first_pc [oneE d l k, if outer < 1 ∨ 1000 < outer then 1 else 0] (by simp)) ?_; conv => whnf) | (refine CallG.mk _ _ (by first | exact ductOf_pc d l hx k | exact dOuterFault_pc outer | exact first_pc [oneE d l k, if outer < 1 ∨ 1000 < outer then 1 else 0] (by simp)) ?_; conv => whnf) | (refine Ask.mk (by first | omega | (unfold roomOK; simp [cutRows]; done) | (unfold roomOK; simp [cutRows]; omega) | (simp [cutRows]; done) | (simp [cutRows]; omega)) ?_; conv => whnf) | (refine AppG.mk (by first | omega | (unfold roomOK; simp [cutRows]; done) | (unfold roomOK; simp [cutRows]; omega) | (simp [cutRows]; done) | (simp [cutRows]; omega)) ?_; conv => whnf) | (refine SliceG.fr ?_; conv => whnf) | (refine idx_at _ (by with_reducible rfl) (by first | assumption | omega) ?_; conv => whnf) | ((with_reducible refine row_map (by first | assumption | omega) ?_); conv => whnf) | ((with_reducible refine row_set (by first | assumption | omega | (simp only [List.length_set]; omega) | (simp; omega)) ?_); conv => whnf) | fail)
  all_goals rw [twoE_first] at *
  · exact .mk ⟨by rw [mostX, if_neg h]; rfl, rfl⟩
  have h : twoE d l k outer = 0 := by simpa using h
  obtain ⟨h1, h2, h3, h4⟩ := twoE_ok h
  obtain ⟨hok, hk, hf⟩ := oneE_ok h1
  obtain ⟨hm, _⟩ := duG_in hok.du hk
  have hi := hok.du.each _ hm
  have hll := hok.len
  rw [h4]
  repeat' (first | ((first | refine Split.mk (fun h => ?_) (fun h => ?_) | refine CondG.mk (fun h => ?_) (fun h => ?_)) <;> (try simp only [decide_eq_true_eq, decide_eq_false_iff_not, Bool.not_eq_true', Bool.not_eq_false', beq_iff_eq, beq_eq_false_iff_ne, bne_iff_ne, bne_eq_false_iff_eq] at h) <;> (first | (exfalso; first | omega | exact h trivial) | (conv => whnf))) | (refine CallX.mk _ _ (by first | exact dOuters_pc l (by omega) hok.rl k | exact dMost_pc (duG d k) (outV l k) outer (by omega) (hok.out20 hk) (hok.o1000 k) ⟨h2, h3⟩) ?_; conv => whnf) | (refine CallG.mk _ _ (by first | exact dOuters_pc l (by omega) hok.rl k | exact dMost_pc (duG d k) (outV l k) outer (by omega) (hok.out20 hk) (hok.o1000 k) ⟨h2, h3⟩) ?_; conv => whnf) | (refine Ask.mk (by first | omega | (unfold roomOK; simp [cutRows]; done) | (unfold roomOK; simp [cutRows]; omega) | (simp [cutRows]; done) | (simp [cutRows]; omega)) ?_; conv => whnf) | (refine AppG.mk (by first | omega | (unfold roomOK; simp [cutRows]; done) | (unfold roomOK; simp [cutRows]; omega) | (simp [cutRows]; done) | (simp [cutRows]; omega)) ?_; conv => whnf) | (refine SliceG.fr ?_; conv => whnf) | (refine idx_at _ (by with_reducible rfl) (by first | assumption | omega) ?_; conv => whnf) | ((with_reducible refine row_map (by first | assumption | omega) ?_); conv => whnf) | ((with_reducible refine row_set (by first | assumption | omega | (simp only [List.length_set]; omega) | (simp; omega)) ?_); conv => whnf) | fail)
  exact .mk ⟨by rw [mostX, if_pos h, h]; rfl, rfl⟩
end Go.Proofs.YtobcplhaabaemaaGreat

/- Go's sort of strings, by the kit's contract of it, as a contract of the abstract walk. -/
namespace Go.Proofs.YtobcplhaabaemaaGreat
set_option linter.unusedVariables false
set_option linter.unusedSimpArgs false
open Go.Shelf Go.Sort Go.RowKit
namespace Abs
theorem bytesLess_dec : ∀ (x y : List UInt8), Op.bytesLess x y = decide (x < y)
  | [], [] => by simp [Op.bytesLess]
  | _ :: _, [] => by simp [Op.bytesLess]
  | [], _ :: _ => by simp [Op.bytesLess]
  | a :: x, b :: y => by
    rw [Op.bytesLess, bytesLess_dec x y]
    simp only [List.cons_lt_cons_iff]
    by_cases h1 : a < b <;> by_cases h2 : a = b <;> by_cases h3 : x < y <;> simp [h1, h2, h3]
theorem le_ltL {x y : List UInt8} : decide (x ≤ y) = !Op.bytesLess y x := by
  rw [bytesLess_dec, Bool.eq_iff_iff]
  simp only [decide_eq_true_eq, Bool.not_eq_true', decide_eq_false_iff_not]
  exact Iff.rfl
def unS (x : List UInt8) : ByteArray := ⟨x.toArray⟩
theorem unS_list (x : List UInt8) : (unS x).toList = x := by rw [ByteArray.toList_eq]; rfl
theorem unS_data (b : ByteArray) : unS b.data.toList = b := by cases b; rfl
theorem mergeS_eq (l : List ByteArray) : (((l.map fun b => b.data.toList).mergeSort fun x y => decide (x ≤ y)).map unS) = insSort cmpS l := by
  have hp : (((l.map fun b => b.data.toList).mergeSort fun x y => decide (x ≤ y)).map unS).Perm l := by
    have h1 := (List.mergeSort_perm (l.map fun b => b.data.toList) (fun x y => decide (x ≤ y))).map unS
    rw [List.map_map] at h1
    have h2 : l.map (unS ∘ fun b => b.data.toList) = l := by
      conv => rhs; rw [← List.map_id l]
      apply List.map_congr_left
      intro x _
      exact unS_data x
    rwa [h2] at h1
  have hs := List.pairwise_mergeSort (le := fun x y : List UInt8 => decide (x ≤ y)) (by
    intro a b c h1 h2
    rw [le_ltL] at *
    simp only [Bool.not_eq_true'] at *
    rcases ltL_tri c a with h3 | h3 | h3
    · rcases ltL_tri b c with h4 | h4 | h4
      · rw [ltL_trans h4 h3] at h1; cases h1
      · subst h4; rw [h3] at h1; cases h1
      · rw [h4] at h2; cases h2
    · subst h3; exact ltL_irr _
    · cases h5 : Op.bytesLess c a with
      | false => rfl
      | true => have := ltL_trans h3 h5; rw [ltL_irr] at this; cases this) (by
    intro a b
    rw [le_ltL, le_ltL]
    rcases ltL_tri a b with h3 | h3 | h3
    · cases h5 : Op.bytesLess b a with
      | false => rfl
      | true => have := ltL_trans h3 h5; rw [ltL_irr] at this; cases this
    · subst h3; rw [ltL_irr]; rfl
    · cases h5 : Op.bytesLess a b with
      | false => simp
      | true => have := ltL_trans h3 h5; rw [ltL_irr] at this; cases this) (l.map fun b => b.data.toList)
  refine sorted_one (c := cmpS) (swo_key id) ?_ (hp.trans (insSort_perm cmpS l).symm) ?_ (insSort_srt (swo_key id) l)
  · intro x y h1 h2
    rw [cmp_lt] at h1 h2
    rcases ltB_tri x y with h | h | h
    · exact (h1 h).elim
    · exact h
    · exact (h2 h).elim
  · rw [List.pairwise_map]
    refine hs.imp ?_
    intro x y h
    rw [le_ltL] at h
    rw [cmp_lt]
    unfold ltB
    rw [unS_list, unS_list]
    simpa using h
variable {P : Program} {ρ : Ren}
theorem strs_flat (l : List ByteArray) : (l.map encS).flatten = l.map V.str := by
  induction l with
  | nil => rfl
  | cons a r ih => rw [List.map_cons, List.flatten_cons, ih]; rfl
theorem sortS_any (L : Lays.n190 P ρ) (hb : ∃ fn, P.funcs[ρ.f 190]? = some fn ∧ (fn.name == "runtime.NumGoroutine") = false ∧ fn.body.isNone = false) (e : Nat) (l : List ByteArray) (hl : l.length < 1000000000000) :
    PCs P (ρ.f 190) [.c (.row 0)] [.row e 1 (l.map encS)] (.tup []) [.row e 1 ((insSort cmpS l).map encS)] := by
  refine ⟨hb, fun F φ w cargs hargs hobj hφ => ?_⟩
  obtain ⟨c0, cs1, e1, r0, hargs⟩ := hargs.cons_inv
  have e3 := hargs.nil_inv
  subst e3
  have hφ0 : φ 0 = some c0 := by
    cases r0 with | c h => cases h with
      | tree h => cases h
      | row _ _ h => exact h
  have hca : cargs = #[c0] := Array.ext' e1
  subst hca
  have hob : nth [Ob.row e 1 (l.map encS)] 0 = some (.row e 1 (l.map encS)) := rfl
  have ho := hobj.objs 0 _ hob
  have zero : ∀ (p : Option Addr) (cap : Nat), l = [] → c0 = .slice p 0 cap → Calls P (ρ.f 190) #[c0] w fun ee w' => ∃ cc F' φ' r objs', (one (.tup []) [.row e 1 ((insSort cmpS l).map encS)]) r objs' ∧ ee = .returned cc ∧ RS F' φ' w' cc r ∧ Nx F φ w (nth [Ob.row e 1 (l.map encS)]) (fun l_1 => [Ob.row e 1 (l.map encS)].length ≤ l_1) (chOf 0 objs') F' φ' w' := by
    intro p cap h0 hc0
    subst h0 hc0
    refine (Any.slices_Sort_string_none L p cap w).mono ?_
    rintro ee w' ⟨rfl, rfl⟩
    exact ⟨.tuple #[], F, φ, .tup [], [.row e 1 []], ⟨rfl, rfl⟩, rfl, .tup _ _ rfl (fun j c x h => by simp at h), Nx.same hobj⟩
  rcases ho with ⟨cv, xs, h1, h2, ⟨⟨hxl, hown⟩, hroomy⟩, h4, h5⟩ | ⟨h0, p, h1⟩
  · rw [hφ0] at h1; cases h1
    rcases hown with ⟨hv, hn0⟩ | ⟨gb, cap, cur, hv, _, hh, hcap, hmx, hcs, htk⟩
    · exact zero none 0 (by simpa using hn0) hv
    · rcases Nat.eq_zero_or_pos l.length with hn | hn
      · exact zero (some ⟨gb, 0, none⟩) cap (List.length_eq_zero_iff.1 hn) (by rw [hv]; simp [hn])
      · subst hv
        simp only [List.length_map, Nat.mul_one] at *
        have hFb : ¬ F gb := h2 gb (by cases cap with | zero => omega | succ => rfl)
        have hxs : xs = l.map fun b => Value.string b := by
          rw [strs_flat] at h4
          apply List.ext_getElem?
          intro j
          by_cases hj : j < l.length
          · have q1 : xs[j]? = some xs[j] := List.getElem?_eq_getElem (by rw [hxl]; exact hj)
            have q2 : (l.map V.str)[j]? = some (.str l[j]) := by simp [hj]
            have q3 := h4.2 j _ _ q1 q2
            rw [q1]
            have q4 : xs[j] = Value.string l[j] := by
              generalize xs[j] = z at q3
              cases q3; rfl
            rw [q4]; simp [hj]
          · rw [List.getElem?_eq_none (by omega), List.getElem?_eq_none (by simp; omega)]
        have hcell : ∀ j (hj : j < l.length), cur[j]? = some (Value.string l[j]) := by
          intro j hj
          have q1 : (cur.toList.take l.length)[j]? = xs[j]? := by rw [htk]
          rw [List.getElem?_take, if_pos hj, Array.getElem?_toList] at q1
          rw [q1, hxs]; simp [hj]
        let ss : List (List UInt8) := l.map fun b => b.data.toList
        have hss : ss.length = l.length := by simp [ss]
        have hH : Holds encStr w gb 0 ss.toArray := by
          intro j hj
          have hj' : j < l.length := by simpa [ss] using hj
          have hg : (ss.toArray)[j]! = l[j].data.toList := by
            rw [getElem!_pos _ j hj]; simp [ss]
          refine ⟨?_, ?_⟩
          · rw [hg]
            simp only [World.cell?, hh, Nat.zero_add, Option.isSome_none, Bool.false_eq_true, if_false, hcell j hj', encStr]
          · simp [World.frozen?, hh]
        have hblk : gb < w.heap.size := lt_heap hh
        have hS := Any.slices_Sort_string L gb 0 cap ss w hH hblk (by rw [hss]; omega)
        rw [hss] at hS
        refine hS.mono ?_
        rintro ee w' ⟨rfl, m, os, rfl⟩
        have hS2 := mergeS_eq l
        generalize hM : (ss.mergeSort fun x y => decide (x ≤ y)) = M at *
        have hM' : M.map unS = insSort cmpS l := by rw [← hS2]
        have hMl : M.length = l.length := by rw [← hM, List.length_mergeSort, hss]
        have hheap : ∀ b, b < w.heap.size → (grow (putRow encStr (Sort.ahead w m) gb 0 M.toArray) os).heap[b]? = if b = gb then some (.cells (putCells encStr 0 M.toArray cur) e (0, 0)) else w.heap[b]? := by
          intro b hb
          unfold grow putRow mapBlock Sort.ahead
          simp only
          rw [Array.getElem?_append_left (by simpa using hb), Array.getElem?_modify]
          by_cases e4 : gb = b
          · subst e4; rw [if_pos rfl, if_pos rfl, hh]; rfl
          · rw [if_neg e4, if_neg (fun h => e4 h.symm)]
        have hsize : w.heap.size ≤ (grow (putRow encStr (Sort.ahead w m) gb 0 M.toArray) os).heap.size := by
          unfold grow putRow mapBlock Sort.ahead
          simp
        have hil := insSort_len cmpS l
        have hro : RO F φ (grow (putRow encStr (Sort.ahead w m) gb 0 M.toArray) os) 0 (.row e 1 ((insSort cmpS l).map encS)) := by
          refine RO.mkrow (xs := (insSort cmpS l).map Value.string) hφ0 h2 ⟨?_, .inr ⟨gb, cap, putCells encStr 0 M.toArray cur, ?_, Nat.zero_le _, ?_, ?_, hmx, ?_, ?_⟩⟩ ?_ ?_
          · simp
          · simp [hil]
          · rw [hheap gb hblk, if_pos rfl]
          · simpa [hil] using hcap
          · simp [putCells, hcs]
          · apply List.ext_getElem?
            intro j
            rw [List.getElem?_take]
            by_cases hj : j < l.length
            · have hjc : j < cur.size := by rw [hcs]; omega
              rw [if_pos (by simpa [hil] using hj)]
              have hMj : j < M.length := by omega
              have hIj : j < (insSort cmpS l).length := by omega
              have q1 : (insSort cmpS l)[j] = unS M[j] := by simp [← hM']
              simp only [putCells, Array.getElem?_toList, Array.getElem?_mapIdx, Array.getElem?_eq_getElem hjc, Option.map_some, Nat.zero_le, true_and, Nat.zero_add, Nat.sub_zero, List.getElem?_map, List.getElem?_eq_getElem hIj]
              rw [if_pos (by simpa using hMj), q1, getElem!_pos _ _ (by simpa using hMj)]
              simp [encStr, unS]
            · rw [if_neg (by simpa [hil] using hj), List.getElem?_eq_none (by simp [hil]; omega)]
          · rw [strs_flat]
            refine ⟨by simp, fun j x y hx hy => ?_⟩
            rw [List.getElem?_map] at hx hy
            cases hz : (insSort cmpS l)[j]? with
            | none => rw [hz] at hx; cases hx
            | some z => rw [hz] at hx hy; cases hx; cases hy; exact .str z
          · intro r hr; obtain ⟨x, _, rfl⟩ := List.mem_map.1 hr; rfl
        have hone1 : ∀ l2 o, chGet (chOf 0 [Ob.row e 1 ((insSort cmpS l).map encS)]) l2 = some o → l2 = 0 ∧ o = .row e 1 ((insSort cmpS l).map encS) := by
          intro l2 o h
          rw [chGet_chOf] at h
          simp only [Nat.zero_le, if_true, Nat.sub_zero] at h
          cases l2 with
          | zero => simp only [List.getElem?_cons_zero, Option.some.injEq] at h; exact ⟨rfl, h.symm⟩
          | succ n => simp at h
        have hblk0 : blkOf φ 0 = some gb := by
          unfold blkOf; rw [hφ0]; cases cap with | zero => omega | succ => rfl
        refine ⟨.tuple #[], F, φ, .tup [], [.row e 1 ((insSort cmpS l).map encS)], ⟨rfl, rfl⟩, rfl, .tup _ _ rfl (fun j c x h => by simp at h), ?_⟩
        refine ⟨fun _ h => h, fun _ _ h => h, fun _ _ h => .inl h, rfl, rfl, rfl, fun _ => Nat.le_add_right _ _, hsize, ?_, fun b h => .inl h, ?_, ?_, ?_⟩
        · intro b hb hne
          rw [hheap b hb] at hne
          by_cases e4 : b = gb
          · subst e4; exact ⟨0, _, hob, rfl, hblk0, rfl⟩
          · rw [if_neg e4] at hne; exact (hne rfl).elim
        · intro l2 o h
          obtain ⟨rfl, rfl⟩ := hone1 l2 o h
          exact hro
        · intro l2 o b h h6 h7
          obtain ⟨rfl, rfl⟩ := hone1 l2 o h
          exact .inr ⟨0, _, hob, rfl, h7, rfl⟩
        · intro l2 l3 o o' b h h6 _ _ _ _
          rw [(hone1 l2 o h).1, (hone1 l3 o' h6).1]
  · exact zero _ 0 (by simpa using h0) (by rw [hφ0] at h1; cases h1; rfl)
end Abs
theorem sortG_pc (l : List ByteArray) (hl : l.length < 1000000000000) : PCp 177 [.c (.row 0)] [.row 9 1 (l.map encS)] (.tup []) [.row 9 1 ((insSort cmpS l).map encS)] :=
  Abs.sortS_any laySortS ⟨_, Tryz.func177, by kernel_rfl, by kernel_rfl⟩ _ l hl
end Go.Proofs.YtobcplhaabaemaaGreat

/- Services: what is computed, as functions on lists. -/
namespace Go.Proofs.YtobcplhaabaemaaGreat
set_option linter.unusedVariables false
set_option linter.unusedSimpArgs false
open Abs

structure Sv where
  key : ByteArray
  els : List ByteArray
  cust : Int
def encSv (x : Sv) : List V := [.str x.key, .lst 1 (x.els.map encS), .int .i64 x.cust]
def elErr (first : Bool) (before k : ByteArray) : Int := if !keyB k then 5 else if !first && leB k before then 7 else 0
def elsErr (l : List ByteArray) : Int := seqErr elErr id true ⟨#[]⟩ l
def elsFault (l : List ByteArray) : Int := if 100 < l.length then 2 else elsErr l
def svErr (first : Bool) (before : ByteArray) (x : Sv) : Int :=
  if !keyB x.key then 5 else if !first && leB x.key before then 7 else if x.els.length = 0 then 8 else if elsFault x.els ≠ 0 then elsFault x.els else if x.cust < 1 ∨ 100000 < x.cust then 1 else 0
def svFault (l : List Sv) : Int := if 500 < l.length then 2 else seqErr svErr Sv.key true ⟨#[]⟩ l
def svAt (s : List Sv) (k : ByteArray) : Option Sv := s.find? fun x => decide (x.key = k)
def sv0 : Sv := ⟨⟨#[]⟩, [], 0⟩
def svG (s : List Sv) (k : ByteArray) : Sv := (svAt s k).getD sv0
def hasSv (s : List Sv) (k : ByteArray) : Bool := (svAt s k).isSome
def stErr (s : List Sv) (l : List ByteArray) : Int := if 500 < l.length then 2 else seqErr (keyErr (hasSv s)) id true ⟨#[]⟩ l
def seenErr (s : List Sv) (down up : List ByteArray) : Int :=
  if svFault s ≠ 0 then svFault s else if stErr s down ≠ 0 then stErr s down else if stErr s up ≠ 0 then stErr s up else if down.any (fun k => decide (k ∈ up)) then 13 else 0
structure SvX (x : Sv) : Prop where
  key : keyB x.key = true
  rise : Rise id x.els
  pos : 1 ≤ x.els.length
  len : x.els.length ≤ 100
  cust : 1 ≤ x.cust ∧ x.cust ≤ 100000
  els : ∀ k ∈ x.els, keyB k = true
structure SvOk (s : List Sv) : Prop where
  rise : Rise Sv.key s
  len : s.length ≤ 500
  each : ∀ x ∈ s, SvX x
theorem elErr_ok {f : Bool} {b k : ByteArray} (h : elErr f b k = 0) : keyB k = true ∧ (f = false → ltB b k = true) := by
  unfold elErr at h
  split at h
  · omega
  · split at h
    · omega
    · rename_i h1 h2
      refine ⟨by simpa using h1, fun hf => ?_⟩
      subst hf
      simp at h2
      exact leB_not.1 h2
theorem elsErr_ok {l : List ByteArray} (h : elsErr l = 0) : Rise id l ∧ ∀ k ∈ l, keyB k = true := by
  refine ⟨seqErr_rise (fun b k hk => (elErr_ok hk).2 rfl) h, fun k hk => ?_⟩
  obtain ⟨f, b, h1⟩ := seqErr_all h k hk
  exact (elErr_ok h1).1
theorem elsFault_ok {l : List ByteArray} (h : elsFault l = 0) : Rise id l ∧ l.length ≤ 100 ∧ ∀ k ∈ l, keyB k = true := by
  unfold elsFault at h
  split at h
  · omega
  · exact ⟨(elsErr_ok h).1, by omega, (elsErr_ok h).2⟩
theorem svErr_ok {f : Bool} {b : ByteArray} {x : Sv} (h : svErr f b x = 0) : SvX x ∧ (f = false → ltB b x.key = true) := by
  unfold svErr at h
  split at h
  · omega
  · split at h
    · omega
    · split at h
      · omega
      · split at h
        · omega
        · split at h
          · omega
          · rename_i h1 h2 h3 h4 h5
            obtain ⟨e1, e2, e3⟩ := elsFault_ok (show elsFault x.els = 0 by omega)
            refine ⟨⟨by simpa using h1, e1, by omega, e2, by omega, e3⟩, fun hf => ?_⟩
            subst hf
            simp at h2
            exact leB_not.1 h2
theorem svFault_ok {s : List Sv} (h : svFault s = 0) : SvOk s := by
  unfold svFault at h
  split at h
  · omega
  · refine ⟨seqErr_rise (fun b x hx => (svErr_ok hx).2 rfl) h, by omega, fun x hx => ?_⟩
    obtain ⟨f, b, h1⟩ := seqErr_all h x hx
    exact (svErr_ok h1).1
theorem hasSv_iff {s : List Sv} {k : ByteArray} : hasSv s k = true ↔ ∃ x ∈ s, x.key = k := by
  unfold hasSv svAt
  rw [List.find?_isSome]; simp
theorem svAt_mem {s : List Sv} (h : Rise Sv.key s) {x : Sv} (hx : x ∈ s) : svAt s x.key = some x := rise_find h hx
theorem svG_mem {s : List Sv} (h : Rise Sv.key s) {x : Sv} (hx : x ∈ s) : svG s x.key = x := by unfold svG; rw [svAt_mem h hx]; rfl
structure StOkL (s : List Sv) (l : List ByteArray) : Prop where
  len : l.length ≤ 500
  rise : Rise id l
  has : ∀ k ∈ l, hasSv s k = true
theorem stErr_ok {s : List Sv} {l : List ByteArray} (h : stErr s l = 0) : StOkL s l := by
  unfold stErr at h
  split at h
  · omega
  · refine ⟨by omega, seqErr_rise (fun b k hk => (keyErr_ok hk).2 rfl) h, fun k hk => ?_⟩
    obtain ⟨f, b, h1⟩ := seqErr_all h k hk
    exact (keyErr_ok h1).1
/-! what broken elements affect -/
end Go.Proofs.YtobcplhaabaemaaGreat

/- Lists of strings: searched, cut, sorted; what is cut out of a row that is written. -/
namespace Go.Proofs.YtobcplhaabaemaaGreat
set_option linter.unusedVariables false
set_option linter.unusedSimpArgs false
open Abs

theorem hitG_eq {l : List ByteArray} (h : Rise id l) (t : ByteArray) : hitS t l = decide (t ∈ l) := by
  have hc : ∀ x : ByteArray, ((if ltB x t then (-1 : Int) else if x.toList = t.toList then 0 else 1) < 0 ↔ ltB (id x) t = true) ∧ ((if ltB x t then (-1 : Int) else if x.toList = t.toList then 0 else 1) = 0 ↔ id x = t) := by
    intro x
    by_cases h1 : ltB x t = true
    · simp [h1, ltB_ne h1]
    · by_cases h2 : x = t
      · subst h2; simp [h1]
      · simp [h1, h2, toList_eq']
  have hf := find_rise hc h
  unfold hitS
  generalize hh : hitL (fun x => if ltB x t then (-1 : Int) else if x.toList = t.toList then 0 else 1) l = b at *
  rw [Bool.eq_iff_iff, decide_eq_true_eq]
  cases b with
  | false =>
    constructor
    · intro e; cases e
    · intro ht
      have h1 : (l.find? fun x => decide (id x = t)).isSome := by rw [List.find?_isSome]; exact ⟨t, ht, by simp⟩
      rw [hf] at h1; simp at h1
  | true =>
    refine ⟨fun _ => ?_, fun _ => rfl⟩
    unfold hitL at hh
    split at hh
    · rename_i x hx
      rw [if_pos rfl, hx] at hf
      have h1 := List.find?_some hf
      have h2 := List.mem_of_find?_eq_some hf
      have : x = t := by simpa using h1
      rwa [this] at h2
    · cases hh
theorem binG_pc {l : List ByteArray} (h : Rise id l) (hl : l.length ≤ 1000000) (t : ByteArray) : PCp 174 [.c (.lst 1 (l.map encS)), .c (.str t)] [] (.tup [.c (.int .i64 ((cntS t l : Nat) : Int)), .c (.bool (decide (t ∈ l)))]) [] := by
  rw [← hitG_eq h]
  refine binS_pc t l hl ?_
  intro i j hj hij hlt
  rcases Nat.lt_or_ge i j with h1 | h1
  · exact ltB_trans (h.at h1 hj) hlt
  · have : i = j := by omega
    subst this; exact hlt
end Go.Proofs.YtobcplhaabaemaaGreat
