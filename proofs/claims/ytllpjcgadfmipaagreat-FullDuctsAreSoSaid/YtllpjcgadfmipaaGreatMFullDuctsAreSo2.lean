/- Parts of the proof, in order. -/
import Derived.Test.YtllpjcgadfmipaaGreatMFullDuctsAreSo1

/- A store with one drum, by the abstract walk. -/
namespace Go.Proofs.YtllpjcgadfmipaaGreat
set_option linter.unusedVariables false
set_option linter.unusedSimpArgs false
open Abs

/-- a first drum comes -/
abbrev stBox : Ob := .box [.mp 1, .mp 2]
set_option maxRecDepth 100000 in
set_option maxHeartbeats 4000000 in
theorem take1_pc (x : Ac) (hk : x.kd = 1) : PCp 127 [.c (.ptr 0 0), .agg (encAc x)] [stBox, .map 0 [], .map 0 []] (.tup [.c (.str x.ty), .c (.int .i64 0)]) [stBox, .map 1 [(0, .c (.str x.drum), .agg [.str x.ty, .int .i64 x.long])], .map 1 [(0, .c (.str x.drum), .c (.str x.ty))]] := by
  refine fn_sound (mt := mts) tab_fits tab_mixed Tryz.func127 (by rfl) (by kernel_rfl) (by kernel_rfl) Tryz.results127 (Nat.le_of_ble_eq_true (by kernel_rfl)) ?_
  conv => whnf
  repeat (refine .mk _ _ (.inr ⟨rfl, rfl, rfl⟩) ?_; conv => whnf)
  repeat' (first | (refine Split.mk (fun h => ?_) (fun h => ?_) <;> (try simp only [decide_eq_true_eq, decide_eq_false_iff_not, Bool.not_eq_true', Bool.not_eq_false', beq_iff_eq, beq_eq_false_iff_ne] at h) <;> (first | (exfalso; first | omega | exact h trivial) | (conv => whnf))) | (refine CondG.mk (fun h => ?_) (fun h => ?_) <;> (try simp only [decide_eq_true_eq, decide_eq_false_iff_not, Bool.not_eq_true', Bool.not_eq_false', beq_iff_eq, beq_eq_false_iff_ne] at h) <;> (first | (exfalso; first | omega | exact h trivial) | (conv => whnf))) | (refine Ask.mk (by first | omega | (unfold roomOK; simp [cutRows]; done) | (unfold roomOK; simp [cutRows]; omega)) ?_; conv => whnf) | (refine AppG.mk (by first | omega | (unfold roomOK; simp [cutRows]; done) | (unfold roomOK; simp [cutRows]; omega)) ?_; conv => whnf) | (refine SliceG.fr ?_; conv => whnf) | fail)
  · cases h
  refine .mk _ _ _ _ (.inr ⟨rfl, rfl, rfl, rfl, rfl⟩) ?_
  conv => whnf
  refine .mk 0 0 _ _ ⟨rfl, rfl, by intro i hi; omega⟩ ?_
  conv => whnf
  refine .mk _ _ _ _ (.inr ⟨rfl, rfl, rfl, rfl, rfl⟩) ?_
  conv => whnf
  refine .mk 0 0 _ _ ⟨rfl, rfl, by intro i hi; omega⟩ ?_
  conv => whnf
  exact .mk ⟨rfl, rfl⟩
/-- a store with one drum -/
abbrev stOne (x : Ac) : List Ob := [stBox, .map 1 [(0, .c (.str x.drum), .agg [.str x.ty, .int .i64 x.long])], .map 1 [(0, .c (.str x.drum), .c (.str x.ty))]]
set_option maxRecDepth 100000 in
set_option maxHeartbeats 4000000 in
theorem at1_pc (x : Ac) (a b : Int) (s : ByteArray) : PCp 129 [.c (.ptr 0 0), .c (.int .i64 a), .c (.str s), .c (.int .i64 b)] (stOne x) (.tup []) (stOne x) := by
  refine fn_sound (mt := mts) tab_fits tab_mixed Tryz.func129 (by rfl) (by kernel_rfl) (by kernel_rfl) Tryz.results129 (Nat.le_of_ble_eq_true (by kernel_rfl)) ?_
  conv => whnf
  exact .mk ⟨rfl, rfl⟩
set_option maxRecDepth 100000 in
set_option maxHeartbeats 4000000 in
theorem follow1_pc (x : Ac) (hk : x.kd = 1) : PCp 72 [.c (.lst 6 [encAc x]), .c (.fn 129 [])] [] (.c (.ptr 0 0)) (stOne x) := by
  refine fn_sound (mt := mts) tab_fits tab_mixed Tryz.func72 (by rfl) (by kernel_rfl) (by kernel_rfl) Tryz.results72 (Nat.le_of_ble_eq_true (by kernel_rfl)) ?_
  conv => whnf
  refine .un 2 ?_
  conv => whnf
  repeat' (first | (refine Split.mk (fun h => ?_) (fun h => ?_) <;> (try simp only [decide_eq_true_eq, decide_eq_false_iff_not, Bool.not_eq_true', Bool.not_eq_false', beq_iff_eq, beq_eq_false_iff_ne] at h) <;> (first | (exfalso; first | omega | exact h trivial) | (conv => whnf))) | (refine CondG.mk (fun h => ?_) (fun h => ?_) <;> (try simp only [decide_eq_true_eq, decide_eq_false_iff_not, Bool.not_eq_true', Bool.not_eq_false', beq_iff_eq, beq_eq_false_iff_ne] at h) <;> (first | (exfalso; first | omega | exact h trivial) | (conv => whnf))) | (refine Ask.mk (by first | omega | (unfold roomOK; simp [cutRows]; done) | (unfold roomOK; simp [cutRows]; omega)) ?_; conv => whnf) | (refine AppG.mk (by first | omega | (unfold roomOK; simp [cutRows]; done) | (unfold roomOK; simp [cutRows]; omega)) ?_; conv => whnf) | (refine SliceG.fr ?_; conv => whnf) | fail)
  rotate_left
  · exact absurd h (by simp)
  refine .mk (encAc x) ⟨by simp, rfl⟩ ?_
  conv => whnf
  repeat' (first | (refine Split.mk (fun h => ?_) (fun h => ?_) <;> (try simp only [decide_eq_true_eq, decide_eq_false_iff_not, Bool.not_eq_true', Bool.not_eq_false', beq_iff_eq, beq_eq_false_iff_ne] at h) <;> (first | (exfalso; first | omega | exact h trivial) | (conv => whnf))) | (refine CondG.mk (fun h => ?_) (fun h => ?_) <;> (try simp only [decide_eq_true_eq, decide_eq_false_iff_not, Bool.not_eq_true', Bool.not_eq_false', beq_iff_eq, beq_eq_false_iff_ne] at h) <;> (first | (exfalso; first | omega | exact h trivial) | (conv => whnf))) | (refine CallX.mk _ _ (by first | exact take1_pc x hk | exact at1_pc x _ _ _) ?_; conv => whnf) | (refine CallG.mk _ _ (by first | exact take1_pc x hk | exact at1_pc x _ _ _) ?_; conv => whnf) | (refine Ask.mk (by first | omega | (unfold roomOK; simp [cutRows]; done) | (unfold roomOK; simp [cutRows]; omega)) ?_; conv => whnf) | (refine AppG.mk (by first | omega | (unfold roomOK; simp [cutRows]; done) | (unfold roomOK; simp [cutRows]; omega)) ?_; conv => whnf) | (refine SliceG.fr ?_; conv => whnf) | fail)
  · exact absurd h (by show ¬ ((1 : Int) < 1); decide)
  · exact .mk ⟨rfl, rfl⟩
set_option maxRecDepth 100000 in
set_option maxHeartbeats 4000000 in
theorem at_pc (x : Ac) (hk : x.kd = 1) (hx : actErr x = 0) (m : Int) (hm : x.mo ≤ m) (hmm : momB m = true) : PCp 75 [.c (.lst 6 [encAc x]), .c (.int .i64 m)] [] (.tup [.c (.ptr 0 0), .c (.int .i64 0)]) (stOne x) := by
  have hc : actsFault [x] = 0 := by simp [actsFault, actsErr, hx, badPrev]
  refine fn_sound (mt := mts) tab_fits tab_mixed Tryz.func75 (by rfl) (by kernel_rfl) (by kernel_rfl) Tryz.results75 (Nat.le_of_ble_eq_true (by kernel_rfl)) ?_
  conv => whnf
  repeat' (first | (refine Split.mk (fun h => ?_) (fun h => ?_) <;> (try simp only [decide_eq_true_eq, decide_eq_false_iff_not, Bool.not_eq_true', Bool.not_eq_false', beq_iff_eq, beq_eq_false_iff_ne] at h) <;> (first | (exfalso; first | omega | exact h trivial) | (conv => whnf))) | (refine CondG.mk (fun h => ?_) (fun h => ?_) <;> (try simp only [decide_eq_true_eq, decide_eq_false_iff_not, Bool.not_eq_true', Bool.not_eq_false', beq_iff_eq, beq_eq_false_iff_ne] at h) <;> (first | (exfalso; first | omega | exact h trivial) | (conv => whnf))) | (refine CallX.mk _ _ (by first | exact checkActs_pc [x] | exact bMoment_pc _) ?_; conv => whnf) | (refine CallG.mk _ _ (by first | exact checkActs_pc [x] | exact bMoment_pc _) ?_; conv => whnf) | (refine Ask.mk (by first | omega | (unfold roomOK; simp [cutRows]; done) | (unfold roomOK; simp [cutRows]; omega)) ?_; conv => whnf) | (refine AppG.mk (by first | omega | (unfold roomOK; simp [cutRows]; done) | (unfold roomOK; simp [cutRows]; omega)) ?_; conv => whnf) | (refine SliceG.fr ?_; conv => whnf) | fail)
  · rw [hc] at h; cases h
  · rw [hmm] at h; cases h
  refine .un 1 ?_
  conv => whnf
  repeat' (first | (refine Split.mk (fun h => ?_) (fun h => ?_) <;> (try simp only [decide_eq_true_eq, decide_eq_false_iff_not, Bool.not_eq_true', Bool.not_eq_false', beq_iff_eq, beq_eq_false_iff_ne] at h) <;> (first | (exfalso; first | omega | exact h trivial) | (conv => whnf))) | (refine CondG.mk (fun h => ?_) (fun h => ?_) <;> (try simp only [decide_eq_true_eq, decide_eq_false_iff_not, Bool.not_eq_true', Bool.not_eq_false', beq_iff_eq, beq_eq_false_iff_ne] at h) <;> (first | (exfalso; first | omega | exact h trivial) | (conv => whnf))) | (refine Ask.mk (by first | omega | (unfold roomOK; simp [cutRows]; done) | (unfold roomOK; simp [cutRows]; omega)) ?_; conv => whnf) | (refine AppG.mk (by first | omega | (unfold roomOK; simp [cutRows]; done) | (unfold roomOK; simp [cutRows]; omega)) ?_; conv => whnf) | (refine SliceG.fr ?_; conv => whnf) | fail)
  · refine .mk (encAc x) ⟨by show (0 : Int) ≤ 0; decide, rfl⟩ ?_
    conv => whnf
    repeat' (first | (refine Split.mk (fun h => ?_) (fun h => ?_) <;> (try simp only [decide_eq_true_eq, decide_eq_false_iff_not, Bool.not_eq_true', Bool.not_eq_false', beq_iff_eq, beq_eq_false_iff_ne] at h) <;> (first | (exfalso; first | omega | exact h trivial) | (conv => whnf))) | (refine CondG.mk (fun h => ?_) (fun h => ?_) <;> (try simp only [decide_eq_true_eq, decide_eq_false_iff_not, Bool.not_eq_true', Bool.not_eq_false', beq_iff_eq, beq_eq_false_iff_ne] at h) <;> (first | (exfalso; first | omega | exact h trivial) | (conv => whnf))) | (refine CallX.mk _ _ (by first | exact follow1_pc x hk) ?_; conv => whnf) | (refine CallG.mk _ _ (by first | exact follow1_pc x hk) ?_; conv => whnf) | (refine Ask.mk (by first | omega | (unfold roomOK; simp [cutRows]; done) | (unfold roomOK; simp [cutRows]; omega)) ?_; conv => whnf) | (refine AppG.mk (by first | omega | (unfold roomOK; simp [cutRows]; done) | (unfold roomOK; simp [cutRows]; omega)) ?_; conv => whnf) | (refine SliceG.fr ?_; conv => whnf) | fail)
    exact .mk ⟨rfl, rfl⟩
  · exact absurd (by simp) h

end Go.Proofs.YtllpjcgadfmipaaGreat

/- A list of one drum is sorted. -/
namespace Go.Proofs.YtllpjcgadfmipaaGreat
set_option linter.unusedVariables false
set_option linter.unusedSimpArgs false
open Abs

set_option maxRecDepth 100000 in
set_option maxHeartbeats 4000000 in
theorem len64_pc : PCp 182 [.c (.int .u64 1)] [] (.c (.int .i64 1)) [] := by
  refine fn_sound (mt := mts) tab_fits tab_mixed Tryz.func182 (by rfl) (by kernel_rfl) (by kernel_rfl) Tryz.results182 (Nat.le_of_ble_eq_true (by kernel_rfl)) ?_
  conv => whnf
  repeat' (first | (refine Split.mk (fun h => ?_) (fun h => ?_) <;> (try simp only [decide_eq_true_eq, decide_eq_false_iff_not, Bool.not_eq_true', Bool.not_eq_false', beq_iff_eq, beq_eq_false_iff_ne] at h) <;> (first | (exfalso; first | omega | exact h trivial) | (conv => whnf))) | (refine CondG.mk (fun h => ?_) (fun h => ?_) <;> (try simp only [decide_eq_true_eq, decide_eq_false_iff_not, Bool.not_eq_true', Bool.not_eq_false', beq_iff_eq, beq_eq_false_iff_ne] at h) <;> (first | (exfalso; first | omega | exact h trivial) | (conv => whnf))) | (refine Ask.mk (by first | omega | (unfold roomOK; simp [cutRows]; done) | (unfold roomOK; simp [cutRows]; omega)) ?_; conv => whnf) | (refine AppG.mk (by first | omega | (unfold roomOK; simp [cutRows]; done) | (unfold roomOK; simp [cutRows]; omega)) ?_; conv => whnf) | (refine SliceG.fr ?_; conv => whnf) | fail)
  all_goals first | (exfalso; revert h; decide) | skip
  refine .mk (by decide +kernel) ?_
  conv => whnf
  exact fini (by decide +kernel)
set_option maxRecDepth 100000 in
set_option maxHeartbeats 4000000 in
theorem len_pc : PCp 131 [.c (.int .u64 1)] [] (.c (.int .i64 1)) [] := by
  refine fn_sound (mt := mts) tab_fits tab_mixed Tryz.func131 (by rfl) (by kernel_rfl) (by kernel_rfl) Tryz.results131 (Nat.le_of_ble_eq_true (by kernel_rfl)) ?_
  conv => whnf
  repeat' (first | (refine Split.mk (fun h => ?_) (fun h => ?_) <;> (try simp only [decide_eq_true_eq, decide_eq_false_iff_not, Bool.not_eq_true', Bool.not_eq_false', beq_iff_eq, beq_eq_false_iff_ne] at h) <;> (first | (exfalso; first | omega | exact h trivial) | (conv => whnf))) | (refine CondG.mk (fun h => ?_) (fun h => ?_) <;> (try simp only [decide_eq_true_eq, decide_eq_false_iff_not, Bool.not_eq_true', Bool.not_eq_false', beq_iff_eq, beq_eq_false_iff_ne] at h) <;> (first | (exfalso; first | omega | exact h trivial) | (conv => whnf))) | (refine CallX.mk _ _ (by first | exact len64_pc) ?_; conv => whnf) | (refine CallG.mk _ _ (by first | exact len64_pc) ?_; conv => whnf) | (refine Ask.mk (by first | omega | (unfold roomOK; simp [cutRows]; done) | (unfold roomOK; simp [cutRows]; omega)) ?_; conv => whnf) | (refine AppG.mk (by first | omega | (unfold roomOK; simp [cutRows]; done) | (unfold roomOK; simp [cutRows]; omega)) ?_; conv => whnf) | (refine SliceG.fr ?_; conv => whnf) | fail)
  exact fini rfl
set_option maxRecDepth 100000 in
set_option maxHeartbeats 4000000 in
theorem ins1_pc (r : List V) (g : Nat) : PCp 173 [.c (.row 0), .c (.int .i64 0), .c (.int .i64 1), .c (.fn g [])] [.row 65 3 [r]] (.tup []) [.row 65 3 [r]] := by
  refine fn_sound (mt := mts) tab_fits tab_mixed Tryz.func173 (by rfl) (by kernel_rfl) (by kernel_rfl) Tryz.results173 (Nat.le_of_ble_eq_true (by kernel_rfl)) ?_
  conv => whnf
  refine .un 1 ?_
  conv => whnf
  repeat' (first | (refine Split.mk (fun h => ?_) (fun h => ?_) <;> (try simp only [decide_eq_true_eq, decide_eq_false_iff_not, Bool.not_eq_true', Bool.not_eq_false', beq_iff_eq, beq_eq_false_iff_ne] at h) <;> (first | (exfalso; first | omega | exact h trivial) | (conv => whnf))) | (refine CondG.mk (fun h => ?_) (fun h => ?_) <;> (try simp only [decide_eq_true_eq, decide_eq_false_iff_not, Bool.not_eq_true', Bool.not_eq_false', beq_iff_eq, beq_eq_false_iff_ne] at h) <;> (first | (exfalso; first | omega | exact h trivial) | (conv => whnf))) | (refine Ask.mk (by first | omega | (unfold roomOK; simp [cutRows]; done) | (unfold roomOK; simp [cutRows]; omega)) ?_; conv => whnf) | (refine AppG.mk (by first | omega | (unfold roomOK; simp [cutRows]; done) | (unfold roomOK; simp [cutRows]; omega)) ?_; conv => whnf) | (refine SliceG.fr ?_; conv => whnf) | fail)
  all_goals first | exact .mk ⟨rfl, rfl⟩ | (exfalso; revert h; decide)
set_option maxRecDepth 100000 in
set_option maxHeartbeats 4000000 in
theorem pdq1_pc (r : List V) (g : Nat) : PCp 130 [.c (.row 0), .c (.int .i64 0), .c (.int .i64 1), .c (.int .i64 1), .c (.fn g [])] [.row 65 3 [r]] (.tup []) [.row 65 3 [r]] := by
  refine fn_sound (mt := mts) tab_fits tab_mixed Tryz.func130 (by rfl) (by kernel_rfl) (by kernel_rfl) Tryz.results130 (Nat.le_of_ble_eq_true (by kernel_rfl)) ?_
  conv => whnf
  refine .un 1 ?_
  conv => whnf
  repeat' (first | (refine Split.mk (fun h => ?_) (fun h => ?_) <;> (try simp only [decide_eq_true_eq, decide_eq_false_iff_not, Bool.not_eq_true', Bool.not_eq_false', beq_iff_eq, beq_eq_false_iff_ne] at h) <;> (first | (exfalso; first | omega | exact h trivial) | (conv => whnf))) | (refine CondG.mk (fun h => ?_) (fun h => ?_) <;> (try simp only [decide_eq_true_eq, decide_eq_false_iff_not, Bool.not_eq_true', Bool.not_eq_false', beq_iff_eq, beq_eq_false_iff_ne] at h) <;> (first | (exfalso; first | omega | exact h trivial) | (conv => whnf))) | (refine CallX.mk _ _ (by first | exact ins1_pc _ _) ?_; conv => whnf) | (refine CallG.mk _ _ (by first | exact ins1_pc _ _) ?_; conv => whnf) | (refine Ask.mk (by first | omega | (unfold roomOK; simp [cutRows]; done) | (unfold roomOK; simp [cutRows]; omega)) ?_; conv => whnf) | (refine AppG.mk (by first | omega | (unfold roomOK; simp [cutRows]; done) | (unfold roomOK; simp [cutRows]; omega)) ?_; conv => whnf) | (refine SliceG.fr ?_; conv => whnf) | fail)
  all_goals first | exact .mk ⟨rfl, rfl⟩ | (exfalso; revert h; decide) | (exfalso; rename_i h2; revert h2; decide)
set_option maxRecDepth 100000 in
set_option maxHeartbeats 4000000 in
theorem sort1_pc (r : List V) (g : Nat) : PCp 76 [.c (.row 0), .c (.fn g [])] [.row 65 3 [r]] (.tup []) [.row 65 3 [r]] := by
  refine fn_sound (mt := mts) tab_fits tab_mixed Tryz.func76 (by rfl) (by kernel_rfl) (by kernel_rfl) Tryz.results76 (Nat.le_of_ble_eq_true (by kernel_rfl)) ?_
  conv => whnf
  repeat' (first | (refine Split.mk (fun h => ?_) (fun h => ?_) <;> (try simp only [decide_eq_true_eq, decide_eq_false_iff_not, Bool.not_eq_true', Bool.not_eq_false', beq_iff_eq, beq_eq_false_iff_ne] at h) <;> (first | (exfalso; first | omega | exact h trivial) | (conv => whnf))) | (refine CondG.mk (fun h => ?_) (fun h => ?_) <;> (try simp only [decide_eq_true_eq, decide_eq_false_iff_not, Bool.not_eq_true', Bool.not_eq_false', beq_iff_eq, beq_eq_false_iff_ne] at h) <;> (first | (exfalso; first | omega | exact h trivial) | (conv => whnf))) | (refine CallX.mk _ _ (by first | exact len_pc | exact pdq1_pc _ _) ?_; conv => whnf) | (refine CallG.mk _ _ (by first | exact len_pc | exact pdq1_pc _ _) ?_; conv => whnf) | (refine Ask.mk (by first | omega | (unfold roomOK; simp [cutRows]; done) | (unfold roomOK; simp [cutRows]; omega)) ?_; conv => whnf) | (refine AppG.mk (by first | omega | (unfold roomOK; simp [cutRows]; done) | (unfold roomOK; simp [cutRows]; omega)) ?_; conv => whnf) | (refine SliceG.fr ?_; conv => whnf) | fail)
  exact .mk ⟨rfl, rfl⟩
set_option maxRecDepth 100000 in
set_option maxHeartbeats 4000000 in
theorem stock_pc (x : Ac) (hk : x.kd = 1) (hx : actErr x = 0) (m : Int) (hm : x.mo ≤ m) (hmm : momB m = true) : PCp 32 [.c (.lst 6 [encAc x]), .c (.int .i64 m)] [] (.tup [.c (.row 0), .c (.int .i64 0)]) [.row 65 3 [[.str x.drum, .str x.ty, .int .i64 x.long]]] := by
  refine fn_sound (mt := mts) tab_fits tab_mixed Tryz.func32 (by rfl) (by kernel_rfl) (by kernel_rfl) Tryz.results32 (Nat.le_of_ble_eq_true (by kernel_rfl)) ?_
  conv => whnf
  repeat' (first | (refine Split.mk (fun h => ?_) (fun h => ?_) <;> (try simp only [decide_eq_true_eq, decide_eq_false_iff_not, Bool.not_eq_true', Bool.not_eq_false', beq_iff_eq, beq_eq_false_iff_ne] at h) <;> (first | (exfalso; first | omega | exact h trivial) | (conv => whnf))) | (refine CondG.mk (fun h => ?_) (fun h => ?_) <;> (try simp only [decide_eq_true_eq, decide_eq_false_iff_not, Bool.not_eq_true', Bool.not_eq_false', beq_iff_eq, beq_eq_false_iff_ne] at h) <;> (first | (exfalso; first | omega | exact h trivial) | (conv => whnf))) | (refine CallX.mk _ _ (by first | exact at_pc x hk hx m hm hmm) ?_; conv => whnf) | (refine CallG.mk _ _ (by first | exact at_pc x hk hx m hm hmm) ?_; conv => whnf) | (refine Ask.mk (by first | omega | (unfold roomOK; simp [cutRows]; done) | (unfold roomOK; simp [cutRows]; omega)) ?_; conv => whnf) | (refine AppG.mk (by first | omega | (unfold roomOK; simp [cutRows]; done) | (unfold roomOK; simp [cutRows]; omega)) ?_; conv => whnf) | (refine SliceG.fr ?_; conv => whnf) | fail)
  · cases h
  refine .un 2 ?_
  conv => whnf
  refine .mk rfl ?_
  conv => whnf
  refine .mk (α := Nat × S × S) (fun e => e) [(0, .c (.str x.drum), .agg [.str x.ty, .int .i64 x.long])] rfl (by intro h; cases h) ?_
  intro e he
  simp only [List.mem_singleton] at he
  subst he
  conv => whnf
  repeat' (first | (refine Split.mk (fun h => ?_) (fun h => ?_) <;> (try simp only [decide_eq_true_eq, decide_eq_false_iff_not, Bool.not_eq_true', Bool.not_eq_false', beq_iff_eq, beq_eq_false_iff_ne] at h) <;> (first | (exfalso; first | omega | exact h trivial) | (conv => whnf))) | (refine CondG.mk (fun h => ?_) (fun h => ?_) <;> (try simp only [decide_eq_true_eq, decide_eq_false_iff_not, Bool.not_eq_true', Bool.not_eq_false', beq_iff_eq, beq_eq_false_iff_ne] at h) <;> (first | (exfalso; first | omega | exact h trivial) | (conv => whnf))) | (refine Ask.mk (by first | omega | (unfold roomOK; simp [cutRows]; done) | (unfold roomOK; simp [cutRows]; omega)) ?_; conv => whnf) | (refine AppG.mk (by first | omega | (unfold roomOK; simp [cutRows]; done) | (unfold roomOK; simp [cutRows]; omega)) ?_; conv => whnf) | (refine SliceG.fr ?_; conv => whnf) | fail)
  refine .mk _ _ rfl ?_
  conv => whnf
  repeat' (first | (refine Split.mk (fun h => ?_) (fun h => ?_) <;> (try simp only [decide_eq_true_eq, decide_eq_false_iff_not, Bool.not_eq_true', Bool.not_eq_false', beq_iff_eq, beq_eq_false_iff_ne] at h) <;> (first | (exfalso; first | omega | exact h trivial) | (conv => whnf))) | (refine CondG.mk (fun h => ?_) (fun h => ?_) <;> (try simp only [decide_eq_true_eq, decide_eq_false_iff_not, Bool.not_eq_true', Bool.not_eq_false', beq_iff_eq, beq_eq_false_iff_ne] at h) <;> (first | (exfalso; first | omega | exact h trivial) | (conv => whnf))) | (refine Ask.mk (by first | omega | (unfold roomOK; simp [cutRows]; done) | (unfold roomOK; simp [cutRows]; omega)) ?_; conv => whnf) | (refine AppG.mk (by first | omega | (unfold roomOK; simp [cutRows]; done) | (unfold roomOK; simp [cutRows]; omega)) ?_; conv => whnf) | (refine SliceG.fr ?_; conv => whnf) | fail)
  refine .mk (α := Nat × S × S) (fun e => e) [] rfl (fun _ => ?_) (by intro e he; cases he)
  conv => whnf
  repeat' (first | (refine Split.mk (fun h => ?_) (fun h => ?_) <;> (try simp only [decide_eq_true_eq, decide_eq_false_iff_not, Bool.not_eq_true', Bool.not_eq_false', beq_iff_eq, beq_eq_false_iff_ne] at h) <;> (first | (exfalso; first | omega | exact h trivial) | (conv => whnf))) | (refine CondG.mk (fun h => ?_) (fun h => ?_) <;> (try simp only [decide_eq_true_eq, decide_eq_false_iff_not, Bool.not_eq_true', Bool.not_eq_false', beq_iff_eq, beq_eq_false_iff_ne] at h) <;> (first | (exfalso; first | omega | exact h trivial) | (conv => whnf))) | (refine CallX.mk _ _ (by first | exact sort1_pc _ _) ?_; conv => whnf) | (refine CallG.mk _ _ (by first | exact sort1_pc _ _) ?_; conv => whnf) | (refine Ask.mk (by first | omega | (unfold roomOK; simp [cutRows]; done) | (unfold roomOK; simp [cutRows]; omega)) ?_; conv => whnf) | (refine AppG.mk (by first | omega | (unfold roomOK; simp [cutRows]; done) | (unfold roomOK; simp [cutRows]; omega)) ?_; conv => whnf) | (refine SliceG.fr ?_; conv => whnf) | fail)
  exact .mk ⟨rfl, rfl⟩
end Go.Proofs.YtllpjcgadfmipaaGreat

/- The law PlansWeighed, by the abstract walk. -/
namespace Go.Proofs.YtllpjcgadfmipaaGreat
set_option linter.unusedVariables false
set_option linter.unusedSimpArgs false
open Abs

end Go.Proofs.YtllpjcgadfmipaaGreat

/- Lists of acts are sorted. -/
namespace Go.Proofs.YtllpjcgadfmipaaGreat
set_option linter.unusedVariables false
set_option linter.unusedSimpArgs false
open Abs

/-! the length of a small number -/
deriving instance DecidableEq for Ac
end Go.Proofs.YtllpjcgadfmipaaGreat

/- Acts are made. -/
namespace Go.Proofs.YtllpjcgadfmipaaGreat
set_option linter.unusedVariables false
set_option linter.unusedSimpArgs false
open Abs

def oddV (L : List Int) (p lo hi : Int) : Int := if nextV L p 12 == 0 then pickV L (p + 1) [lo - 1, hi + 1, lo, hi, -1099511627776, 1099511627776] else rangeV L (p + 1) lo hi
set_option maxRecDepth 100000 in
set_option maxHeartbeats 4000000 in
theorem odd_ok {L : List Int} {p : Int} (h : StOk L p) (h2 : StOk L (p + 1)) (lo hi : Int) (hlo : small lo) (hhi : small hi) (hlh : lo ≤ hi) : PCp 120 [.c (.ptr 0 0), .c (.int .i64 lo), .c (.int .i64 hi)] [stO L p] (.c (.int .i64 (oddV L p lo hi))) [stO L (p + 1 + 1)] := by
  have w1 : IntKind.i64.wrap (lo - 1) = lo - 1 := wrap_in (by unfold small at *; omega) (by unfold small at *; omega)
  have w2 : IntKind.i64.wrap (hi + 1) = hi + 1 := wrap_in (by unfold small at *; omega) (by unfold small at *; omega)
  refine fn_sound (mt := mts) tab_fits tab_mixed Tryz.func120 (by rfl) (by kernel_rfl) (by kernel_rfl) Tryz.results120 (Nat.le_of_ble_eq_true (by kernel_rfl)) ?_
  conv => whnf
  repeat' (first | (refine Split.mk (fun h => ?_) (fun h => ?_) <;> (try simp only [decide_eq_true_eq, decide_eq_false_iff_not, Bool.not_eq_true', Bool.not_eq_false', beq_iff_eq, beq_eq_false_iff_ne] at h) <;> (first | (exfalso; first | omega | exact h trivial) | (conv => whnf))) | (refine CondG.mk (fun h => ?_) (fun h => ?_) <;> (try simp only [decide_eq_true_eq, decide_eq_false_iff_not, Bool.not_eq_true', Bool.not_eq_false', beq_iff_eq, beq_eq_false_iff_ne] at h) <;> (first | (exfalso; first | omega | exact h trivial) | (conv => whnf))) | (refine CallX.mk _ _ (by first | exact flip_ok h 12 (by omega) | exact range_ok h2 lo hi hlh hlo hhi | exact (by rw [w1, w2]; exact pick_ok h2 [lo - 1, hi + 1, lo, hi, -1099511627776, 1099511627776] (by simp) (by simp))) ?_; conv => whnf) | (refine CallG.mk _ _ (by first | exact flip_ok h 12 (by omega) | exact range_ok h2 lo hi hlh hlo hhi | exact (by rw [w1, w2]; exact pick_ok h2 [lo - 1, hi + 1, lo, hi, -1099511627776, 1099511627776] (by simp) (by simp))) ?_; conv => whnf) | (refine Ask.mk (by first | omega | (unfold roomOK; simp [cutRows]; done) | (unfold roomOK; simp [cutRows]; omega)) ?_; conv => whnf) | (refine AppG.mk (by first | omega | (unfold roomOK; simp [cutRows]; done) | (unfold roomOK; simp [cutRows]; omega)) ?_; conv => whnf) | (refine SliceG.fr ?_; conv => whnf) | fail)
  · exact fini' (by rw [oddV, if_pos (by simpa using h)]) rfl
  · exact fini' (by rw [oddV, if_neg (by simpa using h)]) rfl
end Go.Proofs.YtllpjcgadfmipaaGreat

/- A store, as the program follows it. -/
namespace Go.Proofs.YtllpjcgadfmipaaGreat
set_option linter.unusedVariables false
set_option linter.unusedSimpArgs false
open Abs

structure Sto where
  d : SM ByteArray (ByteArray × Int)
  k : SM ByteArray ByteArray
structure Sto.ok (s : Sto) : Prop where
  d : s.d.ok
  k : s.k.ok
end Go.Proofs.YtllpjcgadfmipaaGreat

/- What was used, as the program counts it. -/
namespace Go.Proofs.YtllpjcgadfmipaaGreat
set_option linter.unusedVariables false
set_option linter.unusedSimpArgs false
open Abs

end Go.Proofs.YtllpjcgadfmipaaGreat

/- The least stock, as the program finds it. -/
namespace Go.Proofs.YtllpjcgadfmipaaGreat
set_option linter.unusedVariables false
set_option linter.unusedSimpArgs false
open Abs

end Go.Proofs.YtllpjcgadfmipaaGreat

/- The least stock, as the program finds it: all acts. -/
namespace Go.Proofs.YtllpjcgadfmipaaGreat
set_option linter.unusedVariables false
set_option linter.unusedSimpArgs false
open Abs

end Go.Proofs.YtllpjcgadfmipaaGreat

/- The document's store. -/
namespace Go.Proofs.YtllpjcgadfmipaaGreat
set_option linter.unusedVariables false
set_option linter.unusedSimpArgs false
open Abs

structure Rto where
  l : SM ByteArray Int
  k : SM ByteArray ByteArray
structure Rto.ok (s : Rto) : Prop where
  l : s.l.ok
  k : s.k.ok
end Go.Proofs.YtllpjcgadfmipaaGreat

/- What was used, by the document. -/
namespace Go.Proofs.YtllpjcgadfmipaaGreat
set_option linter.unusedVariables false
set_option linter.unusedSimpArgs false
open Abs

end Go.Proofs.YtllpjcgadfmipaaGreat

/- Stock at a moment, by the document. -/
namespace Go.Proofs.YtllpjcgadfmipaaGreat
set_option linter.unusedVariables false
set_option linter.unusedSimpArgs false
open Abs

end Go.Proofs.YtllpjcgadfmipaaGreat

/- Stock at a moment, by the document: the list. -/
namespace Go.Proofs.YtllpjcgadfmipaaGreat
set_option linter.unusedVariables false
set_option linter.unusedSimpArgs false
open Abs

end Go.Proofs.YtllpjcgadfmipaaGreat

/- Errors of acts and windows, by the document. -/
namespace Go.Proofs.YtllpjcgadfmipaaGreat
set_option linter.unusedVariables false
set_option linter.unusedSimpArgs false
open Abs
end Go.Proofs.YtllpjcgadfmipaaGreat

/- Comparisons, one behind another; sorting by insertion keeps the order of equal ones. -/
namespace Go.Proofs.YtllpjcgadfmipaaGreat
set_option linter.unusedVariables false
set_option linter.unusedSimpArgs false
open Abs

/-- a comparison -/
structure Cmp {α : Type} (c : α → α → Int) : Prop where
  anti : ∀ a b, c b a = - c a b
  trans : ∀ a b d, c a b ≤ 0 → c b d ≤ 0 → c a d ≤ 0
theorem Cmp.lt {α : Type} {c : α → α → Int} (h : Cmp c) {a b d : α} (h1 : c a b ≤ 0) (h2 : c b d ≤ 0) (h3 : c a b < 0 ∨ c b d < 0) : c a d < 0 := by
  have h4 := h.trans a b d h1 h2
  rcases Int.lt_or_le (c a d) 0 with h5 | h5
  · exact h5
  · have a1 := h.anti a d
    have a2 := h.anti a b
    have a3 := h.anti b d
    rcases h3 with h3 | h3
    · have := h.trans b d a h2 (by omega); omega
    · have := h.trans d a b (by omega) h1; omega
theorem Cmp.swo {α : Type} {c : α → α → Int} (h : Cmp c) : SWOc c where
  irrefl x := by have := h.anti x x; omega
  trans x y z h1 h2 := h.lt (by omega) (by omega) (.inl h1)
  ntrans x y z h1 h2 := by
    have a1 := h.anti x y
    have a2 := h.anti y z
    have a3 := h.anti x z
    have := h.trans z y x (by omega) (by omega)
    omega
end Go.Proofs.YtllpjcgadfmipaaGreat

/- Strings sorted (a few), and what numbers look like: Itoa by the kit's contract. -/
namespace Go.Proofs.YtllpjcgadfmipaaGreat
set_option linter.unusedVariables false
set_option linter.unusedSimpArgs false
open Abs

/-! what a function of the library gives that makes new memory of its own -/
theorem Nx.grown {F : Nat → Prop} {φ : Nat → Option Value} {w : World} {N : Nat → Prop} {h : Nat → Option Ob} (k : Nat) (os : Array Obj) : Nx F φ w h N [] F φ (Sort.grow (w.drewN k) os) where
  hF _ h := h
  hφ _ _ h := h
  nφ _ _ h := .inl h
  os := rfl
  tape := rfl
  output := rfl
  drawn := Nat.le_add_right _ _
  size := by simp [Sort.grow, World.drewN]
  keep b hb hne := (hne (by simp only [Sort.grow, World.drewN]; rw [Array.getElem?_append_left hb])).elim
  nF b h := .inl h
  objs l o h := by simp [chGet] at h
  own l o b h := by simp [chGet] at h
  inj l l' o o' b h := by simp [chGet] at h
end Go.Proofs.YtllpjcgadfmipaaGreat

/- What each element affects by itself: the plain part, and sorts. -/
namespace Go.Proofs.YtllpjcgadfmipaaGreat
set_option linter.unusedVariables false
set_option linter.unusedSimpArgs false
open Abs

/-! elements and customers, one behind another -/
/-! how they are ordered -/
end Go.Proofs.YtllpjcgadfmipaaGreat

/- What each element affects by itself: walked. -/
namespace Go.Proofs.YtllpjcgadfmipaaGreat
set_option linter.unusedVariables false
set_option linter.unusedSimpArgs false
open Abs

/-! the program's -/
end Go.Proofs.YtllpjcgadfmipaaGreat

/- What each element affects by itself, by the document; the law. -/
namespace Go.Proofs.YtllpjcgadfmipaaGreat
set_option linter.unusedVariables false
set_option linter.unusedSimpArgs false
open Abs

end Go.Proofs.YtllpjcgadfmipaaGreat

/- Sets as bits: sizes, orders, lists. -/
namespace Go.Proofs.YtllpjcgadfmipaaGreat
set_option linter.unusedVariables false
set_option linter.unusedSimpArgs false
open Abs

theorem u64N {n : Nat} (h : n < 18446744073709551616) : IntKind.u64.wrap (n : Int) = (n : Int) := IntWalk.u64_in _ ⟨by omega, by omega⟩
theorem ofInt_nat (n : Nat) : BitVec.ofInt 64 (n : Int) = BitVec.ofNat 64 n := by
  apply BitVec.eq_of_toNat_eq
  rw [BitVec.toNat_ofInt, BitVec.toNat_ofNat]
  omega
theorem bits_and {a b : Nat} (ha : a < 18446744073709551616) (hb : b < 18446744073709551616) : bitsV .and .u64 (a : Int) (b : Int) = ((a &&& b : Nat) : Int) := by
  have h1 : (BitVec.ofInt 64 (a : Int) &&& BitVec.ofInt 64 (b : Int)).toNat = a &&& b := by
    rw [ofInt_nat, ofInt_nat, BitVec.toNat_and, BitVec.toNat_ofNat, BitVec.toNat_ofNat, Nat.mod_eq_of_lt (by simpa using ha), Nat.mod_eq_of_lt (by simpa using hb)]
  have h2 : a &&& b ≤ a := Nat.and_le_left
  show IntKind.u64.wrap (((BitVec.ofInt 64 (a : Int) &&& BitVec.ofInt 64 (b : Int)).toNat : Nat) : Int) = _
  rw [h1, u64N (by omega)]
/-! how many -/
def LowLt (a b : Nat) : Prop := ∃ i, a.testBit i = true ∧ b.testBit i = false ∧ ∀ j, j < i → a.testBit j = b.testBit j
theorem LowLt.trans {a b c : Nat} (h1 : LowLt a b) (h2 : LowLt b c) : LowLt a c := by
  obtain ⟨i, a1, a2, a3⟩ := h1
  obtain ⟨k, b1, b2, b3⟩ := h2
  rcases Nat.lt_trichotomy i k with h | h | h
  · exact ⟨i, a1, by rw [← b3 i h]; exact a2, fun j hj => by rw [a3 j hj, b3 j (by omega)]⟩
  · subst h; rw [a2] at b1; cases b1
  · exact ⟨k, by rw [a3 k h]; exact b1, b2, fun j hj => by rw [a3 j (by omega), b3 j hj]⟩
end Go.Proofs.YtllpjcgadfmipaaGreat

/- Sets as bits: what the program counts and compares. -/
namespace Go.Proofs.YtllpjcgadfmipaaGreat
set_option linter.unusedVariables false
set_option linter.unusedSimpArgs false
open Abs

theorem shN (x d : Nat) (si : Int) (h : (2 : Int) ^ (min si.toNat IntKind.u64.bits) = (d : Int)) : shV .shr .u64 (x : Int) si = ((x / d : Nat) : Int) := by
  show (x : Int).fdiv _ = _
  rw [h, Int.ofNat_fdiv]
def o1 (x : Nat) : Nat := (x / 2 &&& 6148914691236517205) + (x &&& 6148914691236517205)
def o2 (x : Nat) : Nat := (x / 4 &&& 3689348814741910323) + (x &&& 3689348814741910323)
def o3 (x : Nat) : Nat := (x / 16 + x) &&& 1085102592571150095
theorem o1_lt (x : Nat) : o1 x ≤ 2 * x := by
  have h1 : x / 2 &&& 6148914691236517205 ≤ x / 2 := Nat.and_le_left
  have h2 : x &&& 6148914691236517205 ≤ x := Nat.and_le_left
  unfold o1; omega
theorem o2_lt (x : Nat) : o2 x ≤ 2 * x := by
  have h1 : x / 4 &&& 3689348814741910323 ≤ x / 4 := Nat.and_le_left
  have h2 : x &&& 3689348814741910323 ≤ x := Nat.and_le_left
  unfold o2; omega
theorem i1 (x : Nat) (h : x < 1099511627776) : IntKind.u64.wrap (bitsV .and .u64 (shV .shr .u64 (x : Int) 1) 6148914691236517205 + bitsV .and .u64 (x : Int) 6148914691236517205) = ((o1 x : Nat) : Int) := by
  have h1 := bits_and (a := x / 2) (b := 6148914691236517205) (by omega) (by decide)
  have h2 := bits_and (a := x) (b := 6148914691236517205) (by omega) (by decide)
  have h3 := o1_lt x
  rw [shN x 2 1 (by decide)]
  exact (congr (congrArg (fun a b : Int => IntKind.u64.wrap (a + b)) h1) h2).trans (u64N (n := o1 x) (by omega))
theorem i2 (x : Nat) (h : x < 1099511627776) : IntKind.u64.wrap (bitsV .and .u64 (shV .shr .u64 (x : Int) 2) 3689348814741910323 + bitsV .and .u64 (x : Int) 3689348814741910323) = ((o2 x : Nat) : Int) := by
  have h1 := bits_and (a := x / 4) (b := 3689348814741910323) (by omega) (by decide)
  have h2 := bits_and (a := x) (b := 3689348814741910323) (by omega) (by decide)
  have h3 := o2_lt x
  rw [shN x 4 2 (by decide)]
  exact (congr (congrArg (fun a b : Int => IntKind.u64.wrap (a + b)) h1) h2).trans (u64N (n := o2 x) (by omega))
end Go.Proofs.YtllpjcgadfmipaaGreat

/- Explanations in plain Lean: needs, good sets, the best ones, sorted; what is unexplained. -/
namespace Go.Proofs.YtllpjcgadfmipaaGreat
set_option linter.unusedVariables false
set_option linter.unusedSimpArgs false
open Abs

end Go.Proofs.YtllpjcgadfmipaaGreat

/- The explanations of the program. -/
namespace Go.Proofs.YtllpjcgadfmipaaGreat
set_option linter.unusedVariables false
set_option linter.unusedSimpArgs false
open Abs

end Go.Proofs.YtllpjcgadfmipaaGreat

/- What is unexplained, by the program; elements by captured lists. -/
namespace Go.Proofs.YtllpjcgadfmipaaGreat
set_option linter.unusedVariables false
set_option linter.unusedSimpArgs false
open Abs

end Go.Proofs.YtllpjcgadfmipaaGreat

/- Plain: the best sets are there, and they rise. -/
namespace Go.Proofs.YtllpjcgadfmipaaGreat
set_option linter.unusedVariables false
set_option linter.unusedSimpArgs false
open Abs

end Go.Proofs.YtllpjcgadfmipaaGreat

/- What is in all sets, by the program. -/
namespace Go.Proofs.YtllpjcgadfmipaaGreat
set_option linter.unusedVariables false
set_option linter.unusedSimpArgs false
open Abs

end Go.Proofs.YtllpjcgadfmipaaGreat

/- What to ask, by the program. -/
namespace Go.Proofs.YtllpjcgadfmipaaGreat
set_option linter.unusedVariables false
set_option linter.unusedSimpArgs false
open Abs

end Go.Proofs.YtllpjcgadfmipaaGreat

/- Ask with an error. -/
namespace Go.Proofs.YtllpjcgadfmipaaGreat
set_option linter.unusedVariables false
set_option linter.unusedSimpArgs false
open Abs

end Go.Proofs.YtllpjcgadfmipaaGreat

/- The document: which service needs one of a list. -/
namespace Go.Proofs.YtllpjcgadfmipaaGreat
set_option linter.unusedVariables false
set_option linter.unusedSimpArgs false
open Abs

end Go.Proofs.YtllpjcgadfmipaaGreat

/- The document: elements of the services that a captured list holds. -/
namespace Go.Proofs.YtllpjcgadfmipaaGreat
set_option linter.unusedVariables false
set_option linter.unusedSimpArgs false
open Abs

end Go.Proofs.YtllpjcgadfmipaaGreat

/- The document: suspects. -/
namespace Go.Proofs.YtllpjcgadfmipaaGreat
set_option linter.unusedVariables false
set_option linter.unusedSimpArgs false
open Abs

end Go.Proofs.YtllpjcgadfmipaaGreat

/- The document: what is unexplained. -/
namespace Go.Proofs.YtllpjcgadfmipaaGreat
set_option linter.unusedVariables false
set_option linter.unusedSimpArgs false
open Abs

end Go.Proofs.YtllpjcgadfmipaaGreat

/- Plain: both suspects are one. -/
namespace Go.Proofs.YtllpjcgadfmipaaGreat
set_option linter.unusedVariables false
set_option linter.unusedSimpArgs false
open Abs

end Go.Proofs.YtllpjcgadfmipaaGreat

/- Plain: the best sets of the document and of the program are one. -/
namespace Go.Proofs.YtllpjcgadfmipaaGreat
set_option linter.unusedVariables false
set_option linter.unusedSimpArgs false
open Abs

/-! from the begin on -/
/-! the order of the sets -/
/-! the best ones, told anew -/
end Go.Proofs.YtllpjcgadfmipaaGreat

/- Lists joined; what is in no explanation, by the program. -/
namespace Go.Proofs.YtllpjcgadfmipaaGreat
set_option linter.unusedVariables false
set_option linter.unusedSimpArgs false
open Abs

-- slices.Grow of nil, by the kit's contract laid at the seat (needs nx_made of XF2 or XGrow)
theorem flat_len {α : Type} {n : Nat} : ∀ {L : List (List α)}, (∀ q ∈ L, q.length ≤ n) → L.flatten.length ≤ n * L.length
  | [], _ => by simp
  | a :: r, h => by
    have ih := flat_len (n := n) (L := r) (fun q hq => h q (by simp [hq]))
    have := h a (by simp)
    simp only [List.flatten_cons, List.length_append, List.length_cons, Nat.mul_succ]; omega
end Go.Proofs.YtllpjcgadfmipaaGreat

/- Plain: the least sets, few suspects; what broken elements affect. -/
namespace Go.Proofs.YtllpjcgadfmipaaGreat
set_option linter.unusedVariables false
set_option linter.unusedSimpArgs false
open Abs

section
variable {s : List Sv} {down up : List ByteArray}
end
/-! what broken elements affect -/
end Go.Proofs.YtllpjcgadfmipaaGreat

/- Plain: what is broken is suspect. -/
namespace Go.Proofs.YtllpjcgadfmipaaGreat
set_option linter.unusedVariables false
set_option linter.unusedSimpArgs false
open Abs

theorem seqErr_nil {α : Type} {e : Bool → ByteArray → α → Int} {key : α → ByteArray} : ∀ {l : List α} {f : Bool} {b : ByteArray}, Rise key l → (∀ x ∈ l, e true ⟨#[]⟩ x = 0 ∧ ∀ b, ltB b (key x) = true → e false b x = 0) → (∀ x, l.head? = some x → e f b x = 0) → seqErr e key f b l = 0
  | [], _, _, _, _, _ => rfl
  | a :: r, f, b, hr, h, h0 => by
    have h1 := h0 a rfl
    have hr' := List.pairwise_cons.1 hr
    have ih := seqErr_nil (l := r) (f := false) (b := key a) hr'.2 (fun x hx => h x (by simp [hx])) (fun x hx => (h x (by cases r with | nil => simp at hx | cons c t => simp at hx; simp [hx])).2 _ (hr'.1 x (by cases r with | nil => simp at hx | cons c t => simp at hx; simp [hx])))
    rw [seqErr, if_pos h1]; exact ih
section
variable {s : List Sv} {b : List ByteArray}
end
end Go.Proofs.YtllpjcgadfmipaaGreat

/- Ducts are found; cables are checked. -/
namespace Go.Proofs.YtllpjcgadfmipaaGreat
set_option linter.unusedVariables false
set_option linter.unusedSimpArgs false
open Abs

set_option maxRecDepth 100000 in
set_option maxHeartbeats 4000000 in
theorem rDuctsFault_pc (d : List Du) : PCp 133 [.c (.lst 5 (d.map encDu))] [] (.c (.int .i64 (duFault d))) [] := by
  have hlm : (d.map encDu).length = d.length := List.length_map ..
  refine fn_sound (mt := mts) tab_fits tab_mixed Tryz.func133 (by rfl) (by kernel_rfl) (by kernel_rfl) Tryz.results133 (Nat.le_of_ble_eq_true (by kernel_rfl)) ?_
  conv => whnf
  repeat' (first | (refine Split.mk (fun h => ?_) (fun h => ?_) <;> (try simp only [decide_eq_true_eq, decide_eq_false_iff_not, Bool.not_eq_true', Bool.not_eq_false', beq_iff_eq, beq_eq_false_iff_ne, bne_iff_ne, bne_eq_false_iff_eq] at h) <;> (first | (exfalso; first | omega | exact h trivial) | (conv => whnf))) | (refine CondG.mk (fun h => ?_) (fun h => ?_) <;> (try simp only [decide_eq_true_eq, decide_eq_false_iff_not, Bool.not_eq_true', Bool.not_eq_false', beq_iff_eq, beq_eq_false_iff_ne, bne_iff_ne, bne_eq_false_iff_eq] at h) <;> (first | (exfalso; first | omega | exact h trivial) | (conv => whnf))) | (refine Ask.mk (by first | omega | (unfold roomOK; simp [cutRows]; done) | (unfold roomOK; simp [cutRows]; omega) | (simp [cutRows]; done) | (simp [cutRows]; omega)) ?_; conv => whnf) | (refine AppG.mk (by first | omega | (unfold roomOK; simp [cutRows]; done) | (unfold roomOK; simp [cutRows]; omega) | (simp [cutRows]; done) | (simp [cutRows]; omega)) ?_; conv => whnf) | (refine SliceG.fr ?_; conv => whnf) | (refine idx_at _ (by with_reducible rfl) (by first | assumption | omega) ?_; conv => whnf) | ((with_reducible refine row_map (by first | assumption | omega) ?_); conv => whnf) | ((with_reducible refine row_set (by first | assumption | omega | (simp only [List.length_set]; omega) | (simp; omega)) ?_); conv => whnf) | fail)
  · exact fini (by rw [duFault, if_pos (by omega)])
  have hF : duFault d = seqErr duErr Du.key false ⟨#[]⟩ d := by rw [duFault, if_neg (by omega), seqErr_first duErr_first]
  refine loop_for (d.length) [] [3, 9, 10, 11] (fun k (_ : Unit) => [(3, .c (.str (befK Du.key d k))), (11, .c (.int .i64 (k : Int)))]) (fun k (_ : Unit) => []) (fun k (_ : Unit) => seqErr duErr Du.key false (befK Du.key d k) (d.drop k) = duFault d) (()) ?_
  conv => whnf
  refine ⟨(by first | rfl | (simp; done) | (simp; rfl)), ?_, ?_, ?_⟩
  · exact hF.symm
  · intro k _ hk hi
    conv => whnf
    repeat' (first | (refine Split.mk (fun h => ?_) (fun h => ?_) <;> (try simp only [decide_eq_true_eq, decide_eq_false_iff_not, Bool.not_eq_true', Bool.not_eq_false', beq_iff_eq, beq_eq_false_iff_ne, bne_iff_ne, bne_eq_false_iff_eq] at h) <;> (first | (exfalso; first | omega | exact h trivial) | (conv => whnf))) | (refine CondG.mk (fun h => ?_) (fun h => ?_) <;> (try simp only [decide_eq_true_eq, decide_eq_false_iff_not, Bool.not_eq_true', Bool.not_eq_false', beq_iff_eq, beq_eq_false_iff_ne, bne_iff_ne, bne_eq_false_iff_eq] at h) <;> (first | (exfalso; first | omega | exact h trivial) | (conv => whnf))) | (refine CallX.mk _ _ (by first | exact rKey_pc _ | exact rIn_pc _ _ _) ?_; conv => whnf) | (refine CallG.mk _ _ (by first | exact rKey_pc _ | exact rIn_pc _ _ _) ?_; conv => whnf) | (refine Ask.mk (by first | omega | (unfold roomOK; simp [cutRows]; done) | (unfold roomOK; simp [cutRows]; omega) | (simp [cutRows]; done) | (simp [cutRows]; omega)) ?_; conv => whnf) | (refine AppG.mk (by first | omega | (unfold roomOK; simp [cutRows]; done) | (unfold roomOK; simp [cutRows]; omega) | (simp [cutRows]; done) | (simp [cutRows]; omega)) ?_; conv => whnf) | (refine SliceG.fr ?_; conv => whnf) | (refine idx_at _ (by with_reducible rfl) (by first | assumption | omega) ?_; conv => whnf) | ((with_reducible refine row_map (by first | assumption | omega) ?_); conv => whnf) | ((with_reducible refine row_set (by first | assumption | omega | (simp only [List.length_set]; omega) | (simp; omega)) ?_); conv => whnf) | fail)
    all_goals try simp only [toList_eq'] at *
    all_goals first
      | (refine fini (seq_hit hk hi ?_ (by decide)); clear hi hF; unfold duErr; (repeat' split) <;> first | rfl | (exfalso; first | omega | (simp_all [leB, toList_eq']; done) | (simp_all [leB, toList_eq']; omega)))
      | (refine count_next () hk (by rw [wrap_succ hk (by omega), befK_succ hk]; rfl) (by rw [befK_succ hk]; refine seq_next hk hi ?_; clear hi hF; unfold duErr; (repeat' split) <;> first | rfl | (exfalso; first | omega | (simp_all [leB, toList_eq']; done) | (simp_all [leB, toList_eq']; omega))))
  · intro _ hi
    conv => whnf
    repeat' (first | (refine Split.mk (fun h => ?_) (fun h => ?_) <;> (try simp only [decide_eq_true_eq, decide_eq_false_iff_not, Bool.not_eq_true', Bool.not_eq_false', beq_iff_eq, beq_eq_false_iff_ne, bne_iff_ne, bne_eq_false_iff_eq] at h) <;> (first | (exfalso; first | omega | exact h trivial) | (conv => whnf))) | (refine CondG.mk (fun h => ?_) (fun h => ?_) <;> (try simp only [decide_eq_true_eq, decide_eq_false_iff_not, Bool.not_eq_true', Bool.not_eq_false', beq_iff_eq, beq_eq_false_iff_ne, bne_iff_ne, bne_eq_false_iff_eq] at h) <;> (first | (exfalso; first | omega | exact h trivial) | (conv => whnf))) | (refine Ask.mk (by first | omega | (unfold roomOK; simp [cutRows]; done) | (unfold roomOK; simp [cutRows]; omega) | (simp [cutRows]; done) | (simp [cutRows]; omega)) ?_; conv => whnf) | (refine AppG.mk (by first | omega | (unfold roomOK; simp [cutRows]; done) | (unfold roomOK; simp [cutRows]; omega) | (simp [cutRows]; done) | (simp [cutRows]; omega)) ?_; conv => whnf) | (refine SliceG.fr ?_; conv => whnf) | (refine idx_at _ (by with_reducible rfl) (by first | assumption | omega) ?_; conv => whnf) | ((with_reducible refine row_map (by first | assumption | omega) ?_); conv => whnf) | ((with_reducible refine row_set (by first | assumption | omega | (simp only [List.length_set]; omega) | (simp; omega)) ?_); conv => whnf) | fail)
    exact fini (seq_end hi).symm
set_option maxRecDepth 100000 in
set_option maxHeartbeats 4000000 in
theorem find1_pc (x : Du) (k : ByteArray) : PCp 187 [.agg (encDu x), .c (.str k)] [] (.c (.int .i64 (cmpS x.key k))) [] := by
  refine fn_sound (mt := mts) tab_fits tab_mixed Tryz.func187 (by rfl) (by kernel_rfl) (by kernel_rfl) Tryz.results187 (Nat.le_of_ble_eq_true (by kernel_rfl)) ?_
  conv => whnf
  repeat' (first | (refine Split.mk (fun h => ?_) (fun h => ?_) <;> (try simp only [decide_eq_true_eq, decide_eq_false_iff_not, Bool.not_eq_true', Bool.not_eq_false', beq_iff_eq, beq_eq_false_iff_ne, bne_iff_ne, bne_eq_false_iff_eq] at h) <;> (first | (exfalso; first | omega | exact h trivial) | (conv => whnf))) | (refine CondG.mk (fun h => ?_) (fun h => ?_) <;> (try simp only [decide_eq_true_eq, decide_eq_false_iff_not, Bool.not_eq_true', Bool.not_eq_false', beq_iff_eq, beq_eq_false_iff_ne, bne_iff_ne, bne_eq_false_iff_eq] at h) <;> (first | (exfalso; first | omega | exact h trivial) | (conv => whnf))) | (refine CallX.mk _ _ (by first | exact sCompare_pc _ _) ?_; conv => whnf) | (refine CallG.mk _ _ (by first | exact sCompare_pc _ _) ?_; conv => whnf) | (refine Ask.mk (by first | omega | (unfold roomOK; simp [cutRows]; done) | (unfold roomOK; simp [cutRows]; omega) | (simp [cutRows]; done) | (simp [cutRows]; omega)) ?_; conv => whnf) | (refine AppG.mk (by first | omega | (unfold roomOK; simp [cutRows]; done) | (unfold roomOK; simp [cutRows]; omega) | (simp [cutRows]; done) | (simp [cutRows]; omega)) ?_; conv => whnf) | (refine SliceG.fr ?_; conv => whnf) | (refine idx_at _ (by with_reducible rfl) (by first | assumption | omega) ?_; conv => whnf) | ((with_reducible refine row_map (by first | assumption | omega) ?_); conv => whnf) | ((with_reducible refine row_set (by first | assumption | omega | (simp only [List.length_set]; omega) | (simp; omega)) ?_); conv => whnf) | fail)
  exact fini rfl
set_option maxRecDepth 100000 in
set_option maxHeartbeats 4000000 in
theorem find_pc (d : List Du) (hd : DuOk d) (k : ByteArray) : PCp 138 [.c (.lst 5 (d.map encDu)), .c (.str k)] [] (.tup [.agg (encDu (duG d k)), .c (.bool (hasD d k))]) [] := by
  have hlm : (d.map encDu).length = d.length := List.length_map ..
  have hc : ∀ x : Du, (cmpS x.key k < 0 ↔ ltB x.key k = true) ∧ (cmpS x.key k = 0 ↔ x.key = k) := fun x => ⟨cmp_lt, cmp_zero⟩
  have hf := find_rise (c := fun x : Du => cmpS x.key k) hc hd.rise
  have hl := hd.len
  refine fn_sound (mt := mts) tab_fits tab_mixed Tryz.func138 (by rfl) (by kernel_rfl) (by kernel_rfl) Tryz.results138 (Nat.le_of_ble_eq_true (by kernel_rfl)) ?_
  conv => whnf
  repeat' (first | (refine Split.mk (fun h => ?_) (fun h => ?_) <;> (try simp only [decide_eq_true_eq, decide_eq_false_iff_not, Bool.not_eq_true', Bool.not_eq_false', beq_iff_eq, beq_eq_false_iff_ne, bne_iff_ne, bne_eq_false_iff_eq] at h) <;> (first | (exfalso; first | omega | exact h trivial) | (conv => whnf))) | (refine CondG.mk (fun h => ?_) (fun h => ?_) <;> (try simp only [decide_eq_true_eq, decide_eq_false_iff_not, Bool.not_eq_true', Bool.not_eq_false', beq_iff_eq, beq_eq_false_iff_ne, bne_iff_ne, bne_eq_false_iff_eq] at h) <;> (first | (exfalso; first | omega | exact h trivial) | (conv => whnf))) | (refine CallX.mk _ _ (by first | exact bsDu_pc 187 (fun x => cmpS x.key k) (.c (.str k)) d (by omega) (rise_mono (fun x => cmp_lt) hd.rise) ⟨_, rfl⟩ (fun x _ => find1_pc x k)) ?_; conv => whnf) | (refine CallG.mk _ _ (by first | exact bsDu_pc 187 (fun x => cmpS x.key k) (.c (.str k)) d (by omega) (rise_mono (fun x => cmp_lt) hd.rise) ⟨_, rfl⟩ (fun x _ => find1_pc x k)) ?_; conv => whnf) | (refine Ask.mk (by first | omega | (unfold roomOK; simp [cutRows]; done) | (unfold roomOK; simp [cutRows]; omega) | (simp [cutRows]; done) | (simp [cutRows]; omega)) ?_; conv => whnf) | (refine AppG.mk (by first | omega | (unfold roomOK; simp [cutRows]; done) | (unfold roomOK; simp [cutRows]; omega) | (simp [cutRows]; done) | (simp [cutRows]; omega)) ?_; conv => whnf) | (refine SliceG.fr ?_; conv => whnf) | (refine idx_at _ (by with_reducible rfl) (by first | assumption | omega) ?_; conv => whnf) | ((with_reducible refine row_map (by first | assumption | omega) ?_); conv => whnf) | ((with_reducible refine row_set (by first | assumption | omega | (simp only [List.length_set]; omega) | (simp; omega)) ?_); conv => whnf) | fail)
  · have hn : duAt d k = none := by unfold duAt; rw [hf, h]; rfl
    exact .mk ⟨by unfold duG hasD; rw [hn]; rfl, rfl⟩
  · have hlt : cntL (fun x : Du => cmpS x.key k) d < d.length := by
      rcases Nat.lt_or_ge (cntL (fun x : Du => cmpS x.key k) d) d.length with h1 | h1
      · exact h1
      · unfold hitL at h; rw [List.getElem?_eq_none h1] at h; cases h
    have hn : duAt d k = some (d[cntL (fun x : Du => cmpS x.key k) d]) := by unfold duAt; rw [hf, if_pos h, List.getElem?_eq_getElem hlt]
    refine idx_map _ hlt rfl ?_
    conv => whnf
    exact .mk ⟨by unfold duG hasD; rw [hn]; rfl, rfl⟩
set_option maxRecDepth 100000 in
set_option maxHeartbeats 4000000 in
theorem ductAt1_pc (x : Du) (k : ByteArray) : PCp 185 [.agg (encDu x), .c (.ptr 0 0)] [.box [.str k]] (.c (.bool (decide (x.key = k)))) [.box [.str k]] := by
  refine fn_sound (mt := mts) tab_fits tab_mixed Tryz.func185 (by rfl) (by kernel_rfl) (by kernel_rfl) Tryz.results185 (Nat.le_of_ble_eq_true (by kernel_rfl)) ?_
  conv => whnf
  repeat' (first | (refine Split.mk (fun h => ?_) (fun h => ?_) <;> (try simp only [decide_eq_true_eq, decide_eq_false_iff_not, Bool.not_eq_true', Bool.not_eq_false', beq_iff_eq, beq_eq_false_iff_ne, bne_iff_ne, bne_eq_false_iff_eq] at h) <;> (first | (exfalso; first | omega | exact h trivial) | (conv => whnf))) | (refine CondG.mk (fun h => ?_) (fun h => ?_) <;> (try simp only [decide_eq_true_eq, decide_eq_false_iff_not, Bool.not_eq_true', Bool.not_eq_false', beq_iff_eq, beq_eq_false_iff_ne, bne_iff_ne, bne_eq_false_iff_eq] at h) <;> (first | (exfalso; first | omega | exact h trivial) | (conv => whnf))) | (refine Ask.mk (by first | omega | (unfold roomOK; simp [cutRows]; done) | (unfold roomOK; simp [cutRows]; omega) | (simp [cutRows]; done) | (simp [cutRows]; omega)) ?_; conv => whnf) | (refine AppG.mk (by first | omega | (unfold roomOK; simp [cutRows]; done) | (unfold roomOK; simp [cutRows]; omega) | (simp [cutRows]; done) | (simp [cutRows]; omega)) ?_; conv => whnf) | (refine SliceG.fr ?_; conv => whnf) | (refine idx_at _ (by with_reducible rfl) (by first | assumption | omega) ?_; conv => whnf) | ((with_reducible refine row_map (by first | assumption | omega) ?_); conv => whnf) | ((with_reducible refine row_set (by first | assumption | omega | (simp only [List.length_set]; omega) | (simp; omega)) ?_); conv => whnf) | fail)
  exact .mk ⟨by rw [beqL]; rfl, rfl⟩
set_option maxRecDepth 100000 in
set_option maxHeartbeats 4000000 in
theorem ductAt_pc (d : List Du) (hl : d.length ≤ 1000000) (k : ByteArray) : PCp 134 [.c (.lst 5 (d.map encDu)), .c (.str k)] [] (.tup [.agg (encDu (duG d k)), .c (.bool (hasD d k))]) [] := by
  have hlm : (d.map encDu).length = d.length := List.length_map ..
  have hf : duAt d k = d[d.findIdx fun x => decide (x.key = k)]? := find_idx _ d
  have hi : 0 ≤ idxP (fun x : Du => decide (x.key = k)) d ↔ (d.any fun x => decide (x.key = k)) = true := by
    rw [← idxP_any, decide_eq_true_eq]
  refine fn_sound (mt := mts) tab_fits tab_mixed Tryz.func134 (by rfl) (by kernel_rfl) (by kernel_rfl) Tryz.results134 (Nat.le_of_ble_eq_true (by kernel_rfl)) ?_
  conv => whnf
  repeat' (first | (refine Split.mk (fun h => ?_) (fun h => ?_) <;> (try simp only [decide_eq_true_eq, decide_eq_false_iff_not, Bool.not_eq_true', Bool.not_eq_false', beq_iff_eq, beq_eq_false_iff_ne, bne_iff_ne, bne_eq_false_iff_eq] at h) <;> (first | (exfalso; first | omega | exact h trivial) | (conv => whnf))) | (refine CondG.mk (fun h => ?_) (fun h => ?_) <;> (try simp only [decide_eq_true_eq, decide_eq_false_iff_not, Bool.not_eq_true', Bool.not_eq_false', beq_iff_eq, beq_eq_false_iff_ne, bne_iff_ne, bne_eq_false_iff_eq] at h) <;> (first | (exfalso; first | omega | exact h trivial) | (conv => whnf))) | (refine CallX.mk _ _ (by first | exact ixDuK_pc k 185 (fun x => decide (x.key = k)) d hl (fun x _ => ductAt1_pc x k)) ?_; conv => whnf) | (refine CallG.mk _ _ (by first | exact ixDuK_pc k 185 (fun x => decide (x.key = k)) d hl (fun x _ => ductAt1_pc x k)) ?_; conv => whnf) | (refine Ask.mk (by first | omega | (unfold roomOK; simp [cutRows]; done) | (unfold roomOK; simp [cutRows]; omega) | (simp [cutRows]; done) | (simp [cutRows]; omega)) ?_; conv => whnf) | (refine AppG.mk (by first | omega | (unfold roomOK; simp [cutRows]; done) | (unfold roomOK; simp [cutRows]; omega) | (simp [cutRows]; done) | (simp [cutRows]; omega)) ?_; conv => whnf) | (refine SliceG.fr ?_; conv => whnf) | (refine idx_at _ (by with_reducible rfl) (by first | assumption | omega) ?_; conv => whnf) | ((with_reducible refine row_map (by first | assumption | omega) ?_); conv => whnf) | ((with_reducible refine row_set (by first | assumption | omega | (simp only [List.length_set]; omega) | (simp; omega)) ?_); conv => whnf) | fail)
  · have hn : duAt d k = none := by
      cases h1 : duAt d k with
      | none => rfl
      | some x =>
        have h2 := duAt_some h1
        have h3 := hi.2 (List.any_eq_true.2 ⟨x, h2.1, by simpa using h2.2⟩)
        omega
    exact .mk ⟨by unfold duG hasD; rw [hn]; rfl, rfl⟩
  · have h1 := hi.1 (by omega)
    have h2 : idxP (fun x : Du => decide (x.key = k)) d = (d.findIdx fun x => decide (x.key = k) : Nat) := by rw [idxP, if_pos h1]
    have hlt : (d.findIdx fun x => decide (x.key = k)) < d.length := by
      rw [List.findIdx_lt_length]; rw [List.any_eq_true] at h1; obtain ⟨x, hx, h3⟩ := h1; exact ⟨x, hx, h3⟩
    rw [List.getElem?_eq_getElem hlt] at hf
    refine idx_map _ hlt h2 ?_
    conv => whnf
    exact .mk ⟨by unfold duG hasD; rw [hf]; rfl, rfl⟩
set_option maxRecDepth 100000 in
set_option maxHeartbeats 4000000 in
theorem cableFault_pc (d : List Du) (hd : DuOk d) (x : Ly) (hx : x.ducts.length ≤ 1000000) : PCp 142 [.c (.lst 5 (d.map encDu)), .agg (encLy x)] [] (.c (.int .i64 (cabErr d x))) [] := by
  have hlm : (x.ducts.map encS).length = x.ducts.length := List.length_map ..
  refine fn_sound (mt := mts) tab_fits tab_mixed Tryz.func142 (by rfl) (by kernel_rfl) (by kernel_rfl) Tryz.results142 (Nat.le_of_ble_eq_true (by kernel_rfl)) ?_
  conv => whnf
  repeat' (first | (refine Split.mk (fun h => ?_) (fun h => ?_) <;> (try simp only [decide_eq_true_eq, decide_eq_false_iff_not, Bool.not_eq_true', Bool.not_eq_false', beq_iff_eq, beq_eq_false_iff_ne, bne_iff_ne, bne_eq_false_iff_eq] at h) <;> (first | (exfalso; first | omega | exact h trivial) | (conv => whnf))) | (refine CondG.mk (fun h => ?_) (fun h => ?_) <;> (try simp only [decide_eq_true_eq, decide_eq_false_iff_not, Bool.not_eq_true', Bool.not_eq_false', beq_iff_eq, beq_eq_false_iff_ne, bne_iff_ne, bne_eq_false_iff_eq] at h) <;> (first | (exfalso; first | omega | exact h trivial) | (conv => whnf))) | (refine CallX.mk _ _ (by first | exact bOut_pc _ _ _) ?_; conv => whnf) | (refine CallG.mk _ _ (by first | exact bOut_pc _ _ _) ?_; conv => whnf) | (refine Ask.mk (by first | omega | (unfold roomOK; simp [cutRows]; done) | (unfold roomOK; simp [cutRows]; omega) | (simp [cutRows]; done) | (simp [cutRows]; omega)) ?_; conv => whnf) | (refine AppG.mk (by first | omega | (unfold roomOK; simp [cutRows]; done) | (unfold roomOK; simp [cutRows]; omega) | (simp [cutRows]; done) | (simp [cutRows]; omega)) ?_; conv => whnf) | (refine SliceG.fr ?_; conv => whnf) | (refine idx_at _ (by with_reducible rfl) (by first | assumption | omega) ?_; conv => whnf) | ((with_reducible refine row_map (by first | assumption | omega) ?_); conv => whnf) | ((with_reducible refine row_set (by first | assumption | omega | (simp only [List.length_set]; omega) | (simp; omega)) ?_); conv => whnf) | fail)
  · exact fini (by rw [cabErr, if_pos h])
  · exact fini (by rw [cabErr, if_neg (by assumption), if_pos (by omega)])
  · exact fini (by rw [cabErr, if_neg (by assumption), if_neg (by omega), if_pos (by omega)])
  have hF : cabErr d x = seqErr (keyErr (hasD d)) id true ⟨#[]⟩ x.ducts := by rw [cabErr, if_neg (by assumption), if_neg (by omega), if_neg (by omega)]
  refine loop_for (x.ducts.length) [] [0, 3, 24, 25, 26] (fun k (_ : Unit) => [(26, .c (.int .i64 (k : Int)))]) (fun k (_ : Unit) => []) (fun k (_ : Unit) => seqErr (keyErr (hasD d)) id (decide (k = 0)) (befK id x.ducts k) (x.ducts.drop k) = cabErr d x) (()) ?_
  conv => whnf
  refine ⟨(by first | rfl | (simp; done) | (simp; rfl)), ?_, ?_, ?_⟩
  · exact hF.symm
  · intro k _ hk hi
    conv => whnf
    repeat' (first | (refine Split.mk (fun h => ?_) (fun h => ?_) <;> (try simp only [decide_eq_true_eq, decide_eq_false_iff_not, Bool.not_eq_true', Bool.not_eq_false', beq_iff_eq, beq_eq_false_iff_ne, bne_iff_ne, bne_eq_false_iff_eq] at h) <;> (first | (exfalso; first | omega | exact h trivial) | (conv => whnf))) | (refine CondG.mk (fun h => ?_) (fun h => ?_) <;> (try simp only [decide_eq_true_eq, decide_eq_false_iff_not, Bool.not_eq_true', Bool.not_eq_false', beq_iff_eq, beq_eq_false_iff_ne, bne_iff_ne, bne_eq_false_iff_eq] at h) <;> (first | (exfalso; first | omega | exact h trivial) | (conv => whnf))) | (refine CallX.mk _ _ (by first | exact find_pc d hd _) ?_; conv => whnf) | (refine CallG.mk _ _ (by first | exact find_pc d hd _) ?_; conv => whnf) | (refine Ask.mk (by first | omega | (unfold roomOK; simp [cutRows]; done) | (unfold roomOK; simp [cutRows]; omega) | (simp [cutRows]; done) | (simp [cutRows]; omega)) ?_; conv => whnf) | (refine AppG.mk (by first | omega | (unfold roomOK; simp [cutRows]; done) | (unfold roomOK; simp [cutRows]; omega) | (simp [cutRows]; done) | (simp [cutRows]; omega)) ?_; conv => whnf) | (refine SliceG.fr ?_; conv => whnf) | (refine idx_at _ (by with_reducible rfl) (by first | assumption | omega) ?_; conv => whnf) | ((with_reducible refine row_map (by first | assumption | omega) ?_); conv => whnf) | ((with_reducible refine row_set (by first | assumption | omega | (simp only [List.length_set]; omega) | (simp; omega)) ?_); conv => whnf) | ((refine idx_map (k - 1) (by omega) (by rw [wrap_in (by omega) (by omega)]; omega) ?_); conv => whnf) | fail)
    all_goals try simp only [toList_eq'] at *
    all_goals have hb := befK_pos (key := id) (l := x.ducts) (Nat.le_of_lt hk)
    all_goals first
      | (refine fini (seq_hit hk hi ?_ (by decide)); clear hi hF; unfold keyErr; (try rw [hb (by omega)]); (repeat' split) <;> first | rfl | (exfalso; first | omega | (simp_all [leB, toList_eq']; done) | (simp_all [leB, toList_eq']; omega)))
      | (refine count_next () hk (by rw [wrap_succ hk (by omega)]; rfl) (seq_next' hk hi ?_); clear hi hF; unfold keyErr; (try rw [hb (by omega)]); (repeat' split) <;> first | rfl | (exfalso; first | omega | (simp_all [leB, toList_eq']; done) | (simp_all [leB, toList_eq']; omega)))
  · intro _ hi
    conv => whnf
    repeat' (first | (refine Split.mk (fun h => ?_) (fun h => ?_) <;> (try simp only [decide_eq_true_eq, decide_eq_false_iff_not, Bool.not_eq_true', Bool.not_eq_false', beq_iff_eq, beq_eq_false_iff_ne, bne_iff_ne, bne_eq_false_iff_eq] at h) <;> (first | (exfalso; first | omega | exact h trivial) | (conv => whnf))) | (refine CondG.mk (fun h => ?_) (fun h => ?_) <;> (try simp only [decide_eq_true_eq, decide_eq_false_iff_not, Bool.not_eq_true', Bool.not_eq_false', beq_iff_eq, beq_eq_false_iff_ne, bne_iff_ne, bne_eq_false_iff_eq] at h) <;> (first | (exfalso; first | omega | exact h trivial) | (conv => whnf))) | (refine Ask.mk (by first | omega | (unfold roomOK; simp [cutRows]; done) | (unfold roomOK; simp [cutRows]; omega) | (simp [cutRows]; done) | (simp [cutRows]; omega)) ?_; conv => whnf) | (refine AppG.mk (by first | omega | (unfold roomOK; simp [cutRows]; done) | (unfold roomOK; simp [cutRows]; omega) | (simp [cutRows]; done) | (simp [cutRows]; omega)) ?_; conv => whnf) | (refine SliceG.fr ?_; conv => whnf) | (refine idx_at _ (by with_reducible rfl) (by first | assumption | omega) ?_; conv => whnf) | ((with_reducible refine row_map (by first | assumption | omega) ?_); conv => whnf) | ((with_reducible refine row_set (by first | assumption | omega | (simp only [List.length_set]; omega) | (simp; omega)) ?_); conv => whnf) | fail)
    exact fini (seq_end hi).symm
end Go.Proofs.YtllpjcgadfmipaaGreat

/- Cables in ducts: checked by the program. -/
namespace Go.Proofs.YtllpjcgadfmipaaGreat
set_option linter.unusedVariables false
set_option linter.unusedSimpArgs false
open Abs

structure CntOk (m : SM ByteArray Int) (ks : List ByteArray) : Prop where
  ok : m.ok
  cnt : ∀ k, (m.get k).getD 0 = (ks.count k : Nat)
theorem CntOk.nil : CntOk SM.nil [] := ⟨SM.ok_nil, fun k => by rw [SM.get_nil]; rfl⟩
theorem CntOk.push {m : SM ByteArray Int} {ks : List ByteArray} (h : CntOk m ks) (k : ByteArray) : CntOk (m.put k ((ks.count k + 1 : Nat) : Int)) (ks ++ [k]) := by
  refine ⟨h.ok.put _ _, fun x => ?_⟩
  rw [SM.get_put, List.count_append]
  by_cases e : k = x
  · subst e; simp
  · have : [k].count x = 0 := by rw [List.count_eq_zero]; simpa using fun h => e h.symm
    rw [if_neg e, h.cnt, this]; rfl
set_option maxRecDepth 100000 in
set_option maxHeartbeats 4000000 in
theorem checkLying_pc (d : List Du) (l : List Ly) (hx : ∀ x ∈ l, x.ducts.length ≤ 1000000) : PCp 88 [.c (.lst 5 (d.map encDu)), .c (.lst 3 (l.map encLy))] [] (.c (.int .i64 (lyFault d l))) [] := by
  have hlm : (l.map encLy).length = l.length := List.length_map ..
  refine fn_sound (mt := mts) tab_fits tab_mixed Tryz.func88 (by rfl) (by kernel_rfl) (by kernel_rfl) Tryz.results88 (Nat.le_of_ble_eq_true (by kernel_rfl)) ?_
  conv => whnf
  repeat' (first | (refine Split.mk (fun h => ?_) (fun h => ?_) <;> (try simp only [decide_eq_true_eq, decide_eq_false_iff_not, Bool.not_eq_true', Bool.not_eq_false', beq_iff_eq, beq_eq_false_iff_ne, bne_iff_ne, bne_eq_false_iff_eq] at h) <;> (first | (exfalso; first | omega | exact h trivial) | (conv => whnf))) | (refine CondG.mk (fun h => ?_) (fun h => ?_) <;> (try simp only [decide_eq_true_eq, decide_eq_false_iff_not, Bool.not_eq_true', Bool.not_eq_false', beq_iff_eq, beq_eq_false_iff_ne, bne_iff_ne, bne_eq_false_iff_eq] at h) <;> (first | (exfalso; first | omega | exact h trivial) | (conv => whnf))) | (refine CallX.mk _ _ (by first | exact checkDucts_pc d) ?_; conv => whnf) | (refine CallG.mk _ _ (by first | exact checkDucts_pc d) ?_; conv => whnf) | (refine Ask.mk (by first | omega | (unfold roomOK; simp [cutRows]; done) | (unfold roomOK; simp [cutRows]; omega) | (simp [cutRows]; done) | (simp [cutRows]; omega)) ?_; conv => whnf) | (refine AppG.mk (by first | omega | (unfold roomOK; simp [cutRows]; done) | (unfold roomOK; simp [cutRows]; omega) | (simp [cutRows]; done) | (simp [cutRows]; omega)) ?_; conv => whnf) | (refine SliceG.fr ?_; conv => whnf) | (refine idx_at _ (by with_reducible rfl) (by first | assumption | omega) ?_; conv => whnf) | ((with_reducible refine row_map (by first | assumption | omega) ?_); conv => whnf) | ((with_reducible refine row_set (by first | assumption | omega | (simp only [List.length_set]; omega) | (simp; omega)) ?_); conv => whnf) | fail)
  · exact fini (by rw [lyFault, if_pos h])
  · exact fini (by rw [lyFault, if_neg (by simp_all), if_pos (by omega)])
  rename_i hd0
  have hd0 : duFault d = 0 := by simpa using hd0
  have hd := duFault_ok hd0
  have hF : lyFault d l = if lysErr d l ≠ 0 then lysErr d l else if fullL d l then 12 else 0 := by rw [lyFault, if_neg (by simp [hd0]), if_neg (by omega)]
  refine loop_for (l.length) [] [0, 1, 6, 7, 22, 23, 24] (fun k (m : SM ByteArray Int) => [(7, .c (.bool (manyB ((l.take k).flatMap Ly.ducts)))), (24, .c (.int .i64 (k : Int)))]) (fun k (m : SM ByteArray Int) => [(0, smO ekS evI m)]) (fun k (m : SM ByteArray Int) => CntOk m ((l.take k).flatMap Ly.ducts) ∧ ((l.take k).flatMap Ly.ducts).length ≤ 300 * k ∧ seqErr (lyErr d) Ly.cable (decide (k = 0)) (befK Ly.cable l k) (l.drop k) = lysErr d l) (SM.nil) ?_
  conv => whnf
  refine ⟨(by first | rfl | (simp; done) | (simp; rfl)), ?_, ?_, ?_⟩
  · exact ⟨CntOk.nil, by simp, rfl⟩
  · intro k m hk ⟨hm, hn, hi⟩
    have hb := befK_pos (key := Ly.cable) (l := l) (Nat.le_of_lt hk)
    conv => whnf
    repeat' (first | (refine Split.mk (fun h => ?_) (fun h => ?_) <;> (try simp only [decide_eq_true_eq, decide_eq_false_iff_not, Bool.not_eq_true', Bool.not_eq_false', beq_iff_eq, beq_eq_false_iff_ne, bne_iff_ne, bne_eq_false_iff_eq] at h) <;> (first | (exfalso; first | omega | exact h trivial) | (conv => whnf))) | (refine CondG.mk (fun h => ?_) (fun h => ?_) <;> (try simp only [decide_eq_true_eq, decide_eq_false_iff_not, Bool.not_eq_true', Bool.not_eq_false', beq_iff_eq, beq_eq_false_iff_ne, bne_iff_ne, bne_eq_false_iff_eq] at h) <;> (first | (exfalso; first | omega | exact h trivial) | (conv => whnf))) | (refine CallX.mk _ _ (by first | exact bKey_pc _ | exact cableFault_pc d hd l[k] (hx _ (List.getElem_mem hk))) ?_; conv => whnf) | (refine CallG.mk _ _ (by first | exact bKey_pc _ | exact cableFault_pc d hd l[k] (hx _ (List.getElem_mem hk))) ?_; conv => whnf) | (refine Ask.mk (by first | omega | (unfold roomOK; simp [cutRows]; done) | (unfold roomOK; simp [cutRows]; omega) | (simp [cutRows]; done) | (simp [cutRows]; omega)) ?_; conv => whnf) | (refine AppG.mk (by first | omega | (unfold roomOK; simp [cutRows]; done) | (unfold roomOK; simp [cutRows]; omega) | (simp [cutRows]; done) | (simp [cutRows]; omega)) ?_; conv => whnf) | (refine SliceG.fr ?_; conv => whnf) | (refine idx_at _ (by with_reducible rfl) (by first | assumption | omega) ?_; conv => whnf) | ((with_reducible refine row_map (by first | assumption | omega) ?_); conv => whnf) | ((with_reducible refine row_set (by first | assumption | omega | (simp only [List.length_set]; omega) | (simp; omega)) ?_); conv => whnf) | ((refine idx_map (k - 1) (by omega) (by rw [wrap_in (by omega) (by omega)]; omega) ?_); conv => whnf) | fail)
    all_goals try simp only [toList_eq'] at *
    all_goals first
      | (have he : lyErr d (decide (k = 0)) (befK Ly.cable l k) l[k] = 5 := by (unfold lyErr; clear hi hF; (try rw [hb (by omega)]); (repeat' split) <;> first | rfl | (exfalso; first | omega | (simp_all [leB, toList_eq']; done) | (simp_all [leB, toList_eq']; omega)))
         have h9 := seq_hit hk hi he (by decide)
         exact fini (by rw [hF, if_pos (by omega)]; exact h9))
      | (have he : lyErr d (decide (k = 0)) (befK Ly.cable l k) l[k] = 7 := by (unfold lyErr; clear hi hF; (try rw [hb (by omega)]); (repeat' split) <;> first | rfl | (exfalso; first | omega | (simp_all [leB, toList_eq']; done) | (simp_all [leB, toList_eq']; omega)))
         have h9 := seq_hit hk hi he (by decide)
         exact fini (by rw [hF, if_pos (by omega)]; exact h9))
      | (have he : lyErr d (decide (k = 0)) (befK Ly.cable l k) l[k] = cabErr d l[k] := by (unfold lyErr; clear hi hF; (try rw [hb (by omega)]); (repeat' split) <;> first | rfl | (exfalso; first | omega | (simp_all [leB, toList_eq']; done) | (simp_all [leB, toList_eq']; omega)))
         have h9 := seq_hit hk hi he (by assumption)
         exact fini (by rw [hF, if_pos (by omega)]; exact h9))
      | skip
    all_goals
      have he : lyErr d (decide (k = 0)) (befK Ly.cable l k) l[k] = 0 := by (unfold lyErr; clear hi hF; (try rw [hb (by omega)]); (repeat' split) <;> first | rfl | assumption | (exfalso; first | omega | (simp_all [leB, toList_eq']; done) | (simp_all [leB, toList_eq']; omega)))
      have hX := (lyErr_ok he).1
      have hxl := hX.len
      have hxm : (l[k].ducts.map encS).length = l[k].ducts.length := List.length_map ..
      have hnx := seq_next' hk hi he
      have hft : (l.take (k + 1)).flatMap Ly.ducts = (l.take k).flatMap Ly.ducts ++ l[k].ducts := by rw [List.take_succ_eq_append_getElem hk, List.flatMap_append, List.flatMap_cons, List.flatMap_nil, List.append_nil]
      generalize (l.take k).flatMap Ly.ducts = A at *
      refine loop_for (l[k].ducts.length) [] [0, 1, 6, 7, 22, 23, 24, 55, 56, 57] (fun j (m' : SM ByteArray Int) => [(7, .c (.bool (manyB (A ++ l[k].ducts.take j)))), (57, .c (.int .i64 (j : Int)))]) (fun j (m' : SM ByteArray Int) => [(0, smO ekS evI m')]) (fun j (m' : SM ByteArray Int) => CntOk m' (A ++ l[k].ducts.take j)) (m) ?_
      conv => whnf
      refine ⟨?_, ?_, ?_, ?_⟩
      · rw [List.take_zero, List.append_nil]; rfl
      · simpa using hm
      · intro j m' hj hm'
        have htj : A ++ l[k].ducts.take (j + 1) = A ++ l[k].ducts.take j ++ [l[k].ducts[j]] := by rw [List.take_succ_eq_append_getElem hj, List.append_assoc]
        have hlen : (A ++ l[k].ducts.take j).count l[k].ducts[j] ≤ 300 * k + 300 := Nat.le_trans List.count_le_length (by rw [List.length_append, List.length_take]; omega)
        have hmp := many_push (A ++ l[k].ducts.take j) l[k].ducts[j]
        rw [← htj] at hmp
        conv => whnf
        repeat' (first | (refine Split.mk (fun h => ?_) (fun h => ?_) <;> (try simp only [decide_eq_true_eq, decide_eq_false_iff_not, Bool.not_eq_true', Bool.not_eq_false', beq_iff_eq, beq_eq_false_iff_ne, bne_iff_ne, bne_eq_false_iff_eq] at h) <;> (first | (exfalso; first | omega | exact h trivial) | (conv => whnf))) | (refine CondG.mk (fun h => ?_) (fun h => ?_) <;> (try simp only [decide_eq_true_eq, decide_eq_false_iff_not, Bool.not_eq_true', Bool.not_eq_false', beq_iff_eq, beq_eq_false_iff_ne, bne_iff_ne, bne_eq_false_iff_eq] at h) <;> (first | (exfalso; first | omega | exact h trivial) | (conv => whnf))) | (refine Ask.mk (by first | omega | (unfold roomOK; simp [cutRows]; done) | (unfold roomOK; simp [cutRows]; omega) | (simp [cutRows]; done) | (simp [cutRows]; omega)) ?_; conv => whnf) | (refine AppG.mk (by first | omega | (unfold roomOK; simp [cutRows]; done) | (unfold roomOK; simp [cutRows]; omega) | (simp [cutRows]; done) | (simp [cutRows]; omega)) ?_; conv => whnf) | (refine SliceG.fr ?_; conv => whnf) | (refine idx_at _ (by with_reducible rfl) (by first | assumption | omega) ?_; conv => whnf) | ((with_reducible refine row_map (by first | assumption | omega) ?_); conv => whnf) | ((with_reducible refine row_set (by first | assumption | omega | (simp only [List.length_set]; omega) | (simp; omega)) ?_); conv => whnf) | ((with_reducible refine sm_look (ek := ekS) (ev := evI) keyStr _ _ ((0 : Int)) ?_ ?_); exact rfl; conv => whnf) | ((with_reducible refine sm_upd (ek := ekS) (ev := evI) keyStr _ _ _ ?_); conv => whnf) | ((with_reducible refine sm_del (ek := ekS) (ev := evI) keyStr _ _ ?_); conv => whnf) | ((with_reducible refine sm_entry (ek := ekS) (ev := evI) keyStr _ _ ((0 : Int)) ?_ ?_); exact rfl; conv => whnf) | fail)
        all_goals
          generalize hc : (A ++ l[k].ducts.take j).count l[k].ducts[j] = c at *
          have hcm : (m'.get l[k].ducts[j]).getD 0 = (c : Nat) := by rw [hm'.cnt, hc]
          have hw : IntKind.i64.wrap ((m'.get l[k].ducts[j]).getD 0 + 1) = ((c + 1 : Nat) : Int) := by rw [hcm, wrap_in (by omega) (by omega)]; rfl
          have hg : ((m'.put l[k].ducts[j] ((c + 1 : Nat) : Int)).get l[k].ducts[j]).getD 0 = ((c + 1 : Nat) : Int) := by rw [SM.get_put, if_pos rfl]; rfl
          have hdc : decide ((20 : Int) < ((c + 1 : Nat) : Int)) = decide (20 < c + 1) := by rw [decide_eq_decide]; omega
          have hok := hm'.push l[k].ducts[j]
          rw [hc, ← htj] at hok
          rw [hw]
        · exact count_next _ hj (by rw [wrap_succ hj (by omega), hmp, h]; rfl) hok
        · rw [hg, hdc]
          exact count_next _ hj (by rw [wrap_succ hj (by omega), hmp, h]; rfl) hok
      · intro m' hm'
        rw [List.take_length] at *
        conv => whnf
        repeat' (first | (refine Split.mk (fun h => ?_) (fun h => ?_) <;> (try simp only [decide_eq_true_eq, decide_eq_false_iff_not, Bool.not_eq_true', Bool.not_eq_false', beq_iff_eq, beq_eq_false_iff_ne, bne_iff_ne, bne_eq_false_iff_eq] at h) <;> (first | (exfalso; first | omega | exact h trivial) | (conv => whnf))) | (refine CondG.mk (fun h => ?_) (fun h => ?_) <;> (try simp only [decide_eq_true_eq, decide_eq_false_iff_not, Bool.not_eq_true', Bool.not_eq_false', beq_iff_eq, beq_eq_false_iff_ne, bne_iff_ne, bne_eq_false_iff_eq] at h) <;> (first | (exfalso; first | omega | exact h trivial) | (conv => whnf))) | (refine Ask.mk (by first | omega | (unfold roomOK; simp [cutRows]; done) | (unfold roomOK; simp [cutRows]; omega) | (simp [cutRows]; done) | (simp [cutRows]; omega)) ?_; conv => whnf) | (refine AppG.mk (by first | omega | (unfold roomOK; simp [cutRows]; done) | (unfold roomOK; simp [cutRows]; omega) | (simp [cutRows]; done) | (simp [cutRows]; omega)) ?_; conv => whnf) | (refine SliceG.fr ?_; conv => whnf) | (refine idx_at _ (by with_reducible rfl) (by first | assumption | omega) ?_; conv => whnf) | ((with_reducible refine row_map (by first | assumption | omega) ?_); conv => whnf) | ((with_reducible refine row_set (by first | assumption | omega | (simp only [List.length_set]; omega) | (simp; omega)) ?_); conv => whnf) | fail)
        exact count_next m' hk (by rw [wrap_succ hk (by omega), hft]; rfl) ⟨by rw [hft]; exact hm', by rw [hft, List.length_append]; omega, hnx⟩
  · intro m ⟨hm, hn, hi⟩
    rw [List.take_length] at *
    have h0 := seq_end hi
    have hall := many_full (lysErr_ok h0).2
    conv => whnf
    repeat' (first | (refine Split.mk (fun h => ?_) (fun h => ?_) <;> (try simp only [decide_eq_true_eq, decide_eq_false_iff_not, Bool.not_eq_true', Bool.not_eq_false', beq_iff_eq, beq_eq_false_iff_ne, bne_iff_ne, bne_eq_false_iff_eq] at h) <;> (first | (exfalso; first | omega | exact h trivial) | (conv => whnf))) | (refine CondG.mk (fun h => ?_) (fun h => ?_) <;> (try simp only [decide_eq_true_eq, decide_eq_false_iff_not, Bool.not_eq_true', Bool.not_eq_false', beq_iff_eq, beq_eq_false_iff_ne, bne_iff_ne, bne_eq_false_iff_eq] at h) <;> (first | (exfalso; first | omega | exact h trivial) | (conv => whnf))) | (refine Ask.mk (by first | omega | (unfold roomOK; simp [cutRows]; done) | (unfold roomOK; simp [cutRows]; omega) | (simp [cutRows]; done) | (simp [cutRows]; omega)) ?_; conv => whnf) | (refine AppG.mk (by first | omega | (unfold roomOK; simp [cutRows]; done) | (unfold roomOK; simp [cutRows]; omega) | (simp [cutRows]; done) | (simp [cutRows]; omega)) ?_; conv => whnf) | (refine SliceG.fr ?_; conv => whnf) | (refine idx_at _ (by with_reducible rfl) (by first | assumption | omega) ?_; conv => whnf) | ((with_reducible refine row_map (by first | assumption | omega) ?_); conv => whnf) | ((with_reducible refine row_set (by first | assumption | omega | (simp only [List.length_set]; omega) | (simp; omega)) ?_); conv => whnf) | fail)
    · exact fini (by rw [hF, if_neg (by simp [h0]), if_pos (by rw [← hall]; exact h)])
    · exact fini (by rw [hF, if_neg (by simp [h0]), if_neg (by rw [← hall, h]; decide)])
end Go.Proofs.YtllpjcgadfmipaaGreat

/- Cables in ducts: by the document; what lies in a duct. -/
namespace Go.Proofs.YtllpjcgadfmipaaGreat
set_option linter.unusedVariables false
set_option linter.unusedSimpArgs false
open Abs

def cabsL (l : List Ly) (k : ByteArray) : List ByteArray := (inL l k).map Ly.cable
theorem inL_take {l : List Ly} {k : Nat} (h : k < l.length) (key : ByteArray) : inL (l.take (k + 1)) key = inL (l.take k) key ++ (if key ∈ l[k].ducts then [l[k]] else []) := by
  unfold inL
  rw [List.take_succ_eq_append_getElem h, List.filter_append]
  by_cases e : key ∈ l[k].ducts <;> simp [e]
theorem inL_len (l : List Ly) (key : ByteArray) : (inL l key).length ≤ l.length := List.length_filter_le _ _
set_option maxRecDepth 100000 in
set_option maxHeartbeats 4000000 in
theorem lyingIn_pc (l : List Ly) (hl : l.length ≤ 1000000) (hx : ∀ x ∈ l, x.ducts.length ≤ 1000000) (key : ByteArray) : PCp 137 [.c (.lst 3 (l.map encLy)), .c (.str key)] [] (.c (.lst 1 ((cabsL l key).map encS))) [] := by
  have hlm : (l.map encLy).length = l.length := List.length_map ..
  refine fn_sound (mt := mts) tab_fits tab_mixed Tryz.func137 (by rfl) (by kernel_rfl) (by kernel_rfl) Tryz.results137 (Nat.le_of_ble_eq_true (by kernel_rfl)) ?_
  conv => whnf
  refine loop_for (l.length) [.sl 5 9 1] [1, 5, 8, 9, 10] (fun k (_ : Unit) => [(10, .c (.int .i64 (k : Int)))]) (fun k (_ : Unit) => [(0, .row 9 1 ((cabsL (l.take k) key).map encS))]) (fun k (_ : Unit) => True) (()) ?_
  conv => whnf
  refine ⟨(by first | rfl | (simp; done) | (simp; rfl)), (by trivial), ?_, ?_⟩
  · intro k _ hk _
    have hle := inL_len (l.take k) key
    have hcm : ((cabsL (l.take k) key).map encS).length = (inL (l.take k) key).length := by simp [cabsL]
    have hcl : (cabsL (l.take k) key).length = (inL (l.take k) key).length := by simp [cabsL]
    have htl : (l.take k).length = k := by rw [List.length_take]; omega
    have ht := inL_take hk key
    conv => whnf
    repeat' (first | (refine Split.mk (fun h => ?_) (fun h => ?_) <;> (try simp only [decide_eq_true_eq, decide_eq_false_iff_not, Bool.not_eq_true', Bool.not_eq_false', beq_iff_eq, beq_eq_false_iff_ne, bne_iff_ne, bne_eq_false_iff_eq] at h) <;> (first | (exfalso; first | omega | exact h trivial) | (conv => whnf))) | (refine CondG.mk (fun h => ?_) (fun h => ?_) <;> (try simp only [decide_eq_true_eq, decide_eq_false_iff_not, Bool.not_eq_true', Bool.not_eq_false', beq_iff_eq, beq_eq_false_iff_ne, bne_iff_ne, bne_eq_false_iff_eq] at h) <;> (first | (exfalso; first | omega | exact h trivial) | (conv => whnf))) | (refine CallX.mk _ _ (by first | exact containsS_pc key _ (hx _ (List.getElem_mem hk))) ?_; conv => whnf) | (refine CallG.mk _ _ (by first | exact containsS_pc key _ (hx _ (List.getElem_mem hk))) ?_; conv => whnf) | (refine Ask.mk (by first | omega | (unfold roomOK; simp [cutRows]; done) | (unfold roomOK; simp [cutRows]; omega) | (simp [cutRows]; done) | (simp [cutRows]; omega)) ?_; conv => whnf) | (refine AppG.mk (by first | omega | (unfold roomOK; simp [cutRows]; done) | (unfold roomOK; simp [cutRows]; omega) | (simp [cutRows]; done) | (simp [cutRows]; omega)) ?_; conv => whnf) | (refine SliceG.fr ?_; conv => whnf) | (refine idx_at _ (by with_reducible rfl) (by first | assumption | omega) ?_; conv => whnf) | ((with_reducible refine row_map (by first | assumption | omega) ?_); conv => whnf) | ((with_reducible refine row_set (by first | assumption | omega | (simp only [List.length_set]; omega) | (simp; omega)) ?_); conv => whnf) | fail)
    · have h9 : cabsL (l.take (k + 1)) key = cabsL (l.take k) key ++ [l[k].cable] := by unfold cabsL; rw [ht, if_pos h, List.map_append]; rfl
      exact count_next () hk (by rw [wrap_succ hk (by omega), h9, List.map_append]; rfl) trivial
    · have h9 : cabsL (l.take (k + 1)) key = cabsL (l.take k) key := by unfold cabsL; rw [ht, if_neg h, List.append_nil]
      exact count_next () hk (by rw [wrap_succ hk (by omega), h9]; rfl) trivial
  · intro _ _
    rw [List.take_length]
    conv => whnf
    repeat' (first | (refine Split.mk (fun h => ?_) (fun h => ?_) <;> (try simp only [decide_eq_true_eq, decide_eq_false_iff_not, Bool.not_eq_true', Bool.not_eq_false', beq_iff_eq, beq_eq_false_iff_ne, bne_iff_ne, bne_eq_false_iff_eq] at h) <;> (first | (exfalso; first | omega | exact h trivial) | (conv => whnf))) | (refine CondG.mk (fun h => ?_) (fun h => ?_) <;> (try simp only [decide_eq_true_eq, decide_eq_false_iff_not, Bool.not_eq_true', Bool.not_eq_false', beq_iff_eq, beq_eq_false_iff_ne, bne_iff_ne, bne_eq_false_iff_eq] at h) <;> (first | (exfalso; first | omega | exact h trivial) | (conv => whnf))) | (refine Ask.mk (by first | omega | (unfold roomOK; simp [cutRows]; done) | (unfold roomOK; simp [cutRows]; omega) | (simp [cutRows]; done) | (simp [cutRows]; omega)) ?_; conv => whnf) | (refine AppG.mk (by first | omega | (unfold roomOK; simp [cutRows]; done) | (unfold roomOK; simp [cutRows]; omega) | (simp [cutRows]; done) | (simp [cutRows]; omega)) ?_; conv => whnf) | (refine SliceG.fr ?_; conv => whnf) | (refine idx_at _ (by with_reducible rfl) (by first | assumption | omega) ?_; conv => whnf) | ((with_reducible refine row_map (by first | assumption | omega) ?_); conv => whnf) | ((with_reducible refine row_set (by first | assumption | omega | (simp only [List.length_set]; omega) | (simp; omega)) ?_); conv => whnf) | fail)
    exact .frz 0 _ _ _ rfl (.weak [_] (.fro 0 _ _ rfl) rfl (Nat.le_refl _))
set_option maxRecDepth 100000 in
set_option maxHeartbeats 4000000 in
theorem rFault1_pc (l : List Ly) (hl : l.length ≤ 1000000) (hx : ∀ x ∈ l, x.ducts.length ≤ 1000000) (x : Du) : PCp 136 [.agg (encDu x), .c (.ptr 0 0)] [.box [.lst 3 (l.map encLy)]] (.c (.bool (decide (20 < (inL l x.key).length)))) [.box [.lst 3 (l.map encLy)]] := by
  have hcm : ((cabsL l x.key).map encS).length = (inL l x.key).length := by simp [cabsL]
  refine fn_sound (mt := mts) tab_fits tab_mixed Tryz.func136 (by rfl) (by kernel_rfl) (by kernel_rfl) Tryz.results136 (Nat.le_of_ble_eq_true (by kernel_rfl)) ?_
  conv => whnf
  repeat' (first | (refine Split.mk (fun h => ?_) (fun h => ?_) <;> (try simp only [decide_eq_true_eq, decide_eq_false_iff_not, Bool.not_eq_true', Bool.not_eq_false', beq_iff_eq, beq_eq_false_iff_ne, bne_iff_ne, bne_eq_false_iff_eq] at h) <;> (first | (exfalso; first | omega | exact h trivial) | (conv => whnf))) | (refine CondG.mk (fun h => ?_) (fun h => ?_) <;> (try simp only [decide_eq_true_eq, decide_eq_false_iff_not, Bool.not_eq_true', Bool.not_eq_false', beq_iff_eq, beq_eq_false_iff_ne, bne_iff_ne, bne_eq_false_iff_eq] at h) <;> (first | (exfalso; first | omega | exact h trivial) | (conv => whnf))) | (refine CallX.mk _ _ (by first | exact lyingIn_pc l hl hx _) ?_; conv => whnf) | (refine CallG.mk _ _ (by first | exact lyingIn_pc l hl hx _) ?_; conv => whnf) | (refine Ask.mk (by first | omega | (unfold roomOK; simp [cutRows]; done) | (unfold roomOK; simp [cutRows]; omega) | (simp [cutRows]; done) | (simp [cutRows]; omega)) ?_; conv => whnf) | (refine AppG.mk (by first | omega | (unfold roomOK; simp [cutRows]; done) | (unfold roomOK; simp [cutRows]; omega) | (simp [cutRows]; done) | (simp [cutRows]; omega)) ?_; conv => whnf) | (refine SliceG.fr ?_; conv => whnf) | (refine idx_at _ (by with_reducible rfl) (by first | assumption | omega) ?_; conv => whnf) | ((with_reducible refine row_map (by first | assumption | omega) ?_); conv => whnf) | ((with_reducible refine row_set (by first | assumption | omega | (simp only [List.length_set]; omega) | (simp; omega)) ?_); conv => whnf) | fail)
  exact .mk ⟨by rw [hcm, show decide ((20 : Int) < ((inL l x.key).length : Nat)) = decide (20 < (inL l x.key).length) from by rw [decide_eq_decide]; omega]; rfl, rfl⟩
set_option maxRecDepth 100000 in
set_option maxHeartbeats 4000000 in
theorem ixDuL_pc (q : List Ly) (g : Nat) (p : Du → Bool) (l : List Du) (hl : l.length ≤ 1000000) (hg : ∀ x ∈ l, PCp g [.agg (encDu x), .c (.ptr 0 0)] [.box [.lst 3 (q.map encLy)]] (.c (.bool (p x))) [.box [.lst 3 (q.map encLy)]]) : PCp 184 [.c (.lst 5 (l.map encDu)), .c (.fn g [.ptr 0 0])] [.box [.lst 3 (q.map encLy)]] (.c (.int .i64 (idxP p l))) [.box [.lst 3 (q.map encLy)]] := by
  have hlm : (l.map encDu).length = l.length := List.length_map ..
  refine fn_sound (mt := mts) tab_fits tab_mixed Tryz.func184 (by rfl) (by kernel_rfl) (by kernel_rfl) Tryz.results184 (Nat.le_of_ble_eq_true (by kernel_rfl)) ?_
  conv => whnf
  refine loop_count (l.length) [] [0, 1, 7, 8] (fun k (_ : Unit) => ⟨[(0, .c (.lst 5 (l.map encDu))), (1, .c (.fn g [.ptr 0 0])), (7, .c (.int .i64 (l.map encDu).length)), (8, .c (.int .i64 k))], [(0, .box [.lst 3 (q.map encLy)])], 1⟩) (fun k (_ : Unit) => ∀ i (hi : i < l.length), i < k → p l[i] = false) (()) ?_ ?_ ?_
  · conv => whnf
    exact ⟨rfl, by intro i hi h; omega⟩
  · intro k _ hk hi
    conv => whnf
    repeat' (first | (refine Split.mk (fun h => ?_) (fun h => ?_) <;> (try simp only [decide_eq_true_eq, decide_eq_false_iff_not, Bool.not_eq_true', Bool.not_eq_false', beq_iff_eq, beq_eq_false_iff_ne, bne_iff_ne, bne_eq_false_iff_eq] at h) <;> (first | (exfalso; first | omega | exact h trivial) | (conv => whnf))) | (refine CondG.mk (fun h => ?_) (fun h => ?_) <;> (try simp only [decide_eq_true_eq, decide_eq_false_iff_not, Bool.not_eq_true', Bool.not_eq_false', beq_iff_eq, beq_eq_false_iff_ne, bne_iff_ne, bne_eq_false_iff_eq] at h) <;> (first | (exfalso; first | omega | exact h trivial) | (conv => whnf))) | (refine CallX.mk _ _ (by first | exact hg l[k] (List.getElem_mem hk)) ?_; conv => whnf) | (refine CallG.mk _ _ (by first | exact hg l[k] (List.getElem_mem hk)) ?_; conv => whnf) | (refine Ask.mk (by first | omega | (unfold roomOK; simp [cutRows]; done) | (unfold roomOK; simp [cutRows]; omega) | (simp [cutRows]; done) | (simp [cutRows]; omega)) ?_; conv => whnf) | (refine AppG.mk (by first | omega | (unfold roomOK; simp [cutRows]; done) | (unfold roomOK; simp [cutRows]; omega) | (simp [cutRows]; done) | (simp [cutRows]; omega)) ?_; conv => whnf) | (refine SliceG.fr ?_; conv => whnf) | (refine idx_at _ (by with_reducible rfl) (by first | assumption | omega) ?_; conv => whnf) | ((with_reducible refine row_map (by first | assumption | omega) ?_); conv => whnf) | ((with_reducible refine row_set (by first | assumption | omega | (simp only [List.length_set]; omega) | (simp; omega)) ?_); conv => whnf) | fail)
    · exact .mk ⟨by rw [idxP_hit hk (fun i hi' => hi i (by omega) hi') h]; rfl, rfl⟩
    · refine count_next () hk (by rw [wrap_succ hk (by omega)]; rfl) ?_
      exact all_succ' hi h
  · intro _ hi
    conv => whnf
    repeat' (first | (refine Split.mk (fun h => ?_) (fun h => ?_) <;> (try simp only [decide_eq_true_eq, decide_eq_false_iff_not, Bool.not_eq_true', Bool.not_eq_false', beq_iff_eq, beq_eq_false_iff_ne] at h) <;> (first | (exfalso; first | omega | exact h trivial) | (conv => whnf))) | (refine CondG.mk (fun h => ?_) (fun h => ?_) <;> (try simp only [decide_eq_true_eq, decide_eq_false_iff_not, Bool.not_eq_true', Bool.not_eq_false', beq_iff_eq, beq_eq_false_iff_ne] at h) <;> (first | (exfalso; first | omega | exact h trivial) | (conv => whnf))) | (refine Ask.mk (by first | omega | (unfold roomOK; simp [cutRows]; done) | (unfold roomOK; simp [cutRows]; omega)) ?_; conv => whnf) | (refine AppG.mk (by first | omega | (unfold roomOK; simp [cutRows]; done) | (unfold roomOK; simp [cutRows]; omega)) ?_; conv => whnf) | (refine SliceG.fr ?_; conv => whnf) | fail)
    exact .mk ⟨by rw [idxP_miss (fun i h => hi i h h)]; rfl, rfl⟩
set_option maxRecDepth 100000 in
set_option maxHeartbeats 4000000 in
theorem ixDuLC_pc (q : List Ly) (g : Nat) (p : Du → Bool) (l : List Du) (hl : l.length ≤ 1000000) (hg : ∀ x ∈ l, PCp g [.agg (encDu x), .c (.ptr 0 0)] [.box [.lst 3 (q.map encLy)]] (.c (.bool (p x))) [.box [.lst 3 (q.map encLy)]]) : PCp 135 [.c (.lst 5 (l.map encDu)), .c (.fn g [.ptr 0 0])] [.box [.lst 3 (q.map encLy)]] (.c (.bool (l.any p))) [.box [.lst 3 (q.map encLy)]] := by
  refine fn_sound (mt := mts) tab_fits tab_mixed Tryz.func135 (by rfl) (by kernel_rfl) (by kernel_rfl) Tryz.results135 (Nat.le_of_ble_eq_true (by kernel_rfl)) ?_
  conv => whnf
  repeat' (first | (refine Split.mk (fun h => ?_) (fun h => ?_) <;> (try simp only [decide_eq_true_eq, decide_eq_false_iff_not, Bool.not_eq_true', Bool.not_eq_false', beq_iff_eq, beq_eq_false_iff_ne] at h) <;> (first | (exfalso; first | omega | exact h trivial) | (conv => whnf))) | (refine CondG.mk (fun h => ?_) (fun h => ?_) <;> (try simp only [decide_eq_true_eq, decide_eq_false_iff_not, Bool.not_eq_true', Bool.not_eq_false', beq_iff_eq, beq_eq_false_iff_ne] at h) <;> (first | (exfalso; first | omega | exact h trivial) | (conv => whnf))) | (refine CallX.mk _ _ (by first | exact ixDuL_pc q g p l hl hg) ?_; conv => whnf) | (refine CallG.mk _ _ (by first | exact ixDuL_pc q g p l hl hg) ?_; conv => whnf) | (refine Ask.mk (by first | omega | (unfold roomOK; simp [cutRows]; done) | (unfold roomOK; simp [cutRows]; omega)) ?_; conv => whnf) | (refine AppG.mk (by first | omega | (unfold roomOK; simp [cutRows]; done) | (unfold roomOK; simp [cutRows]; omega)) ?_; conv => whnf) | (refine SliceG.fr ?_; conv => whnf) | fail)
  exact .mk ⟨by rw [← idxP_any]; rfl, rfl⟩
set_option maxRecDepth 100000 in
set_option maxHeartbeats 4000000 in
theorem rLyingFault_pc (d : List Du) (l : List Ly) (hx : ∀ x ∈ l, x.ducts.length ≤ 1000000) : PCp 81 [.c (.lst 5 (d.map encDu)), .c (.lst 3 (l.map encLy))] [] (.c (.int .i64 (lyFault d l))) [] := by
  have hlm : (l.map encLy).length = l.length := List.length_map ..
  refine fn_sound (mt := mts) tab_fits tab_mixed Tryz.func81 (by rfl) (by kernel_rfl) (by kernel_rfl) Tryz.results81 (Nat.le_of_ble_eq_true (by kernel_rfl)) ?_
  conv => whnf
  repeat' (first | (refine Split.mk (fun h => ?_) (fun h => ?_) <;> (try simp only [decide_eq_true_eq, decide_eq_false_iff_not, Bool.not_eq_true', Bool.not_eq_false', beq_iff_eq, beq_eq_false_iff_ne, bne_iff_ne, bne_eq_false_iff_eq] at h) <;> (first | (exfalso; first | omega | exact h trivial) | (conv => whnf))) | (refine CondG.mk (fun h => ?_) (fun h => ?_) <;> (try simp only [decide_eq_true_eq, decide_eq_false_iff_not, Bool.not_eq_true', Bool.not_eq_false', beq_iff_eq, beq_eq_false_iff_ne, bne_iff_ne, bne_eq_false_iff_eq] at h) <;> (first | (exfalso; first | omega | exact h trivial) | (conv => whnf))) | (refine CallX.mk _ _ (by first | exact rDuctsFault_pc d) ?_; conv => whnf) | (refine CallG.mk _ _ (by first | exact rDuctsFault_pc d) ?_; conv => whnf) | (refine Ask.mk (by first | omega | (unfold roomOK; simp [cutRows]; done) | (unfold roomOK; simp [cutRows]; omega) | (simp [cutRows]; done) | (simp [cutRows]; omega)) ?_; conv => whnf) | (refine AppG.mk (by first | omega | (unfold roomOK; simp [cutRows]; done) | (unfold roomOK; simp [cutRows]; omega) | (simp [cutRows]; done) | (simp [cutRows]; omega)) ?_; conv => whnf) | (refine SliceG.fr ?_; conv => whnf) | (refine idx_at _ (by with_reducible rfl) (by first | assumption | omega) ?_; conv => whnf) | ((with_reducible refine row_map (by first | assumption | omega) ?_); conv => whnf) | ((with_reducible refine row_set (by first | assumption | omega | (simp only [List.length_set]; omega) | (simp; omega)) ?_); conv => whnf) | fail)
  · exact fini (by rw [lyFault, if_pos h])
  · exact fini (by rw [lyFault, if_neg (by simp_all), if_pos (by omega)])
  rename_i hd0
  have hd0 : duFault d = 0 := by simpa using hd0
  have hd := duFault_ok hd0
  have hdl := hd.len
  have hF : lyFault d l = if lysErr d l ≠ 0 then lysErr d l else if fullL d l then 12 else 0 := by rw [lyFault, if_neg (by simp [hd0]), if_neg (by omega)]
  have hF1 : lysErr d l = seqErr (lyErr d) Ly.cable false ⟨#[]⟩ l := by rw [lysErr, seqErr_first lyErr_first]
  refine loop_for (l.length) [] [0, 3, 6, 22, 23, 24] (fun k (_ : Unit) => [(6, .c (.str (befK Ly.cable l k))), (24, .c (.int .i64 (k : Int)))]) (fun k (_ : Unit) => []) (fun k (_ : Unit) => seqErr (lyErr d) Ly.cable false (befK Ly.cable l k) (l.drop k) = lysErr d l) (()) ?_
  conv => whnf
  refine ⟨(by first | rfl | (simp; done) | (simp; rfl)), ?_, ?_, ?_⟩
  · exact hF1.symm
  · intro k _ hk hi
    have hxk := hx _ (List.getElem_mem hk)
    have hxm : (l[k].ducts.map encS).length = l[k].ducts.length := List.length_map ..
    conv => whnf
    repeat' (first | (refine Split.mk (fun h => ?_) (fun h => ?_) <;> (try simp only [decide_eq_true_eq, decide_eq_false_iff_not, Bool.not_eq_true', Bool.not_eq_false', beq_iff_eq, beq_eq_false_iff_ne, bne_iff_ne, bne_eq_false_iff_eq] at h) <;> (first | (exfalso; first | omega | exact h trivial) | (conv => whnf))) | (refine CondG.mk (fun h => ?_) (fun h => ?_) <;> (try simp only [decide_eq_true_eq, decide_eq_false_iff_not, Bool.not_eq_true', Bool.not_eq_false', beq_iff_eq, beq_eq_false_iff_ne, bne_iff_ne, bne_eq_false_iff_eq] at h) <;> (first | (exfalso; first | omega | exact h trivial) | (conv => whnf))) | (refine CallX.mk _ _ (by first | exact rKey_pc _ | exact rIn_pc _ _ _) ?_; conv => whnf) | (refine CallG.mk _ _ (by first | exact rKey_pc _ | exact rIn_pc _ _ _) ?_; conv => whnf) | (refine Ask.mk (by first | omega | (unfold roomOK; simp [cutRows]; done) | (unfold roomOK; simp [cutRows]; omega) | (simp [cutRows]; done) | (simp [cutRows]; omega)) ?_; conv => whnf) | (refine AppG.mk (by first | omega | (unfold roomOK; simp [cutRows]; done) | (unfold roomOK; simp [cutRows]; omega) | (simp [cutRows]; done) | (simp [cutRows]; omega)) ?_; conv => whnf) | (refine SliceG.fr ?_; conv => whnf) | (refine idx_at _ (by with_reducible rfl) (by first | assumption | omega) ?_; conv => whnf) | ((with_reducible refine row_map (by first | assumption | omega) ?_); conv => whnf) | ((with_reducible refine row_set (by first | assumption | omega | (simp only [List.length_set]; omega) | (simp; omega)) ?_); conv => whnf) | fail)
    all_goals try simp only [toList_eq'] at *
    rotate_right
    · have hE : lyErr d false (befK Ly.cable l k) l[k] = seqErr (keyErr (hasD d)) id false ⟨#[]⟩ l[k].ducts := by
        rw [← seqErr_first (fun x => keyErr_first hd x)]
        unfold lyErr cabErr; clear hi hF
        (repeat' split) <;> first | rfl | (exfalso; first | omega | (simp_all [leB, toList_eq']; done) | (simp_all [leB, toList_eq']; omega))
      refine loop_for (l[k].ducts.length) [] [0, 3, 8, 9, 22, 23, 24, 54, 55, 56] (fun j (_ : Unit) => [(9, .c (.str (befK id l[k].ducts j))), (56, .c (.int .i64 (j : Int)))]) (fun j (_ : Unit) => []) (fun j (_ : Unit) => seqErr (keyErr (hasD d)) id false (befK id l[k].ducts j) (l[k].ducts.drop j) = lyErr d false (befK Ly.cable l k) l[k]) (()) ?_
      conv => whnf
      refine ⟨(by first | rfl | (simp; done) | (simp; rfl)), ?_, ?_, ?_⟩
      · exact hE.symm
      · intro j _ hj hij
        conv => whnf
        repeat' (first | (refine Split.mk (fun h => ?_) (fun h => ?_) <;> (try simp only [decide_eq_true_eq, decide_eq_false_iff_not, Bool.not_eq_true', Bool.not_eq_false', beq_iff_eq, beq_eq_false_iff_ne, bne_iff_ne, bne_eq_false_iff_eq] at h) <;> (first | (exfalso; first | omega | exact h trivial) | (conv => whnf))) | (refine CondG.mk (fun h => ?_) (fun h => ?_) <;> (try simp only [decide_eq_true_eq, decide_eq_false_iff_not, Bool.not_eq_true', Bool.not_eq_false', beq_iff_eq, beq_eq_false_iff_ne, bne_iff_ne, bne_eq_false_iff_eq] at h) <;> (first | (exfalso; first | omega | exact h trivial) | (conv => whnf))) | (refine CallX.mk _ _ (by first | exact ductAt_pc d (by omega) _) ?_; conv => whnf) | (refine CallG.mk _ _ (by first | exact ductAt_pc d (by omega) _) ?_; conv => whnf) | (refine Ask.mk (by first | omega | (unfold roomOK; simp [cutRows]; done) | (unfold roomOK; simp [cutRows]; omega) | (simp [cutRows]; done) | (simp [cutRows]; omega)) ?_; conv => whnf) | (refine AppG.mk (by first | omega | (unfold roomOK; simp [cutRows]; done) | (unfold roomOK; simp [cutRows]; omega) | (simp [cutRows]; done) | (simp [cutRows]; omega)) ?_; conv => whnf) | (refine SliceG.fr ?_; conv => whnf) | (refine idx_at _ (by with_reducible rfl) (by first | assumption | omega) ?_; conv => whnf) | ((with_reducible refine row_map (by first | assumption | omega) ?_); conv => whnf) | ((with_reducible refine row_set (by first | assumption | omega | (simp only [List.length_set]; omega) | (simp; omega)) ?_); conv => whnf) | fail)
        all_goals try simp only [toList_eq'] at *
        · have h9 := seq_hit hj hij (show keyErr (hasD d) false (befK id l[k].ducts j) l[k].ducts[j] = 8 by unfold keyErr; rw [h]; rfl) (by decide)
          have h10 := seq_hit hk hi h9.symm (by decide)
          exact fini (by rw [hF, if_pos (by omega)]; exact h10)
        · have h9 := seq_hit hj hij (show keyErr (hasD d) false (befK id l[k].ducts j) l[k].ducts[j] = 7 by unfold keyErr leB; simp_all [toList_eq']) (by decide)
          have h10 := seq_hit hk hi h9.symm (by decide)
          exact fini (by rw [hF, if_pos (by omega)]; exact h10)
        · have h9 := seq_next hj hij (show keyErr (hasD d) false (befK id l[k].ducts j) l[k].ducts[j] = 0 by unfold keyErr leB; simp_all [toList_eq'])
          exact count_next () hj (by rw [wrap_succ hj (by omega), befK_succ hj]; rfl) (by rw [befK_succ hj]; exact h9)
      · intro _ hij
        have h0 := seq_end hij
        conv => whnf
        repeat' (first | (refine Split.mk (fun h => ?_) (fun h => ?_) <;> (try simp only [decide_eq_true_eq, decide_eq_false_iff_not, Bool.not_eq_true', Bool.not_eq_false', beq_iff_eq, beq_eq_false_iff_ne, bne_iff_ne, bne_eq_false_iff_eq] at h) <;> (first | (exfalso; first | omega | exact h trivial) | (conv => whnf))) | (refine CondG.mk (fun h => ?_) (fun h => ?_) <;> (try simp only [decide_eq_true_eq, decide_eq_false_iff_not, Bool.not_eq_true', Bool.not_eq_false', beq_iff_eq, beq_eq_false_iff_ne, bne_iff_ne, bne_eq_false_iff_eq] at h) <;> (first | (exfalso; first | omega | exact h trivial) | (conv => whnf))) | (refine Ask.mk (by first | omega | (unfold roomOK; simp [cutRows]; done) | (unfold roomOK; simp [cutRows]; omega) | (simp [cutRows]; done) | (simp [cutRows]; omega)) ?_; conv => whnf) | (refine AppG.mk (by first | omega | (unfold roomOK; simp [cutRows]; done) | (unfold roomOK; simp [cutRows]; omega) | (simp [cutRows]; done) | (simp [cutRows]; omega)) ?_; conv => whnf) | (refine SliceG.fr ?_; conv => whnf) | (refine idx_at _ (by with_reducible rfl) (by first | assumption | omega) ?_; conv => whnf) | ((with_reducible refine row_map (by first | assumption | omega) ?_); conv => whnf) | ((with_reducible refine row_set (by first | assumption | omega | (simp only [List.length_set]; omega) | (simp; omega)) ?_); conv => whnf) | fail)
        exact count_next () hk (by rw [wrap_succ hk (by omega), befK_succ hk]; rfl) (by rw [befK_succ hk]; exact seq_next hk hi h0)
    all_goals
      (first
        | (have he : lyErr d false (befK Ly.cable l k) l[k] = 5 := by (unfold lyErr cabErr; clear hi hF hF1; (repeat' split) <;> first | rfl | (exfalso; first | omega | (simp_all [leB, toList_eq']; done) | (simp_all [leB, toList_eq']; omega)))
           have h9 := seq_hit hk hi he (by decide)
           exact fini (by rw [hF, if_pos (by omega)]; exact h9))
        | (have he : lyErr d false (befK Ly.cable l k) l[k] = 7 := by (unfold lyErr cabErr; clear hi hF hF1; (repeat' split) <;> first | rfl | (exfalso; first | omega | (simp_all [leB, toList_eq']; done) | (simp_all [leB, toList_eq']; omega)))
           have h9 := seq_hit hk hi he (by decide)
           exact fini (by rw [hF, if_pos (by omega)]; exact h9))
        | (have he : lyErr d false (befK Ly.cable l k) l[k] = 1 := by (unfold lyErr cabErr; clear hi hF hF1; (repeat' split) <;> first | rfl | (exfalso; first | omega | (simp_all [leB, toList_eq']; done) | (simp_all [leB, toList_eq']; omega)))
           have h9 := seq_hit hk hi he (by decide)
           exact fini (by rw [hF, if_pos (by omega)]; exact h9))
        | (have he : lyErr d false (befK Ly.cable l k) l[k] = 8 := by (unfold lyErr cabErr; clear hi hF hF1; (repeat' split) <;> first | rfl | (exfalso; first | omega | (simp_all [leB, toList_eq']; done) | (simp_all [leB, toList_eq']; omega)))
           have h9 := seq_hit hk hi he (by decide)
           exact fini (by rw [hF, if_pos (by omega)]; exact h9))
        | (have he : lyErr d false (befK Ly.cable l k) l[k] = 2 := by (unfold lyErr cabErr; clear hi hF hF1; (repeat' split) <;> first | rfl | (exfalso; first | omega | (simp_all [leB, toList_eq']; done) | (simp_all [leB, toList_eq']; omega)))
           have h9 := seq_hit hk hi he (by decide)
           exact fini (by rw [hF, if_pos (by omega)]; exact h9)))
  · intro _ hi
    have h0 := seq_end hi
    conv => whnf
    repeat' (first | (refine Split.mk (fun h => ?_) (fun h => ?_) <;> (try simp only [decide_eq_true_eq, decide_eq_false_iff_not, Bool.not_eq_true', Bool.not_eq_false', beq_iff_eq, beq_eq_false_iff_ne, bne_iff_ne, bne_eq_false_iff_eq] at h) <;> (first | (exfalso; first | omega | exact h trivial) | (conv => whnf))) | (refine CondG.mk (fun h => ?_) (fun h => ?_) <;> (try simp only [decide_eq_true_eq, decide_eq_false_iff_not, Bool.not_eq_true', Bool.not_eq_false', beq_iff_eq, beq_eq_false_iff_ne, bne_iff_ne, bne_eq_false_iff_eq] at h) <;> (first | (exfalso; first | omega | exact h trivial) | (conv => whnf))) | (refine CallX.mk _ _ (by first | exact ixDuLC_pc l 136 (fun x => decide (20 < (inL l x.key).length)) d (by omega) (fun x _ => rFault1_pc l (by omega) hx x)) ?_; conv => whnf) | (refine CallG.mk _ _ (by first | exact ixDuLC_pc l 136 (fun x => decide (20 < (inL l x.key).length)) d (by omega) (fun x _ => rFault1_pc l (by omega) hx x)) ?_; conv => whnf) | (refine Ask.mk (by first | omega | (unfold roomOK; simp [cutRows]; done) | (unfold roomOK; simp [cutRows]; omega) | (simp [cutRows]; done) | (simp [cutRows]; omega)) ?_; conv => whnf) | (refine AppG.mk (by first | omega | (unfold roomOK; simp [cutRows]; done) | (unfold roomOK; simp [cutRows]; omega) | (simp [cutRows]; done) | (simp [cutRows]; omega)) ?_; conv => whnf) | (refine SliceG.fr ?_; conv => whnf) | (refine idx_at _ (by with_reducible rfl) (by first | assumption | omega) ?_; conv => whnf) | ((with_reducible refine row_map (by first | assumption | omega) ?_); conv => whnf) | ((with_reducible refine row_set (by first | assumption | omega | (simp only [List.length_set]; omega) | (simp; omega)) ?_); conv => whnf) | fail)
    · exact fini (by rw [hF, if_neg (by simp [h0]), if_pos (by unfold fullL; exact h)])
    · exact fini (by rw [hF, if_neg (by simp [h0]), if_neg (by unfold fullL; rw [h]; decide)])
end Go.Proofs.YtllpjcgadfmipaaGreat

/- What lies in a duct, and what has room there. -/
namespace Go.Proofs.YtllpjcgadfmipaaGreat
set_option linter.unusedVariables false
set_option linter.unusedSimpArgs false
open Abs

theorem hitS_eq {l : List ByteArray} (h : Rise id l) (t : ByteArray) : hitS t l = decide (t ∈ l) := by
  have hc : ∀ x : ByteArray, ((if ltB x t then (-1 : Int) else if x.toList = t.toList then 0 else 1) < 0 ↔ ltB (id x) t = true) ∧ ((if ltB x t then (-1 : Int) else if x.toList = t.toList then 0 else 1) = 0 ↔ id x = t) := by
    intro x
    by_cases h1 : ltB x t = true
    · simp [h1, ltB_ne h1]
    · by_cases h2 : x = t
      · subst h2; simp [h1]
      · simp [h1, h2, toList_eq']
  have hf := find_rise hc h
  unfold hitS
  generalize hh : hitL (fun x => if ltB x t then (-1 : Int) else if x.toList = t.toList then 0 else 1) l = b at *
  rw [Bool.eq_iff_iff, decide_eq_true_eq]
  cases b with
  | false =>
    constructor
    · intro e; cases e
    · intro ht
      have h1 : (l.find? fun x => decide (id x = t)).isSome := by rw [List.find?_isSome]; exact ⟨t, ht, by simp⟩
      rw [hf] at h1; simp at h1
  | true =>
    refine ⟨fun _ => ?_, fun _ => rfl⟩
    unfold hitL at hh
    split at hh
    · rename_i x hx
      rw [if_pos rfl, hx] at hf
      have h1 := List.find?_some hf
      have h2 := List.mem_of_find?_eq_some hf
      have : x = t := by simpa using h1
      rwa [this] at h2
    · cases hh
theorem binS_ok {l : List ByteArray} (h : Rise id l) (hl : l.length ≤ 1000000) (t : ByteArray) : PCp 117 [.c (.lst 1 (l.map encS)), .c (.str t)] [] (.tup [.c (.int .i64 ((cntS t l : Nat) : Int)), .c (.bool (decide (t ∈ l)))]) [] := by
  rw [← hitS_eq h]
  refine binS_pc t l hl ?_
  intro i j hj hij hlt
  rcases Nat.lt_or_ge i j with h1 | h1
  · exact ltB_trans (h.at h1 hj) hlt
  · have : i = j := by omega
    subst this; exact hlt
set_option maxRecDepth 100000 in
set_option maxHeartbeats 4000000 in
theorem dIn_pc (l : List Ly) (hl : l.length ≤ 1000000) (hx : ∀ x ∈ l, Rise id x.ducts ∧ x.ducts.length ≤ 1000000) (key : ByteArray) : PCp 140 [.c (.lst 3 (l.map encLy)), .c (.str key)] [] (.c (.lst 3 ((inL l key).map encLy))) [] := by
  have hlm : (l.map encLy).length = l.length := List.length_map ..
  refine fn_sound (mt := mts) tab_fits tab_mixed Tryz.func140 (by rfl) (by kernel_rfl) (by kernel_rfl) Tryz.results140 (Nat.le_of_ble_eq_true (by kernel_rfl)) ?_
  conv => whnf
  refine loop_for (l.length) [.sl 5 77 3] [1, 5, 10, 11, 12] (fun k (_ : Unit) => [(12, .c (.int .i64 (k : Int)))]) (fun k (_ : Unit) => [(0, .row 77 3 ((inL (l.take k) key).map encLy))]) (fun k (_ : Unit) => True) (()) ?_
  conv => whnf
  refine ⟨(by first | rfl | (simp; done) | (simp; rfl)), (by trivial), ?_, ?_⟩
  · intro k _ hk _
    have hle := inL_len (l.take k) key
    have hcm : ((inL (l.take k) key).map encLy).length = (inL (l.take k) key).length := List.length_map ..
    have htl : (l.take k).length = k := by rw [List.length_take]; omega
    have ht := inL_take hk key
    obtain ⟨h1, h2⟩ := hx _ (List.getElem_mem hk)
    conv => whnf
    repeat' (first | (refine Split.mk (fun h => ?_) (fun h => ?_) <;> (try simp only [decide_eq_true_eq, decide_eq_false_iff_not, Bool.not_eq_true', Bool.not_eq_false', beq_iff_eq, beq_eq_false_iff_ne, bne_iff_ne, bne_eq_false_iff_eq] at h) <;> (first | (exfalso; first | omega | exact h trivial) | (conv => whnf))) | (refine CondG.mk (fun h => ?_) (fun h => ?_) <;> (try simp only [decide_eq_true_eq, decide_eq_false_iff_not, Bool.not_eq_true', Bool.not_eq_false', beq_iff_eq, beq_eq_false_iff_ne, bne_iff_ne, bne_eq_false_iff_eq] at h) <;> (first | (exfalso; first | omega | exact h trivial) | (conv => whnf))) | (refine CallX.mk _ _ (by first | exact binS_ok h1 h2 key) ?_; conv => whnf) | (refine CallG.mk _ _ (by first | exact binS_ok h1 h2 key) ?_; conv => whnf) | (refine Ask.mk (by first | omega | (unfold roomOK; simp [cutRows]; done) | (unfold roomOK; simp [cutRows]; omega) | (simp [cutRows]; done) | (simp [cutRows]; omega)) ?_; conv => whnf) | (refine AppG.mk (by first | omega | (unfold roomOK; simp [cutRows]; done) | (unfold roomOK; simp [cutRows]; omega) | (simp [cutRows]; done) | (simp [cutRows]; omega)) ?_; conv => whnf) | (refine SliceG.fr ?_; conv => whnf) | (refine idx_at _ (by with_reducible rfl) (by first | assumption | omega) ?_; conv => whnf) | ((with_reducible refine row_map (by first | assumption | omega) ?_); conv => whnf) | ((with_reducible refine row_set (by first | assumption | omega | (simp only [List.length_set]; omega) | (simp; omega)) ?_); conv => whnf) | fail)
    · rw [if_pos h] at ht
      exact count_next () hk (by rw [wrap_succ hk (by omega), ht, List.map_append]; rfl) trivial
    · rw [if_neg h, List.append_nil] at ht
      exact count_next () hk (by rw [wrap_succ hk (by omega), ht]; rfl) trivial
  · intro _ _
    rw [List.take_length]
    conv => whnf
    repeat' (first | (refine Split.mk (fun h => ?_) (fun h => ?_) <;> (try simp only [decide_eq_true_eq, decide_eq_false_iff_not, Bool.not_eq_true', Bool.not_eq_false', beq_iff_eq, beq_eq_false_iff_ne, bne_iff_ne, bne_eq_false_iff_eq] at h) <;> (first | (exfalso; first | omega | exact h trivial) | (conv => whnf))) | (refine CondG.mk (fun h => ?_) (fun h => ?_) <;> (try simp only [decide_eq_true_eq, decide_eq_false_iff_not, Bool.not_eq_true', Bool.not_eq_false', beq_iff_eq, beq_eq_false_iff_ne, bne_iff_ne, bne_eq_false_iff_eq] at h) <;> (first | (exfalso; first | omega | exact h trivial) | (conv => whnf))) | (refine Ask.mk (by first | omega | (unfold roomOK; simp [cutRows]; done) | (unfold roomOK; simp [cutRows]; omega) | (simp [cutRows]; done) | (simp [cutRows]; omega)) ?_; conv => whnf) | (refine AppG.mk (by first | omega | (unfold roomOK; simp [cutRows]; done) | (unfold roomOK; simp [cutRows]; omega) | (simp [cutRows]; done) | (simp [cutRows]; omega)) ?_; conv => whnf) | (refine SliceG.fr ?_; conv => whnf) | (refine idx_at _ (by with_reducible rfl) (by first | assumption | omega) ?_; conv => whnf) | ((with_reducible refine row_map (by first | assumption | omega) ?_); conv => whnf) | ((with_reducible refine row_set (by first | assumption | omega | (simp only [List.length_set]; omega) | (simp; omega)) ?_); conv => whnf) | fail)
    exact .frz 0 _ _ _ rfl (.weak [_] (.fro 0 _ _ rfl) rfl (Nat.le_refl _))
set_option maxRecDepth 100000 in
set_option maxHeartbeats 4000000 in
theorem dOuters_pc (l : List Ly) (hl : l.length ≤ 1000000) (hx : ∀ x ∈ l, Rise id x.ducts ∧ x.ducts.length ≤ 1000000) (key : ByteArray) : PCp 86 [.c (.lst 3 (l.map encLy)), .c (.str key)] [] (.c (.row 0)) [.row 3 1 ((outV l key).map encI)] := by
  have hle := inL_len l key
  refine fn_sound (mt := mts) tab_fits tab_mixed Tryz.func86 (by rfl) (by kernel_rfl) (by kernel_rfl) Tryz.results86 (Nat.le_of_ble_eq_true (by kernel_rfl)) ?_
  conv => whnf
  repeat' (first | (refine Split.mk (fun h => ?_) (fun h => ?_) <;> (try simp only [decide_eq_true_eq, decide_eq_false_iff_not, Bool.not_eq_true', Bool.not_eq_false', beq_iff_eq, beq_eq_false_iff_ne, bne_iff_ne, bne_eq_false_iff_eq] at h) <;> (first | (exfalso; first | omega | exact h trivial) | (conv => whnf))) | (refine CondG.mk (fun h => ?_) (fun h => ?_) <;> (try simp only [decide_eq_true_eq, decide_eq_false_iff_not, Bool.not_eq_true', Bool.not_eq_false', beq_iff_eq, beq_eq_false_iff_ne, bne_iff_ne, bne_eq_false_iff_eq] at h) <;> (first | (exfalso; first | omega | exact h trivial) | (conv => whnf))) | (refine CallX.mk _ _ (by first | exact dIn_pc l hl hx key) ?_; conv => whnf) | (refine CallG.mk _ _ (by first | exact dIn_pc l hl hx key) ?_; conv => whnf) | (refine Ask.mk (by first | omega | (unfold roomOK; simp [cutRows]; done) | (unfold roomOK; simp [cutRows]; omega) | (simp [cutRows]; done) | (simp [cutRows]; omega)) ?_; conv => whnf) | (refine AppG.mk (by first | omega | (unfold roomOK; simp [cutRows]; done) | (unfold roomOK; simp [cutRows]; omega) | (simp [cutRows]; done) | (simp [cutRows]; omega)) ?_; conv => whnf) | (refine SliceG.fr ?_; conv => whnf) | (refine idx_at _ (by with_reducible rfl) (by first | assumption | omega) ?_; conv => whnf) | ((with_reducible refine row_map (by first | assumption | omega) ?_); conv => whnf) | ((with_reducible refine row_set (by first | assumption | omega | (simp only [List.length_set]; omega) | (simp; omega)) ?_); conv => whnf) | fail)
  have hO : outV l key = (inL l key).map Ly.outer := rfl
  rw [hO]
  generalize inL l key = L at *
  have hlm : (L.map encLy).length = L.length := List.length_map ..
  refine loop_for (L.length) [.sl 5 3 1] [5, 10, 11, 12] (fun k (_ : Unit) => [(12, .c (.int .i64 (k : Int)))]) (fun k (_ : Unit) => [(0, .row 3 1 (((L.take k).map Ly.outer).map encI))]) (fun k (_ : Unit) => True) (()) ?_
  conv => whnf
  refine ⟨(by first | rfl | (simp; done) | (simp; rfl)), (by trivial), ?_, ?_⟩
  · intro k _ hk _
    have hcm : (((L.take k).map Ly.outer).map encI).length = (L.take k).length := by simp
    have htl : (L.take k).length = k := by rw [List.length_take]; omega
    conv => whnf
    repeat' (first | (refine Split.mk (fun h => ?_) (fun h => ?_) <;> (try simp only [decide_eq_true_eq, decide_eq_false_iff_not, Bool.not_eq_true', Bool.not_eq_false', beq_iff_eq, beq_eq_false_iff_ne, bne_iff_ne, bne_eq_false_iff_eq] at h) <;> (first | (exfalso; first | omega | exact h trivial) | (conv => whnf))) | (refine CondG.mk (fun h => ?_) (fun h => ?_) <;> (try simp only [decide_eq_true_eq, decide_eq_false_iff_not, Bool.not_eq_true', Bool.not_eq_false', beq_iff_eq, beq_eq_false_iff_ne, bne_iff_ne, bne_eq_false_iff_eq] at h) <;> (first | (exfalso; first | omega | exact h trivial) | (conv => whnf))) | (refine Ask.mk (by first | omega | (unfold roomOK; simp [cutRows]; done) | (unfold roomOK; simp [cutRows]; omega) | (simp [cutRows]; done) | (simp [cutRows]; omega)) ?_; conv => whnf) | (refine AppG.mk (by first | omega | (unfold roomOK; simp [cutRows]; done) | (unfold roomOK; simp [cutRows]; omega) | (simp [cutRows]; done) | (simp [cutRows]; omega)) ?_; conv => whnf) | (refine SliceG.fr ?_; conv => whnf) | (refine idx_at _ (by with_reducible rfl) (by first | assumption | omega) ?_; conv => whnf) | ((with_reducible refine row_map (by first | assumption | omega) ?_); conv => whnf) | ((with_reducible refine row_set (by first | assumption | omega | (simp only [List.length_set]; omega) | (simp; omega)) ?_); conv => whnf) | fail)
    exact count_next () hk (by rw [wrap_succ hk (by omega), List.take_succ_eq_append_getElem hk, List.map_append, List.map_append]; rfl) trivial
  · intro _ _
    rw [List.take_length]
    conv => whnf
    repeat' (first | (refine Split.mk (fun h => ?_) (fun h => ?_) <;> (try simp only [decide_eq_true_eq, decide_eq_false_iff_not, Bool.not_eq_true', Bool.not_eq_false', beq_iff_eq, beq_eq_false_iff_ne, bne_iff_ne, bne_eq_false_iff_eq] at h) <;> (first | (exfalso; first | omega | exact h trivial) | (conv => whnf))) | (refine CondG.mk (fun h => ?_) (fun h => ?_) <;> (try simp only [decide_eq_true_eq, decide_eq_false_iff_not, Bool.not_eq_true', Bool.not_eq_false', beq_iff_eq, beq_eq_false_iff_ne, bne_iff_ne, bne_eq_false_iff_eq] at h) <;> (first | (exfalso; first | omega | exact h trivial) | (conv => whnf))) | (refine Ask.mk (by first | omega | (unfold roomOK; simp [cutRows]; done) | (unfold roomOK; simp [cutRows]; omega) | (simp [cutRows]; done) | (simp [cutRows]; omega)) ?_; conv => whnf) | (refine AppG.mk (by first | omega | (unfold roomOK; simp [cutRows]; done) | (unfold roomOK; simp [cutRows]; omega) | (simp [cutRows]; done) | (simp [cutRows]; omega)) ?_; conv => whnf) | (refine SliceG.fr ?_; conv => whnf) | (refine idx_at _ (by with_reducible rfl) (by first | assumption | omega) ?_; conv => whnf) | ((with_reducible refine row_map (by first | assumption | omega) ?_); conv => whnf) | ((with_reducible refine row_set (by first | assumption | omega | (simp only [List.length_set]; omega) | (simp; omega)) ?_); conv => whnf) | fail)
    exact .mk ⟨rfl, rfl⟩
end Go.Proofs.YtllpjcgadfmipaaGreat

/- Ducts: fills, rooms, how many more. -/
namespace Go.Proofs.YtllpjcgadfmipaaGreat
set_option linter.unusedVariables false
set_option linter.unusedSimpArgs false
open Abs

def oneE (d : List Du) (l : List Ly) (k : ByteArray) : Int := if lyFault d l ≠ 0 then lyFault d l else if hasD d k then 0 else 8
def duV (d : List Du) (l : List Ly) (k : ByteArray) : Du := if oneE d l k = 0 then duG d k else du0
theorem oneE_ok {d : List Du} {l : List Ly} {k : ByteArray} (h : oneE d l k = 0) : LyOk d l ∧ hasD d k = true ∧ lyFault d l = 0 := by
  unfold oneE at h
  split at h
  · exact absurd h (by assumption)
  · split at h
    · rename_i h1 h2; exact ⟨lyFault_ok (by omega), h2, by omega⟩
    · omega
theorem LyOk.rl {d : List Du} {l : List Ly} (h : LyOk d l) : ∀ x ∈ l, Rise id x.ducts ∧ x.ducts.length ≤ 1000000 := fun x hx => ⟨(h.each x hx).rise, by have := (h.each x hx).len; omega⟩
theorem LyOk.o1000 {d : List Du} {l : List Ly} (h : LyOk d l) (k : ByteArray) : ∀ x ∈ outV l k, 0 ≤ x ∧ x ≤ 1000 := by
  intro x hx
  obtain ⟨y, hy, rfl⟩ := List.mem_map.1 hx
  have := (h.each y (List.mem_filter.1 hy).1).out
  omega
theorem outV_len (l : List Ly) (k : ByteArray) : (outV l k).length = (inL l k).length := List.length_map ..
theorem LyOk.out20 {d : List Du} {l : List Ly} (h : LyOk d l) {k : ByteArray} (hk : hasD d k = true) : (outV l k).length ≤ 20 := by
  obtain ⟨x, hx, rfl⟩ := hasD_iff.1 hk
  rw [outV_len]; exact h.few x hx
theorem duG_in {d : List Du} (h : DuOk d) {k : ByteArray} (hk : hasD d k = true) : duG d k ∈ d ∧ (duG d k).key = k := by
  obtain ⟨x, hx, rfl⟩ := hasD_iff.1 hk
  rw [duG_mem h hx]; exact ⟨hx, rfl⟩
set_option maxRecDepth 100000 in
set_option maxHeartbeats 4000000 in
theorem ductOf_pc (d : List Du) (l : List Ly) (hx : ∀ x ∈ l, x.ducts.length ≤ 1000000) (k : ByteArray) : PCp 82 [.c (.lst 5 (d.map encDu)), .c (.lst 3 (l.map encLy)), .c (.str k)] [] (.tup [.agg (encDu (duV d l k)), .c (.int .i64 (oneE d l k))]) [] := by
  refine fn_sound (mt := mts) tab_fits tab_mixed Tryz.func82 (by rfl) (by kernel_rfl) (by kernel_rfl) Tryz.results82 (Nat.le_of_ble_eq_true (by kernel_rfl)) ?_
  conv => whnf
  repeat' (first | (refine Split.mk (fun h => ?_) (fun h => ?_) <;> (try simp only [decide_eq_true_eq, decide_eq_false_iff_not, Bool.not_eq_true', Bool.not_eq_false', beq_iff_eq, beq_eq_false_iff_ne, bne_iff_ne, bne_eq_false_iff_eq] at h) <;> (first | (exfalso; first | omega | exact h trivial) | (conv => whnf))) | (refine CondG.mk (fun h => ?_) (fun h => ?_) <;> (try simp only [decide_eq_true_eq, decide_eq_false_iff_not, Bool.not_eq_true', Bool.not_eq_false', beq_iff_eq, beq_eq_false_iff_ne, bne_iff_ne, bne_eq_false_iff_eq] at h) <;> (first | (exfalso; first | omega | exact h trivial) | (conv => whnf))) | (refine CallX.mk _ _ (by first | exact checkLying_pc d l hx) ?_; conv => whnf) | (refine CallG.mk _ _ (by first | exact checkLying_pc d l hx) ?_; conv => whnf) | (refine Ask.mk (by first | omega | (unfold roomOK; simp [cutRows]; done) | (unfold roomOK; simp [cutRows]; omega) | (simp [cutRows]; done) | (simp [cutRows]; omega)) ?_; conv => whnf) | (refine AppG.mk (by first | omega | (unfold roomOK; simp [cutRows]; done) | (unfold roomOK; simp [cutRows]; omega) | (simp [cutRows]; done) | (simp [cutRows]; omega)) ?_; conv => whnf) | (refine SliceG.fr ?_; conv => whnf) | (refine idx_at _ (by with_reducible rfl) (by first | assumption | omega) ?_; conv => whnf) | ((with_reducible refine row_map (by first | assumption | omega) ?_); conv => whnf) | ((with_reducible refine row_set (by first | assumption | omega | (simp only [List.length_set]; omega) | (simp; omega)) ?_); conv => whnf) | fail)
  · have h1 : oneE d l k = lyFault d l := by rw [oneE, if_pos h]
    exact .mk ⟨by rw [duV, h1, if_neg h]; rfl, rfl⟩
  have hok := lyFault_ok h
  repeat' (first | (refine Split.mk (fun h => ?_) (fun h => ?_) <;> (try simp only [decide_eq_true_eq, decide_eq_false_iff_not, Bool.not_eq_true', Bool.not_eq_false', beq_iff_eq, beq_eq_false_iff_ne, bne_iff_ne, bne_eq_false_iff_eq] at h) <;> (first | (exfalso; first | omega | exact h trivial) | (conv => whnf))) | (refine CondG.mk (fun h => ?_) (fun h => ?_) <;> (try simp only [decide_eq_true_eq, decide_eq_false_iff_not, Bool.not_eq_true', Bool.not_eq_false', beq_iff_eq, beq_eq_false_iff_ne, bne_iff_ne, bne_eq_false_iff_eq] at h) <;> (first | (exfalso; first | omega | exact h trivial) | (conv => whnf))) | (refine CallX.mk _ _ (by first | exact find_pc d hok.du k) ?_; conv => whnf) | (refine CallG.mk _ _ (by first | exact find_pc d hok.du k) ?_; conv => whnf) | (refine Ask.mk (by first | omega | (unfold roomOK; simp [cutRows]; done) | (unfold roomOK; simp [cutRows]; omega) | (simp [cutRows]; done) | (simp [cutRows]; omega)) ?_; conv => whnf) | (refine AppG.mk (by first | omega | (unfold roomOK; simp [cutRows]; done) | (unfold roomOK; simp [cutRows]; omega) | (simp [cutRows]; done) | (simp [cutRows]; omega)) ?_; conv => whnf) | (refine SliceG.fr ?_; conv => whnf) | (refine idx_at _ (by with_reducible rfl) (by first | assumption | omega) ?_; conv => whnf) | ((with_reducible refine row_map (by first | assumption | omega) ?_); conv => whnf) | ((with_reducible refine row_set (by first | assumption | omega | (simp only [List.length_set]; omega) | (simp; omega)) ?_); conv => whnf) | fail)
  · have h1 : oneE d l k = 8 := by rw [oneE, if_neg (by omega), if_neg (by rw [h]; decide)]
    exact .mk ⟨by rw [duV, h1, if_neg (by decide)]; rfl, rfl⟩
  · have h1 : oneE d l k = 0 := by rw [oneE, if_neg (by omega), if_pos h]
    exact .mk ⟨by rw [duV, h1, if_pos rfl]; rfl, rfl⟩
end Go.Proofs.YtllpjcgadfmipaaGreat

/- Ducts: what has room, how many more. -/
namespace Go.Proofs.YtllpjcgadfmipaaGreat
set_option linter.unusedVariables false
set_option linter.unusedSimpArgs false
open Abs

set_option maxRecDepth 100000 in
set_option maxHeartbeats 4000000 in
theorem dOuterFault_pc (n : Int) : PCp 84 [.c (.int .i64 n)] [] (.c (.int .i64 (if n < 1 ∨ 1000 < n then 1 else 0))) [] := by
  refine fn_sound (mt := mts) tab_fits tab_mixed Tryz.func84 (by rfl) (by kernel_rfl) (by kernel_rfl) Tryz.results84 (Nat.le_of_ble_eq_true (by kernel_rfl)) ?_
  conv => whnf
  repeat' (first | (refine Split.mk (fun h => ?_) (fun h => ?_) <;> (try simp only [decide_eq_true_eq, decide_eq_false_iff_not, Bool.not_eq_true', Bool.not_eq_false', beq_iff_eq, beq_eq_false_iff_ne, bne_iff_ne, bne_eq_false_iff_eq] at h) <;> (first | (exfalso; first | omega | exact h trivial) | (conv => whnf))) | (refine CondG.mk (fun h => ?_) (fun h => ?_) <;> (try simp only [decide_eq_true_eq, decide_eq_false_iff_not, Bool.not_eq_true', Bool.not_eq_false', beq_iff_eq, beq_eq_false_iff_ne, bne_iff_ne, bne_eq_false_iff_eq] at h) <;> (first | (exfalso; first | omega | exact h trivial) | (conv => whnf))) | (refine CallX.mk _ _ (by first | exact bOut_pc _ _ _) ?_; conv => whnf) | (refine CallG.mk _ _ (by first | exact bOut_pc _ _ _) ?_; conv => whnf) | (refine Ask.mk (by first | omega | (unfold roomOK; simp [cutRows]; done) | (unfold roomOK; simp [cutRows]; omega) | (simp [cutRows]; done) | (simp [cutRows]; omega)) ?_; conv => whnf) | (refine AppG.mk (by first | omega | (unfold roomOK; simp [cutRows]; done) | (unfold roomOK; simp [cutRows]; omega) | (simp [cutRows]; done) | (simp [cutRows]; omega)) ?_; conv => whnf) | (refine SliceG.fr ?_; conv => whnf) | (refine idx_at _ (by with_reducible rfl) (by first | assumption | omega) ?_; conv => whnf) | ((with_reducible refine row_map (by first | assumption | omega) ?_); conv => whnf) | ((with_reducible refine row_set (by first | assumption | omega | (simp only [List.length_set]; omega) | (simp; omega)) ?_); conv => whnf) | fail)
  all_goals exact fini (by simp_all <;> omega)
set_option maxRecDepth 100000 in
set_option maxHeartbeats 4000000 in
theorem ixIK_pc (key : Int) (g : Nat) (p : Int → Bool) (l : List Int) (hl : l.length ≤ 1000000) (hg : ∀ x ∈ l, PCp g [.c (.int .i64 x), .c (.ptr 0 0)] [.box [.int .i64 key]] (.c (.bool (p x))) [.box [.int .i64 key]]) : PCp 188 [.c (.lst 1 (l.map encI)), .c (.fn g [.ptr 0 0])] [.box [.int .i64 key]] (.c (.int .i64 (idxP p l))) [.box [.int .i64 key]] := by
  have hlm : (l.map encI).length = l.length := List.length_map ..
  refine fn_sound (mt := mts) tab_fits tab_mixed Tryz.func188 (by rfl) (by kernel_rfl) (by kernel_rfl) Tryz.results188 (Nat.le_of_ble_eq_true (by kernel_rfl)) ?_
  conv => whnf
  refine loop_count (l.length) [] [0, 1, 7, 8] (fun k (_ : Unit) => ⟨[(0, .c (.lst 1 (l.map encI))), (1, .c (.fn g [.ptr 0 0])), (7, .c (.int .i64 (l.map encI).length)), (8, .c (.int .i64 k))], [(0, .box [.int .i64 key])], 1⟩) (fun k (_ : Unit) => ∀ i (hi : i < l.length), i < k → p l[i] = false) (()) ?_ ?_ ?_
  · conv => whnf
    exact ⟨rfl, by intro i hi h; omega⟩
  · intro k _ hk hi
    conv => whnf
    repeat' (first | (refine Split.mk (fun h => ?_) (fun h => ?_) <;> (try simp only [decide_eq_true_eq, decide_eq_false_iff_not, Bool.not_eq_true', Bool.not_eq_false', beq_iff_eq, beq_eq_false_iff_ne, bne_iff_ne, bne_eq_false_iff_eq] at h) <;> (first | (exfalso; first | omega | exact h trivial) | (conv => whnf))) | (refine CondG.mk (fun h => ?_) (fun h => ?_) <;> (try simp only [decide_eq_true_eq, decide_eq_false_iff_not, Bool.not_eq_true', Bool.not_eq_false', beq_iff_eq, beq_eq_false_iff_ne, bne_iff_ne, bne_eq_false_iff_eq] at h) <;> (first | (exfalso; first | omega | exact h trivial) | (conv => whnf))) | (refine CallX.mk _ _ (by first | exact hg l[k] (List.getElem_mem hk)) ?_; conv => whnf) | (refine CallG.mk _ _ (by first | exact hg l[k] (List.getElem_mem hk)) ?_; conv => whnf) | (refine Ask.mk (by first | omega | (unfold roomOK; simp [cutRows]; done) | (unfold roomOK; simp [cutRows]; omega) | (simp [cutRows]; done) | (simp [cutRows]; omega)) ?_; conv => whnf) | (refine AppG.mk (by first | omega | (unfold roomOK; simp [cutRows]; done) | (unfold roomOK; simp [cutRows]; omega) | (simp [cutRows]; done) | (simp [cutRows]; omega)) ?_; conv => whnf) | (refine SliceG.fr ?_; conv => whnf) | (refine idx_at _ (by with_reducible rfl) (by first | assumption | omega) ?_; conv => whnf) | ((with_reducible refine row_map (by first | assumption | omega) ?_); conv => whnf) | ((with_reducible refine row_set (by first | assumption | omega | (simp only [List.length_set]; omega) | (simp; omega)) ?_); conv => whnf) | fail)
    · exact .mk ⟨by rw [idxP_hit hk (fun i hi' => hi i (by omega) hi') h]; rfl, rfl⟩
    · refine count_next () hk (by rw [wrap_succ hk (by omega)]; rfl) ?_
      exact all_succ' hi h
  · intro _ hi
    conv => whnf
    repeat' (first | (refine Split.mk (fun h => ?_) (fun h => ?_) <;> (try simp only [decide_eq_true_eq, decide_eq_false_iff_not, Bool.not_eq_true', Bool.not_eq_false', beq_iff_eq, beq_eq_false_iff_ne] at h) <;> (first | (exfalso; first | omega | exact h trivial) | (conv => whnf))) | (refine CondG.mk (fun h => ?_) (fun h => ?_) <;> (try simp only [decide_eq_true_eq, decide_eq_false_iff_not, Bool.not_eq_true', Bool.not_eq_false', beq_iff_eq, beq_eq_false_iff_ne] at h) <;> (first | (exfalso; first | omega | exact h trivial) | (conv => whnf))) | (refine Ask.mk (by first | omega | (unfold roomOK; simp [cutRows]; done) | (unfold roomOK; simp [cutRows]; omega)) ?_; conv => whnf) | (refine AppG.mk (by first | omega | (unfold roomOK; simp [cutRows]; done) | (unfold roomOK; simp [cutRows]; omega)) ?_; conv => whnf) | (refine SliceG.fr ?_; conv => whnf) | fail)
    exact .mk ⟨by rw [idxP_miss (fun i h => hi i h h)]; rfl, rfl⟩
set_option maxRecDepth 100000 in
set_option maxHeartbeats 4000000 in
theorem ixIKC_pc (key : Int) (g : Nat) (p : Int → Bool) (l : List Int) (hl : l.length ≤ 1000000) (hg : ∀ x ∈ l, PCp g [.c (.int .i64 x), .c (.ptr 0 0)] [.box [.int .i64 key]] (.c (.bool (p x))) [.box [.int .i64 key]]) : PCp 145 [.c (.lst 1 (l.map encI)), .c (.fn g [.ptr 0 0])] [.box [.int .i64 key]] (.c (.bool (l.any p))) [.box [.int .i64 key]] := by
  refine fn_sound (mt := mts) tab_fits tab_mixed Tryz.func145 (by rfl) (by kernel_rfl) (by kernel_rfl) Tryz.results145 (Nat.le_of_ble_eq_true (by kernel_rfl)) ?_
  conv => whnf
  repeat' (first | (refine Split.mk (fun h => ?_) (fun h => ?_) <;> (try simp only [decide_eq_true_eq, decide_eq_false_iff_not, Bool.not_eq_true', Bool.not_eq_false', beq_iff_eq, beq_eq_false_iff_ne] at h) <;> (first | (exfalso; first | omega | exact h trivial) | (conv => whnf))) | (refine CondG.mk (fun h => ?_) (fun h => ?_) <;> (try simp only [decide_eq_true_eq, decide_eq_false_iff_not, Bool.not_eq_true', Bool.not_eq_false', beq_iff_eq, beq_eq_false_iff_ne] at h) <;> (first | (exfalso; first | omega | exact h trivial) | (conv => whnf))) | (refine CallX.mk _ _ (by first | exact ixIK_pc key g p l hl hg) ?_; conv => whnf) | (refine CallG.mk _ _ (by first | exact ixIK_pc key g p l hl hg) ?_; conv => whnf) | (refine Ask.mk (by first | omega | (unfold roomOK; simp [cutRows]; done) | (unfold roomOK; simp [cutRows]; omega)) ?_; conv => whnf) | (refine AppG.mk (by first | omega | (unfold roomOK; simp [cutRows]; done) | (unfold roomOK; simp [cutRows]; omega)) ?_; conv => whnf) | (refine SliceG.fr ?_; conv => whnf) | fail)
  exact .mk ⟨by rw [← idxP_any]; rfl, rfl⟩
set_option maxRecDepth 100000 in
set_option maxHeartbeats 4000000 in
theorem room1_pc (n inner : Int) : PCp 146 [.c (.int .i64 n), .c (.ptr 0 0)] [.box [.int .i64 inner]] (.c (.bool (decide (inner < n)))) [.box [.int .i64 inner]] := by
  refine fn_sound (mt := mts) tab_fits tab_mixed Tryz.func146 (by rfl) (by kernel_rfl) (by kernel_rfl) Tryz.results146 (Nat.le_of_ble_eq_true (by kernel_rfl)) ?_
  conv => whnf
  repeat' (first | (refine Split.mk (fun h => ?_) (fun h => ?_) <;> (try simp only [decide_eq_true_eq, decide_eq_false_iff_not, Bool.not_eq_true', Bool.not_eq_false', beq_iff_eq, beq_eq_false_iff_ne, bne_iff_ne, bne_eq_false_iff_eq] at h) <;> (first | (exfalso; first | omega | exact h trivial) | (conv => whnf))) | (refine CondG.mk (fun h => ?_) (fun h => ?_) <;> (try simp only [decide_eq_true_eq, decide_eq_false_iff_not, Bool.not_eq_true', Bool.not_eq_false', beq_iff_eq, beq_eq_false_iff_ne, bne_iff_ne, bne_eq_false_iff_eq] at h) <;> (first | (exfalso; first | omega | exact h trivial) | (conv => whnf))) | (refine Ask.mk (by first | omega | (unfold roomOK; simp [cutRows]; done) | (unfold roomOK; simp [cutRows]; omega) | (simp [cutRows]; done) | (simp [cutRows]; omega)) ?_; conv => whnf) | (refine AppG.mk (by first | omega | (unfold roomOK; simp [cutRows]; done) | (unfold roomOK; simp [cutRows]; omega) | (simp [cutRows]; done) | (simp [cutRows]; omega)) ?_; conv => whnf) | (refine SliceG.fr ?_; conv => whnf) | (refine idx_at _ (by with_reducible rfl) (by first | assumption | omega) ?_; conv => whnf) | ((with_reducible refine row_map (by first | assumption | omega) ?_); conv => whnf) | ((with_reducible refine row_set (by first | assumption | omega | (simp only [List.length_set]; omega) | (simp; omega)) ?_); conv => whnf) | fail)
  exact .mk ⟨rfl, rfl⟩
set_option maxRecDepth 100000 in
set_option maxHeartbeats 4000000 in
theorem part_pc (n : Nat) : PCp 144 [.c (.int .i64 (n : Int))] [] (.c (.int .i64 (partV n))) [] := by
  refine fn_sound (mt := mts) tab_fits tab_mixed Tryz.func144 (by rfl) (by kernel_rfl) (by kernel_rfl) Tryz.results144 (Nat.le_of_ble_eq_true (by kernel_rfl)) ?_
  conv => whnf
  repeat' (first | (refine Split.mk (fun h => ?_) (fun h => ?_) <;> (try simp only [decide_eq_true_eq, decide_eq_false_iff_not, Bool.not_eq_true', Bool.not_eq_false', beq_iff_eq, beq_eq_false_iff_ne, bne_iff_ne, bne_eq_false_iff_eq] at h) <;> (first | (exfalso; first | omega | exact h trivial) | (conv => whnf))) | (refine CondG.mk (fun h => ?_) (fun h => ?_) <;> (try simp only [decide_eq_true_eq, decide_eq_false_iff_not, Bool.not_eq_true', Bool.not_eq_false', beq_iff_eq, beq_eq_false_iff_ne, bne_iff_ne, bne_eq_false_iff_eq] at h) <;> (first | (exfalso; first | omega | exact h trivial) | (conv => whnf))) | (refine Ask.mk (by first | omega | (unfold roomOK; simp [cutRows]; done) | (unfold roomOK; simp [cutRows]; omega) | (simp [cutRows]; done) | (simp [cutRows]; omega)) ?_; conv => whnf) | (refine AppG.mk (by first | omega | (unfold roomOK; simp [cutRows]; done) | (unfold roomOK; simp [cutRows]; omega) | (simp [cutRows]; done) | (simp [cutRows]; omega)) ?_; conv => whnf) | (refine SliceG.fr ?_; conv => whnf) | (refine idx_at _ (by with_reducible rfl) (by first | assumption | omega) ?_; conv => whnf) | ((with_reducible refine row_map (by first | assumption | omega) ?_); conv => whnf) | ((with_reducible refine row_set (by first | assumption | omega | (simp only [List.length_set]; omega) | (simp; omega)) ?_); conv => whnf) | fail)
  all_goals refine fini ?_
  all_goals unfold partV
  all_goals repeat' split
  all_goals omega
theorem partV_in (n : Nat) : 31 ≤ partV n ∧ partV n ≤ 53 := by
  unfold partV
  repeat' split
  all_goals omega
theorem room_w {inner : Int} {l : List Int} (hi : 1 ≤ inner ∧ inner ≤ 1000) (hl : l.length ≤ 100000) (ho : ∀ x ∈ l, 0 ≤ x ∧ x ≤ 1000) : IntKind.i64.wrap (100 * sqV l) = 100 * sqV l ∧ IntKind.i64.wrap (IntKind.i64.wrap (partV l.length * inner) * inner) = partV l.length * inner * inner ∧ 0 ≤ partV l.length * inner * inner := by
  have h1 := sq_in ho
  have h2 := partV_in l.length
  have h3 : 0 ≤ partV l.length * inner := Int.mul_nonneg (by omega) (by omega)
  have h4 : partV l.length * inner ≤ 53 * 1000 := Int.mul_le_mul (by omega) (by omega) (by omega) (by omega)
  have h5 : 0 ≤ partV l.length * inner * inner := Int.mul_nonneg h3 (by omega)
  have h6 : partV l.length * inner * inner ≤ 53000 * 1000 := Int.mul_le_mul (by omega) (by omega) (by omega) (by omega)
  refine ⟨wrap_in (by omega) (by omega), ?_, h5⟩
  rw [wrap_in (x := partV l.length * inner) (by omega) (by omega), wrap_in (by omega) (by omega)]
set_option maxRecDepth 100000 in
set_option maxHeartbeats 4000000 in
theorem dRoom_pc (inner : Int) (l : List Int) (hi : 1 ≤ inner ∧ inner ≤ 1000) (hl : l.length ≤ 100000) (ho : ∀ x ∈ l, 0 ≤ x ∧ x ≤ 1000) : PCp 89 [.c (.int .i64 inner), .c (.lst 1 (l.map encI))] [] (.c (.bool (roomB inner l))) [] := by
  have hlm : (l.map encI).length = l.length := List.length_map ..
  obtain ⟨w1, w2, _⟩ := room_w hi hl ho
  refine fn_sound (mt := mts) tab_fits tab_mixed Tryz.func89 (by rfl) (by kernel_rfl) (by kernel_rfl) Tryz.results89 (Nat.le_of_ble_eq_true (by kernel_rfl)) ?_
  conv => whnf
  repeat' (first | (refine Split.mk (fun h => ?_) (fun h => ?_) <;> (try simp only [decide_eq_true_eq, decide_eq_false_iff_not, Bool.not_eq_true', Bool.not_eq_false', beq_iff_eq, beq_eq_false_iff_ne, bne_iff_ne, bne_eq_false_iff_eq] at h) <;> (first | (exfalso; first | omega | exact h trivial) | (conv => whnf))) | (refine CondG.mk (fun h => ?_) (fun h => ?_) <;> (try simp only [decide_eq_true_eq, decide_eq_false_iff_not, Bool.not_eq_true', Bool.not_eq_false', beq_iff_eq, beq_eq_false_iff_ne, bne_iff_ne, bne_eq_false_iff_eq] at h) <;> (first | (exfalso; first | omega | exact h trivial) | (conv => whnf))) | (refine CallX.mk _ _ (by first | exact dSquares_pc l ho (by omega) | exact (by rw [hlm]; exact part_pc l.length) | exact ixIKC_pc inner 146 (fun n => decide (inner < n)) l (by omega) (fun x _ => room1_pc x inner)) ?_; conv => whnf) | (refine CallG.mk _ _ (by first | exact dSquares_pc l ho (by omega) | exact (by rw [hlm]; exact part_pc l.length) | exact ixIKC_pc inner 146 (fun n => decide (inner < n)) l (by omega) (fun x _ => room1_pc x inner)) ?_; conv => whnf) | (refine Ask.mk (by first | omega | (unfold roomOK; simp [cutRows]; done) | (unfold roomOK; simp [cutRows]; omega) | (simp [cutRows]; done) | (simp [cutRows]; omega)) ?_; conv => whnf) | (refine AppG.mk (by first | omega | (unfold roomOK; simp [cutRows]; done) | (unfold roomOK; simp [cutRows]; omega) | (simp [cutRows]; done) | (simp [cutRows]; omega)) ?_; conv => whnf) | (refine SliceG.fr ?_; conv => whnf) | (refine idx_at _ (by with_reducible rfl) (by first | assumption | omega) ?_; conv => whnf) | ((with_reducible refine row_map (by first | assumption | omega) ?_); conv => whnf) | ((with_reducible refine row_set (by first | assumption | omega | (simp only [List.length_set]; omega) | (simp; omega)) ?_); conv => whnf) | fail)
  all_goals rw [w1, w2] at *
  · refine finb ?_
    unfold roomB; rw [decide_eq_true h, Bool.true_and]
  · refine finb ?_
    unfold roomB; rw [decide_eq_false h, Bool.false_and]
set_option maxRecDepth 100000 in
set_option maxHeartbeats 4000000 in
theorem dMost_pc (x : Du) (all : List Int) (outer : Int) (hi : 1 ≤ x.inner ∧ x.inner ≤ 1000) (hl : all.length ≤ 20) (ho : ∀ y ∈ all, 0 ≤ y ∧ y ≤ 1000) (hq : 0 ≤ outer ∧ outer ≤ 1000) : PCp 85 [.agg (encDu x), .c (.lst 1 (all.map encI)), .c (.int .i64 outer)] [] (.c (.int .i64 (mostV x.inner all outer (20 - all.length) : Nat))) [] := by
  have hlm : (all.map encI).length = all.length := List.length_map ..
  have hin : ∀ n, ∀ y ∈ all ++ List.replicate n outer, 0 ≤ y ∧ y ≤ 1000 := by
    intro n y hy
    rcases List.mem_append.1 hy with h | h
    · exact ho y h
    · rw [(List.mem_replicate.1 h).2]; exact hq
  have hw : IntKind.i64.wrap (20 - ((all.map encI).length : Nat)) = ((20 - all.length : Nat) : Int) := by rw [hlm, wrap_in (by omega) (by omega)]; omega
  refine fn_sound (mt := mts) tab_fits tab_mixed Tryz.func85 (by rfl) (by kernel_rfl) (by kernel_rfl) Tryz.results85 (Nat.le_of_ble_eq_true (by kernel_rfl)) ?_
  conv => whnf
  rw [hw]
  refine loop_while (fun (n : Nat) => n) [] [1, 2, 3, 7] (fun (n : Nat) => [(7, .c (.int .i64 (n : Int)))]) (fun (n : Nat) => []) (fun (n : Nat) => n ≤ 20 - all.length ∧ mostV x.inner all outer n = mostV x.inner all outer (20 - all.length)) (20 - all.length) ?_
  conv => whnf
  refine ⟨(by first | rfl | (simp; done) | (simp; rfl)), ?_, ?_⟩
  · exact ⟨Nat.le_refl _, rfl⟩
  · intro n ⟨h1, h2⟩
    conv => whnf
    repeat' (first | (refine Split.mk (fun h => ?_) (fun h => ?_) <;> (try simp only [decide_eq_true_eq, decide_eq_false_iff_not, Bool.not_eq_true', Bool.not_eq_false', beq_iff_eq, beq_eq_false_iff_ne, bne_iff_ne, bne_eq_false_iff_eq] at h) <;> (first | (exfalso; first | omega | exact h trivial) | (conv => whnf))) | (refine CondG.mk (fun h => ?_) (fun h => ?_) <;> (try simp only [decide_eq_true_eq, decide_eq_false_iff_not, Bool.not_eq_true', Bool.not_eq_false', beq_iff_eq, beq_eq_false_iff_ne, bne_iff_ne, bne_eq_false_iff_eq] at h) <;> (first | (exfalso; first | omega | exact h trivial) | (conv => whnf))) | (refine CallX.mk _ _ (by first | exact cloneI_pc all (by omega)) ?_; conv => whnf) | (refine CallG.mk _ _ (by first | exact cloneI_pc all (by omega)) ?_; conv => whnf) | (refine Ask.mk (by first | omega | (unfold roomOK; simp [cutRows]; done) | (unfold roomOK; simp [cutRows]; omega) | (simp [cutRows]; done) | (simp [cutRows]; omega)) ?_; conv => whnf) | (refine AppG.mk (by first | omega | (unfold roomOK; simp [cutRows]; done) | (unfold roomOK; simp [cutRows]; omega) | (simp [cutRows]; done) | (simp [cutRows]; omega)) ?_; conv => whnf) | (refine SliceG.fr ?_; conv => whnf) | (refine idx_at _ (by with_reducible rfl) (by first | assumption | omega) ?_; conv => whnf) | ((with_reducible refine row_map (by first | assumption | omega) ?_); conv => whnf) | ((with_reducible refine row_set (by first | assumption | omega | (simp only [List.length_set]; omega) | (simp; omega)) ?_); conv => whnf) | fail)
    · obtain ⟨m, rfl⟩ : ∃ m, n = m + 1 := ⟨n - 1, by omega⟩
      have hlr : ∀ k, k ≤ m + 1 → (all ++ List.replicate k outer).length ≤ 100 := by intro k hk; simp; omega
      refine loop_for (m + 1) [] [1, 2, 3, 7, 8, 18, 19] (fun k (_ : Unit) => [(19, .c (.int .i64 (k : Int)))]) (fun k (_ : Unit) => [(1, .row 3 1 ((all ++ List.replicate k outer).map encI))]) (fun k (_ : Unit) => True) (()) ?_
      conv => whnf
      refine ⟨(by first | rfl | (simp; done) | (simp; rfl)), (by trivial), ?_, ?_⟩
      · intro k _ hk _
        have h3 := hlr k (by omega)
        have h4 : ((all ++ List.replicate k outer).map encI).length ≤ 100 := by rw [List.length_map]; exact h3
        conv => whnf
        repeat' (first | (refine Split.mk (fun h => ?_) (fun h => ?_) <;> (try simp only [decide_eq_true_eq, decide_eq_false_iff_not, Bool.not_eq_true', Bool.not_eq_false', beq_iff_eq, beq_eq_false_iff_ne, bne_iff_ne, bne_eq_false_iff_eq] at h) <;> (first | (exfalso; first | omega | exact h trivial) | (conv => whnf))) | (refine CondG.mk (fun h => ?_) (fun h => ?_) <;> (try simp only [decide_eq_true_eq, decide_eq_false_iff_not, Bool.not_eq_true', Bool.not_eq_false', beq_iff_eq, beq_eq_false_iff_ne, bne_iff_ne, bne_eq_false_iff_eq] at h) <;> (first | (exfalso; first | omega | exact h trivial) | (conv => whnf))) | (refine Ask.mk (by first | omega | (unfold roomOK; simp [cutRows]; done) | (unfold roomOK; simp [cutRows]; omega) | (simp [cutRows]; done) | (simp [cutRows]; omega)) ?_; conv => whnf) | (refine AppG.mk (by first | omega | (unfold roomOK; simp [cutRows]; done) | (unfold roomOK; simp [cutRows]; omega) | (simp [cutRows]; done) | (simp [cutRows]; omega)) ?_; conv => whnf) | (refine SliceG.fr ?_; conv => whnf) | (refine idx_at _ (by with_reducible rfl) (by first | assumption | omega) ?_; conv => whnf) | ((with_reducible refine row_map (by first | assumption | omega) ?_); conv => whnf) | ((with_reducible refine row_set (by first | assumption | omega | (simp only [List.length_set]; omega) | (simp; omega)) ?_); conv => whnf) | fail)
        exact count_next () hk (by rw [wrap_succ hk (by omega), List.replicate_succ', ← List.append_assoc, List.map_append (l₁ := all ++ List.replicate k outer)]; rfl) trivial
      · intro _ _
        have h3 := hlr (m + 1) (by omega)
        have hR := dRoom_pc x.inner (all ++ List.replicate (m + 1) outer) hi (by omega) (hin _)
        conv => whnf
        repeat' (first | (refine Split.mk (fun h => ?_) (fun h => ?_) <;> (try simp only [decide_eq_true_eq, decide_eq_false_iff_not, Bool.not_eq_true', Bool.not_eq_false', beq_iff_eq, beq_eq_false_iff_ne, bne_iff_ne, bne_eq_false_iff_eq] at h) <;> (first | (exfalso; first | omega | exact h trivial) | (conv => whnf))) | (refine CondG.mk (fun h => ?_) (fun h => ?_) <;> (try simp only [decide_eq_true_eq, decide_eq_false_iff_not, Bool.not_eq_true', Bool.not_eq_false', beq_iff_eq, beq_eq_false_iff_ne, bne_iff_ne, bne_eq_false_iff_eq] at h) <;> (first | (exfalso; first | omega | exact h trivial) | (conv => whnf))) | (refine CallX.mk _ _ (by first | exact hR) ?_; conv => whnf) | (refine CallG.mk _ _ (by first | exact hR) ?_; conv => whnf) | (refine Ask.mk (by first | omega | (unfold roomOK; simp [cutRows]; done) | (unfold roomOK; simp [cutRows]; omega) | (simp [cutRows]; done) | (simp [cutRows]; omega)) ?_; conv => whnf) | (refine AppG.mk (by first | omega | (unfold roomOK; simp [cutRows]; done) | (unfold roomOK; simp [cutRows]; omega) | (simp [cutRows]; done) | (simp [cutRows]; omega)) ?_; conv => whnf) | (refine SliceG.fr ?_; conv => whnf) | (refine idx_at _ (by with_reducible rfl) (by first | assumption | omega) ?_; conv => whnf) | ((with_reducible refine row_map (by first | assumption | omega) ?_); conv => whnf) | ((with_reducible refine row_set (by first | assumption | omega | (simp only [List.length_set]; omega) | (simp; omega)) ?_); conv => whnf) | fail)
        · exact fini (by rw [← h2, mostV, if_pos h])
        · exact meas_next m (by omega) (by rw [show IntKind.i64.wrap (((m + 1 : Nat) : Int) - 1) = (m : Int) by rw [wrap_in (by omega) (by omega)]; omega]; rfl) ⟨by omega, by rw [← h2, mostV, if_neg (by rw [h]; decide)]⟩
    · have : n = 0 := by omega
      subst this
      exact fini (by rw [← h2]; rfl)
theorem roomy_in {all : List Int} {outer : Int} (ho : ∀ y ∈ all, 0 ≤ y ∧ y ≤ 1000) (hq : 0 ≤ outer ∧ outer ≤ 1000) : ∀ y ∈ all ++ [outer], 0 ≤ y ∧ y ≤ 1000 := by
  intro y hy
  rcases List.mem_append.1 hy with h | h
  · exact ho y h
  · simp at h; subst h; exact hq
def fitsV (x : Du) (l : List Ly) (outer : Int) : Bool := decide ((outV l x.key ++ [outer]).length ≤ 20) && roomB x.inner (outV l x.key ++ [outer])
set_option maxRecDepth 100000 in
set_option maxHeartbeats 4000000 in
theorem dFits_pc (d : List Du) (l : List Ly) (hok : LyOk d l) (x : Du) (hx : x ∈ d) (outer : Int) (hq : 0 ≤ outer ∧ outer ≤ 1000) : PCp 87 [.agg (encDu x), .c (.lst 3 (l.map encLy)), .c (.int .i64 outer)] [] (.c (.bool (fitsV x l outer))) [] := by
  have hll := hok.len
  have hi := hok.du.each _ hx
  have hfew := hok.few _ hx
  have hol := outV_len l x.key
  have hm1 : ((outV l x.key).map encI).length = (outV l x.key).length := List.length_map ..
  have hm2 : ((outV l x.key ++ [outer]).map encI).length = (outV l x.key).length + 1 := by simp
  have hR := dRoom_pc x.inner (outV l x.key ++ [outer]) (by omega) (by simp; omega) (roomy_in (hok.o1000 x.key) hq)
  have hap : (outV l x.key).map encI ++ [[.int .i64 outer]] = (outV l x.key ++ [outer]).map encI := by simp [encI]
  have hd : ∀ z : Nat, decide ((z : Int) ≤ 20) = decide (z ≤ 20) := fun z => by rw [decide_eq_decide]; omega
  have hl1 : (outV l x.key ++ [outer]).length = (outV l x.key).length + 1 := by simp
  refine fn_sound (mt := mts) tab_fits tab_mixed Tryz.func87 (by rfl) (by kernel_rfl) (by kernel_rfl) Tryz.results87 (Nat.le_of_ble_eq_true (by kernel_rfl)) ?_
  conv => whnf
  repeat' (first | (refine Split.mk (fun h => ?_) (fun h => ?_) <;> (try simp only [decide_eq_true_eq, decide_eq_false_iff_not, Bool.not_eq_true', Bool.not_eq_false', beq_iff_eq, beq_eq_false_iff_ne, bne_iff_ne, bne_eq_false_iff_eq] at h) <;> (first | (exfalso; first | omega | exact h trivial) | (conv => whnf))) | (refine CondG.mk (fun h => ?_) (fun h => ?_) <;> (try simp only [decide_eq_true_eq, decide_eq_false_iff_not, Bool.not_eq_true', Bool.not_eq_false', beq_iff_eq, beq_eq_false_iff_ne, bne_iff_ne, bne_eq_false_iff_eq] at h) <;> (first | (exfalso; first | omega | exact h trivial) | (conv => whnf))) | (refine CallX.mk _ _ (by first | exact dOuters_pc l (by omega) hok.rl x.key | exact (by rw [← hap] at hR; exact hR)) ?_; conv => whnf) | (refine CallG.mk _ _ (by first | exact dOuters_pc l (by omega) hok.rl x.key | exact (by rw [← hap] at hR; exact hR)) ?_; conv => whnf) | (refine Ask.mk (by first | omega | (unfold roomOK; simp [cutRows]; done) | (unfold roomOK; simp [cutRows]; omega) | (simp [cutRows]; done) | (simp [cutRows]; omega)) ?_; conv => whnf) | (refine AppG.mk (by first | omega | (unfold roomOK; simp [cutRows]; done) | (unfold roomOK; simp [cutRows]; omega) | (simp [cutRows]; done) | (simp [cutRows]; omega)) ?_; conv => whnf) | (refine SliceG.fr ?_; conv => whnf) | (refine idx_at _ (by with_reducible rfl) (by first | assumption | omega) ?_; conv => whnf) | ((with_reducible refine row_map (by first | assumption | omega) ?_); conv => whnf) | ((with_reducible refine row_set (by first | assumption | omega | (simp only [List.length_set]; omega) | (simp; omega)) ?_); conv => whnf) | fail)
  all_goals refine finb ?_
  all_goals unfold fitsV
  · rw [decide_eq_true (show (outV l x.key ++ [outer]).length ≤ 20 by simp [cutRows] at h; omega), Bool.true_and]
  · rw [decide_eq_false (show ¬ (outV l x.key ++ [outer]).length ≤ 20 by simp [cutRows] at h; omega), Bool.false_and]
def twoE (d : List Du) (l : List Ly) (k : ByteArray) (outer : Int) : Int := if oneE d l k ≠ 0 then oneE d l k else if outer < 1 ∨ 1000 < outer then 1 else 0
theorem twoE_ok {d : List Du} {l : List Ly} {k : ByteArray} {outer : Int} (h : twoE d l k outer = 0) : oneE d l k = 0 ∧ 0 ≤ outer ∧ outer ≤ 1000 ∧ duV d l k = duG d k := by
  unfold twoE at h
  split at h
  · exact absurd h (by assumption)
  · split at h
    · omega
    · have h1 : oneE d l k = 0 := by omega
      exact ⟨h1, by omega, by omega, by rw [duV, if_pos h1]⟩
theorem twoE_first (d : List Du) (l : List Ly) (k : ByteArray) (outer : Int) : firstErr [oneE d l k, if outer < 1 ∨ 1000 < outer then 1 else 0] = twoE d l k outer := by
  unfold twoE firstErr firstErr firstErr
  repeat' split
  all_goals omega
def fitsX (d : List Du) (l : List Ly) (k : ByteArray) (outer : Int) : Bool := if twoE d l k outer = 0 then fitsV (duG d k) l outer else false
set_option maxRecDepth 100000 in
set_option maxHeartbeats 4000000 in
theorem dFitsX_pc (d : List Du) (l : List Ly) (hx : ∀ x ∈ l, x.ducts.length ≤ 1000000) (k : ByteArray) (outer : Int) : PCp 35 [.c (.lst 5 (d.map encDu)), .c (.lst 3 (l.map encLy)), .c (.str k), .c (.int .i64 outer)] [] (.tup [.c (.bool (fitsX d l k outer)), .c (.int .i64 (twoE d l k outer))]) [] := by
  refine fn_sound (mt := mts) tab_fits tab_mixed Tryz.func35 (by rfl) (by kernel_rfl) (by kernel_rfl) Tryz.results35 (Nat.le_of_ble_eq_true (by kernel_rfl)) ?_
  conv => whnf
  repeat' (first | (refine Split.mk (fun h => ?_) (fun h => ?_) <;> (try simp only [decide_eq_true_eq, decide_eq_false_iff_not, Bool.not_eq_true', Bool.not_eq_false', beq_iff_eq, beq_eq_false_iff_ne, bne_iff_ne, bne_eq_false_iff_eq] at h) <;> (first | (exfalso; first | omega | exact h trivial) | (conv => whnf))) | (refine CondG.mk (fun h => ?_) (fun h => ?_) <;> (try simp only [decide_eq_true_eq, decide_eq_false_iff_not, Bool.not_eq_true', Bool.not_eq_false', beq_iff_eq, beq_eq_false_iff_ne, bne_iff_ne, bne_eq_false_iff_eq] at h) <;> (first | (exfalso; first | omega | exact h trivial) | (conv => whnf))) | (refine CallX.mk _ _ (by first | exact ductOf_pc d l hx k | exact dOuterFault_pc outer | exact first_pc [oneE d l k, if outer < 1 ∨ 1000 < outer then 1 else 0] (by simp)) ?_; conv => whnf) | (refine CallG.mk _ _ (by first | exact ductOf_pc d l hx k | exact dOuterFault_pc outer | exact first_pc [oneE d l k, if outer < 1 ∨ 1000 < outer then 1 else 0] (by simp)) ?_; conv => whnf) | (refine Ask.mk (by first | omega | (unfold roomOK; simp [cutRows]; done) | (unfold roomOK; simp [cutRows]; omega) | (simp [cutRows]; done) | (simp [cutRows]; omega)) ?_; conv => whnf) | (refine AppG.mk (by first | omega | (unfold roomOK; simp [cutRows]; done) | (unfold roomOK; simp [cutRows]; omega) | (simp [cutRows]; done) | (simp [cutRows]; omega)) ?_; conv => whnf) | (refine SliceG.fr ?_; conv => whnf) | (refine idx_at _ (by with_reducible rfl) (by first | assumption | omega) ?_; conv => whnf) | ((with_reducible refine row_map (by first | assumption | omega) ?_); conv => whnf) | ((with_reducible refine row_set (by first | assumption | omega | (simp only [List.length_set]; omega) | (simp; omega)) ?_); conv => whnf) | fail)
  all_goals rw [twoE_first] at *
  · exact .mk ⟨by rw [fitsX, if_neg h]; rfl, rfl⟩
  have h : twoE d l k outer = 0 := by simpa using h
  obtain ⟨h1, h2, h3, h4⟩ := twoE_ok h
  obtain ⟨hok, hk, hf⟩ := oneE_ok h1
  obtain ⟨hm, _⟩ := duG_in hok.du hk
  rw [h4]
  repeat' (first | (refine Split.mk (fun h => ?_) (fun h => ?_) <;> (try simp only [decide_eq_true_eq, decide_eq_false_iff_not, Bool.not_eq_true', Bool.not_eq_false', beq_iff_eq, beq_eq_false_iff_ne, bne_iff_ne, bne_eq_false_iff_eq] at h) <;> (first | (exfalso; first | omega | exact h trivial) | (conv => whnf))) | (refine CondG.mk (fun h => ?_) (fun h => ?_) <;> (try simp only [decide_eq_true_eq, decide_eq_false_iff_not, Bool.not_eq_true', Bool.not_eq_false', beq_iff_eq, beq_eq_false_iff_ne, bne_iff_ne, bne_eq_false_iff_eq] at h) <;> (first | (exfalso; first | omega | exact h trivial) | (conv => whnf))) | (refine CallX.mk _ _ (by first | exact dFits_pc d l hok (duG d k) hm outer ⟨h2, h3⟩) ?_; conv => whnf) | (refine CallG.mk _ _ (by first | exact dFits_pc d l hok (duG d k) hm outer ⟨h2, h3⟩) ?_; conv => whnf) | (refine Ask.mk (by first | omega | (unfold roomOK; simp [cutRows]; done) | (unfold roomOK; simp [cutRows]; omega) | (simp [cutRows]; done) | (simp [cutRows]; omega)) ?_; conv => whnf) | (refine AppG.mk (by first | omega | (unfold roomOK; simp [cutRows]; done) | (unfold roomOK; simp [cutRows]; omega) | (simp [cutRows]; done) | (simp [cutRows]; omega)) ?_; conv => whnf) | (refine SliceG.fr ?_; conv => whnf) | (refine idx_at _ (by with_reducible rfl) (by first | assumption | omega) ?_; conv => whnf) | ((with_reducible refine row_map (by first | assumption | omega) ?_); conv => whnf) | ((with_reducible refine row_set (by first | assumption | omega | (simp only [List.length_set]; omega) | (simp; omega)) ?_); conv => whnf) | fail)
  exact .mk ⟨by rw [fitsX, if_pos h, h]; rfl, rfl⟩
def mostX (d : List Du) (l : List Ly) (k : ByteArray) (outer : Int) : Nat := if twoE d l k outer = 0 then mostV (duG d k).inner (outV l k) outer (20 - (outV l k).length) else 0
set_option maxRecDepth 100000 in
set_option maxHeartbeats 4000000 in
theorem dMostX_pc (d : List Du) (l : List Ly) (hx : ∀ x ∈ l, x.ducts.length ≤ 1000000) (k : ByteArray) (outer : Int) : PCp 34 [.c (.lst 5 (d.map encDu)), .c (.lst 3 (l.map encLy)), .c (.str k), .c (.int .i64 outer)] [] (.tup [.c (.int .i64 (mostX d l k outer : Nat)), .c (.int .i64 (twoE d l k outer))]) [] := by
  refine fn_sound (mt := mts) tab_fits tab_mixed Tryz.func34 (by rfl) (by kernel_rfl) (by kernel_rfl) Tryz.results34 (Nat.le_of_ble_eq_true (by kernel_rfl)) ?_
  conv => whnf
  repeat' (first | (refine Split.mk (fun h => ?_) (fun h => ?_) <;> (try simp only [decide_eq_true_eq, decide_eq_false_iff_not, Bool.not_eq_true', Bool.not_eq_false', beq_iff_eq, beq_eq_false_iff_ne, bne_iff_ne, bne_eq_false_iff_eq] at h) <;> (first | (exfalso; first | omega | exact h trivial) | (conv => whnf))) | (refine CondG.mk (fun h => ?_) (fun h => ?_) <;> (try simp only [decide_eq_true_eq, decide_eq_false_iff_not, Bool.not_eq_true', Bool.not_eq_false', beq_iff_eq, beq_eq_false_iff_ne, bne_iff_ne, bne_eq_false_iff_eq] at h) <;> (first | (exfalso; first | omega | exact h trivial) | (conv => whnf))) | (refine CallX.mk _ _ (by first | exact ductOf_pc d l hx k | exact dOuterFault_pc outer | exact first_pc [oneE d l k, if outer < 1 ∨ 1000 < outer then 1 else 0] (by simp)) ?_; conv => whnf) | (refine CallG.mk _ _ (by first | exact ductOf_pc d l hx k | exact dOuterFault_pc outer | exact first_pc [oneE d l k, if outer < 1 ∨ 1000 < outer then 1 else 0] (by simp)) ?_; conv => whnf) | (refine Ask.mk (by first | omega | (unfold roomOK; simp [cutRows]; done) | (unfold roomOK; simp [cutRows]; omega) | (simp [cutRows]; done) | (simp [cutRows]; omega)) ?_; conv => whnf) | (refine AppG.mk (by first | omega | (unfold roomOK; simp [cutRows]; done) | (unfold roomOK; simp [cutRows]; omega) | (simp [cutRows]; done) | (simp [cutRows]; omega)) ?_; conv => whnf) | (refine SliceG.fr ?_; conv => whnf) | (refine idx_at _ (by with_reducible rfl) (by first | assumption | omega) ?_; conv => whnf) | ((with_reducible refine row_map (by first | assumption | omega) ?_); conv => whnf) | ((with_reducible refine row_set (by first | assumption | omega | (simp only [List.length_set]; omega) | (simp; omega)) ?_); conv => whnf) | fail)
  all_goals rw [twoE_first] at *
  · exact .mk ⟨by rw [mostX, if_neg h]; rfl, rfl⟩
  have h : twoE d l k outer = 0 := by simpa using h
  obtain ⟨h1, h2, h3, h4⟩ := twoE_ok h
  obtain ⟨hok, hk, hf⟩ := oneE_ok h1
  obtain ⟨hm, _⟩ := duG_in hok.du hk
  have hi := hok.du.each _ hm
  have hll := hok.len
  rw [h4]
  repeat' (first | (refine Split.mk (fun h => ?_) (fun h => ?_) <;> (try simp only [decide_eq_true_eq, decide_eq_false_iff_not, Bool.not_eq_true', Bool.not_eq_false', beq_iff_eq, beq_eq_false_iff_ne, bne_iff_ne, bne_eq_false_iff_eq] at h) <;> (first | (exfalso; first | omega | exact h trivial) | (conv => whnf))) | (refine CondG.mk (fun h => ?_) (fun h => ?_) <;> (try simp only [decide_eq_true_eq, decide_eq_false_iff_not, Bool.not_eq_true', Bool.not_eq_false', beq_iff_eq, beq_eq_false_iff_ne, bne_iff_ne, bne_eq_false_iff_eq] at h) <;> (first | (exfalso; first | omega | exact h trivial) | (conv => whnf))) | (refine CallX.mk _ _ (by first | exact dOuters_pc l (by omega) hok.rl k | exact dMost_pc (duG d k) (outV l k) outer (by omega) (hok.out20 hk) (hok.o1000 k) ⟨h2, h3⟩) ?_; conv => whnf) | (refine CallG.mk _ _ (by first | exact dOuters_pc l (by omega) hok.rl k | exact dMost_pc (duG d k) (outV l k) outer (by omega) (hok.out20 hk) (hok.o1000 k) ⟨h2, h3⟩) ?_; conv => whnf) | (refine Ask.mk (by first | omega | (unfold roomOK; simp [cutRows]; done) | (unfold roomOK; simp [cutRows]; omega) | (simp [cutRows]; done) | (simp [cutRows]; omega)) ?_; conv => whnf) | (refine AppG.mk (by first | omega | (unfold roomOK; simp [cutRows]; done) | (unfold roomOK; simp [cutRows]; omega) | (simp [cutRows]; done) | (simp [cutRows]; omega)) ?_; conv => whnf) | (refine SliceG.fr ?_; conv => whnf) | (refine idx_at _ (by with_reducible rfl) (by first | assumption | omega) ?_; conv => whnf) | ((with_reducible refine row_map (by first | assumption | omega) ?_); conv => whnf) | ((with_reducible refine row_set (by first | assumption | omega | (simp only [List.length_set]; omega) | (simp; omega)) ?_); conv => whnf) | fail)
  exact .mk ⟨by rw [mostX, if_pos h, h]; rfl, rfl⟩
end Go.Proofs.YtllpjcgadfmipaaGreat

/- Ducts: overfull ones, cables together. -/
namespace Go.Proofs.YtllpjcgadfmipaaGreat
set_option linter.unusedVariables false
set_option linter.unusedSimpArgs false
open Abs

def overL (d : List Du) (l : List Ly) : List Du := d.filter fun x => !roomB x.inner (outV l x.key)
def overV (d : List Du) (l : List Ly) : List ByteArray := if lyFault d l = 0 then (overL d l).map Du.key else []
theorem over_take {d : List Du} {l : List Ly} {k : Nat} (h : k < d.length) : overL (d.take (k + 1)) l = overL (d.take k) l ++ (if roomB d[k].inner (outV l d[k].key) = true then [] else [d[k]]) := by
  unfold overL
  rw [List.take_succ_eq_append_getElem h, List.filter_append]
  by_cases e : roomB d[k].inner (outV l d[k].key) = true <;> simp [e]
theorem over_len (d : List Du) (l : List Ly) : (overL d l).length ≤ d.length := List.length_filter_le _ _
set_option maxRecDepth 100000 in
set_option maxHeartbeats 4000000 in
theorem dOver_pc (d : List Du) (l : List Ly) (hx : ∀ x ∈ l, x.ducts.length ≤ 1000000) : PCp 37 [.c (.lst 5 (d.map encDu)), .c (.lst 3 (l.map encLy))] [] (.tup [.c (.lst 1 ((overV d l).map encS)), .c (.int .i64 (lyFault d l))]) [] := by
  have hlm : (d.map encDu).length = d.length := List.length_map ..
  refine fn_sound (mt := mts) tab_fits tab_mixed Tryz.func37 (by rfl) (by kernel_rfl) (by kernel_rfl) Tryz.results37 (Nat.le_of_ble_eq_true (by kernel_rfl)) ?_
  conv => whnf
  repeat' (first | (refine Split.mk (fun h => ?_) (fun h => ?_) <;> (try simp only [decide_eq_true_eq, decide_eq_false_iff_not, Bool.not_eq_true', Bool.not_eq_false', beq_iff_eq, beq_eq_false_iff_ne, bne_iff_ne, bne_eq_false_iff_eq] at h) <;> (first | (exfalso; first | omega | exact h trivial) | (conv => whnf))) | (refine CondG.mk (fun h => ?_) (fun h => ?_) <;> (try simp only [decide_eq_true_eq, decide_eq_false_iff_not, Bool.not_eq_true', Bool.not_eq_false', beq_iff_eq, beq_eq_false_iff_ne, bne_iff_ne, bne_eq_false_iff_eq] at h) <;> (first | (exfalso; first | omega | exact h trivial) | (conv => whnf))) | (refine CallX.mk _ _ (by first | exact checkLying_pc d l hx) ?_; conv => whnf) | (refine CallG.mk _ _ (by first | exact checkLying_pc d l hx) ?_; conv => whnf) | (refine Ask.mk (by first | omega | (unfold roomOK; simp [cutRows]; done) | (unfold roomOK; simp [cutRows]; omega) | (simp [cutRows]; done) | (simp [cutRows]; omega)) ?_; conv => whnf) | (refine AppG.mk (by first | omega | (unfold roomOK; simp [cutRows]; done) | (unfold roomOK; simp [cutRows]; omega) | (simp [cutRows]; done) | (simp [cutRows]; omega)) ?_; conv => whnf) | (refine SliceG.fr ?_; conv => whnf) | (refine idx_at _ (by with_reducible rfl) (by first | assumption | omega) ?_; conv => whnf) | ((with_reducible refine row_map (by first | assumption | omega) ?_); conv => whnf) | ((with_reducible refine row_set (by first | assumption | omega | (simp only [List.length_set]; omega) | (simp; omega)) ?_); conv => whnf) | fail)
  · refine .weak [] (.tup _ _ rfl ?_) rfl (Nat.le_refl _)
    intro i a b ha hb
    match i with
    | 0 => cases ha; cases hb; rw [overV, if_neg h]; exact .nil 1
    | 1 => cases ha; cases hb; exact .refl _
  have h : lyFault d l = 0 := by simpa using h
  have hok := lyFault_ok h
  have hll := hok.len
  have hdl := hok.du.len
  rw [overV, if_pos h, h]
  refine loop_for (d.length) [.sl 7 9 1] [1, 7, 17, 18, 19] (fun k (_ : Unit) => [(19, .c (.int .i64 (k : Int)))]) (fun k (_ : Unit) => [(0, .row 9 1 (((overL (d.take k) l).map Du.key).map encS))]) (fun k (_ : Unit) => True) (()) ?_
  conv => whnf
  refine ⟨(by first | rfl | (simp; done) | (simp; rfl)), (by trivial), ?_, ?_⟩
  · intro k _ hk _
    have hle := over_len (d.take k) l
    have hcm : (((overL (d.take k) l).map Du.key).map encS).length = (overL (d.take k) l).length := by simp
    have htl : (d.take k).length = k := by rw [List.length_take]; omega
    have ht := over_take (l := l) hk
    have hm := List.getElem_mem hk
    have hi := hok.du.each _ hm
    have hfew := hok.few _ hm
    have hol := outV_len l d[k].key
    have hR := dRoom_pc d[k].inner (outV l d[k].key) (by omega) (by omega) (hok.o1000 _)
    conv => whnf
    repeat' (first | (refine Split.mk (fun h => ?_) (fun h => ?_) <;> (try simp only [decide_eq_true_eq, decide_eq_false_iff_not, Bool.not_eq_true', Bool.not_eq_false', beq_iff_eq, beq_eq_false_iff_ne, bne_iff_ne, bne_eq_false_iff_eq] at h) <;> (first | (exfalso; first | omega | exact h trivial) | (conv => whnf))) | (refine CondG.mk (fun h => ?_) (fun h => ?_) <;> (try simp only [decide_eq_true_eq, decide_eq_false_iff_not, Bool.not_eq_true', Bool.not_eq_false', beq_iff_eq, beq_eq_false_iff_ne, bne_iff_ne, bne_eq_false_iff_eq] at h) <;> (first | (exfalso; first | omega | exact h trivial) | (conv => whnf))) | (refine CallX.mk _ _ (by first | exact dOuters_pc l (by omega) hok.rl d[k].key | exact hR) ?_; conv => whnf) | (refine CallG.mk _ _ (by first | exact dOuters_pc l (by omega) hok.rl d[k].key | exact hR) ?_; conv => whnf) | (refine Ask.mk (by first | omega | (unfold roomOK; simp [cutRows]; done) | (unfold roomOK; simp [cutRows]; omega) | (simp [cutRows]; done) | (simp [cutRows]; omega)) ?_; conv => whnf) | (refine AppG.mk (by first | omega | (unfold roomOK; simp [cutRows]; done) | (unfold roomOK; simp [cutRows]; omega) | (simp [cutRows]; done) | (simp [cutRows]; omega)) ?_; conv => whnf) | (refine SliceG.fr ?_; conv => whnf) | (refine idx_at _ (by with_reducible rfl) (by first | assumption | omega) ?_; conv => whnf) | ((with_reducible refine row_map (by first | assumption | omega) ?_); conv => whnf) | ((with_reducible refine row_set (by first | assumption | omega | (simp only [List.length_set]; omega) | (simp; omega)) ?_); conv => whnf) | fail)
    · rw [if_neg (by rw [h]; decide)] at ht
      exact count_next () hk (by rw [wrap_succ hk (by omega), ht, List.map_append, List.map_append]; rfl) trivial
    · rw [if_pos h, List.append_nil] at ht
      exact count_next () hk (by rw [wrap_succ hk (by omega), ht]; rfl) trivial
  · intro _ _
    rw [List.take_length]
    conv => whnf
    repeat' (first | (refine Split.mk (fun h => ?_) (fun h => ?_) <;> (try simp only [decide_eq_true_eq, decide_eq_false_iff_not, Bool.not_eq_true', Bool.not_eq_false', beq_iff_eq, beq_eq_false_iff_ne, bne_iff_ne, bne_eq_false_iff_eq] at h) <;> (first | (exfalso; first | omega | exact h trivial) | (conv => whnf))) | (refine CondG.mk (fun h => ?_) (fun h => ?_) <;> (try simp only [decide_eq_true_eq, decide_eq_false_iff_not, Bool.not_eq_true', Bool.not_eq_false', beq_iff_eq, beq_eq_false_iff_ne, bne_iff_ne, bne_eq_false_iff_eq] at h) <;> (first | (exfalso; first | omega | exact h trivial) | (conv => whnf))) | (refine Ask.mk (by first | omega | (unfold roomOK; simp [cutRows]; done) | (unfold roomOK; simp [cutRows]; omega) | (simp [cutRows]; done) | (simp [cutRows]; omega)) ?_; conv => whnf) | (refine AppG.mk (by first | omega | (unfold roomOK; simp [cutRows]; done) | (unfold roomOK; simp [cutRows]; omega) | (simp [cutRows]; done) | (simp [cutRows]; omega)) ?_; conv => whnf) | (refine SliceG.fr ?_; conv => whnf) | (refine idx_at _ (by with_reducible rfl) (by first | assumption | omega) ?_; conv => whnf) | ((with_reducible refine row_map (by first | assumption | omega) ?_); conv => whnf) | ((with_reducible refine row_set (by first | assumption | omega | (simp only [List.length_set]; omega) | (simp; omega)) ?_); conv => whnf) | fail)
    refine .frz 0 _ _ _ rfl (.weak [_] (.tup _ _ rfl ?_) rfl (Nat.le_refl _))
    intro i a b ha hb
    match i with
    | 0 => cases ha; cases hb; exact .fro 0 _ _ rfl
    | 1 => cases ha; cases hb; exact .refl _
end Go.Proofs.YtllpjcgadfmipaaGreat

/- Plain: what fits, the most that fit, and one more. -/
namespace Go.Proofs.YtllpjcgadfmipaaGreat
set_option linter.unusedVariables false
set_option linter.unusedSimpArgs false
open Abs

theorem mostV_spec (inner : Int) (all : List Int) (outer : Int) : ∀ N, mostV inner all outer N ≤ N ∧ (0 < mostV inner all outer N → roomB inner (all ++ List.replicate (mostV inner all outer N) outer) = true) ∧ ∀ m, mostV inner all outer N < m → m ≤ N → roomB inner (all ++ List.replicate m outer) = false
  | 0 => ⟨Nat.le_refl _, fun h => by simp [mostV] at h, fun m h1 h2 => by simp [mostV] at h1; omega⟩
  | N + 1 => by
    obtain ⟨h1, h2, h3⟩ := mostV_spec inner all outer N
    rw [mostV]
    by_cases q : roomB inner (all ++ List.replicate (N + 1) outer) = true
    · rw [if_pos q]
      exact ⟨Nat.le_refl _, fun _ => q, fun m a b => by omega⟩
    · rw [if_neg q]
      refine ⟨by omega, h2, fun m a b => ?_⟩
      by_cases e : m = N + 1
      · subst e; simpa using q
      · exact h3 m a (by omega)
def bZ : ByteArray := ⟨#[122]⟩
def bZZ : ByteArray := ⟨#[122, 122]⟩
def lyNames : List ByteArray := [⟨#[107, 49]⟩, ⟨#[107, 50]⟩, ⟨#[107, 51]⟩, ⟨#[107, 52]⟩]
theorem z_key : ∀ i, i < 20 → keyB (lab bZ (i : Nat)) = true := by
  have h : (List.range 20).all (fun i => keyB (lab bZ (i : Nat))) = true := by decide +kernel
  intro i hi
  exact List.all_eq_true.1 h i (List.mem_range.2 hi)
theorem z_lt : ∀ i j, i < j → j < 20 → ltB (lab bZ (i : Nat)) (lab bZ (j : Nat)) = true := by
  have h : (List.range 20).all (fun j => (List.range j).all fun i => ltB (lab bZ (i : Nat)) (lab bZ (j : Nat))) = true := by decide +kernel
  intro i j hi hj
  exact List.all_eq_true.1 (List.all_eq_true.1 h j (List.mem_range.2 hj)) i (List.mem_range.2 hi)
theorem z_names : ∀ c ∈ lyNames, ∀ i, i < 20 → ltB c (lab bZ (i : Nat)) = true := by
  have h : lyNames.all (fun c => (List.range 20).all fun i => ltB c (lab bZ (i : Nat))) = true := by decide +kernel
  intro c hc i hi
  exact List.all_eq_true.1 (List.all_eq_true.1 h c hc) i (List.mem_range.2 hi)
def zL (x : ByteArray) (outer : Int) (n : Nat) : List Ly := (List.range n).map fun (i : Nat) => ⟨lab bZ (i : Nat), outer, [x]⟩
theorem zL_succ (x : ByteArray) (outer : Int) (n : Nat) : zL x outer (n + 1) = zL x outer n ++ [⟨lab bZ (n : Nat), outer, [x]⟩] := by
  unfold zL; rw [List.range_succ, List.map_append]; rfl
def zzL (x : ByteArray) (outer : Int) : Ly := ⟨bZZ, outer, [x]⟩
section
variable {d : List Du} {c : List Ly}
def LyG (d : List Du) (x : Ly) : Prop := keyB x.cable = true ∧ cabErr d x = 0
theorem lyG_of {f : Bool} {b : ByteArray} {x : Ly} (h : lyErr d f b x = 0) : LyG d x := by
  unfold lyErr at h
  split at h
  · omega
  · split at h
    · omega
    · rename_i h1 _
      exact ⟨by simpa using h1, h⟩
theorem lysErr_of {l : List Ly} (hr : Rise Ly.cable l) (h : ∀ x ∈ l, LyG d x) : lysErr d l = 0 := by
  unfold lysErr
  refine seqErr_nil hr (fun x hx => ?_) (fun x hx => ?_)
  · obtain ⟨h1, h2⟩ := h x hx
    refine ⟨by unfold lyErr; simp [h1, h2], fun b hb => ?_⟩
    unfold lyErr
    simp [h1, h2, leB_not.2 hb]
  · cases l with
    | nil => simp at hx
    | cons a r =>
      simp at hx; subst hx
      obtain ⟨h1, h2⟩ := h a (by simp)
      unfold lyErr; simp [h1, h2]
theorem in_app (l m : List Ly) (k : ByteArray) : inL (l ++ m) k = inL l k ++ inL m k := by unfold inL; exact List.filter_append ..
theorem in_z (x k : ByteArray) (outer : Int) (n : Nat) : inL (zL x outer n) k = if k = x then zL x outer n else [] := by
  unfold inL
  by_cases h : k = x
  · rw [if_pos h, List.filter_eq_self]
    intro y hy
    unfold zL at hy
    obtain ⟨i, _, rfl⟩ := List.mem_map.1 hy
    simp [h]
  · rw [if_neg h, List.filter_eq_nil_iff]
    intro y hy
    unfold zL at hy
    obtain ⟨i, _, rfl⟩ := List.mem_map.1 hy
    simp [h]
theorem zL_len (x : ByteArray) (outer : Int) (n : Nat) : (zL x outer n).length = n := by unfold zL; simp
theorem out_z (x : ByteArray) (outer : Int) (n : Nat) : outV (c ++ zL x outer n) x = outV c x ++ List.replicate n outer := by
  unfold outV
  rw [in_app, in_z, if_pos rfl, List.map_append]
  congr 1
  unfold zL
  rw [List.map_map]
  exact List.map_const' .. |>.trans (by simp)
theorem out_zz (x : ByteArray) (outer : Int) (n : Nat) : outV (c ++ zL x outer n ++ [zzL x outer]) x = outV c x ++ List.replicate (n + 1) outer := by
  have h : inL [zzL x outer] x = [zzL x outer] := by unfold inL zzL; simp
  have h1 : outV (c ++ zL x outer n ++ [zzL x outer]) x = outV (c ++ zL x outer n) x ++ [outer] := by
    unfold outV
    rw [in_app, List.map_append, h]; rfl
  rw [h1, out_z, List.append_assoc, List.replicate_succ', ]
theorem full_facts (h : lyFault d c = 0) : duFault d = 0 ∧ c.length ≤ 300 ∧ (∀ x ∈ c, LyG d x) ∧ Rise Ly.cable c ∧ fullL d c = false := by
  unfold lyFault at h
  split at h
  · omega
  · split at h
    · omega
    · split at h
      · omega
      · rename_i h1 h2 h3
        have h3 : lysErr d c = 0 := by omega
        split at h
        · omega
        · rename_i h4
          refine ⟨by omega, by omega, fun x hx => ?_, (lysErr_ok h3).1, by simpa using h4⟩
          obtain ⟨f, b, h5⟩ := seqErr_all h3 x hx
          exact lyG_of h5
theorem cabErr_one {x : Du} (hd : DuOk d) (hx : x ∈ d) {outer : Int} (ho : 1 ≤ outer ∧ outer ≤ 1000) (k : ByteArray) : cabErr d ⟨k, outer, [x.key]⟩ = 0 := by
  have hh : hasD d x.key = true := hasD_iff.2 ⟨x, hx, rfl⟩
  unfold cabErr
  rw [if_neg (by simp only; omega), if_neg (by simp), if_neg (by simp)]
  simp [seqErr, keyErr, hh]
theorem rise_z (hc : Rise Ly.cable c) (hN : ∀ y ∈ c, y.cable ∈ lyNames) (x : ByteArray) (outer : Int) {n : Nat} (hn : n ≤ 20) : Rise Ly.cable (c ++ zL x outer n) := by
  refine List.pairwise_append.2 ⟨hc, ?_, ?_⟩
  · unfold zL
    rw [List.pairwise_map]
    refine List.Pairwise.imp_of_mem ?_ (List.pairwise_lt_range (n := n))
    intro i j hi hj hij
    exact z_lt i j hij (by have := List.mem_range.1 hj; omega)
  · intro a ha b hb
    unfold zL at hb
    obtain ⟨i, hi, rfl⟩ := List.mem_map.1 hb
    exact z_names _ (hN a ha) i (by have := List.mem_range.1 hi; omega)
/-- with n more in a duct all is right, if they are not too many -/
theorem more_ok (h : lyFault d c = 0) (hl : c.length ≤ 100) (hN : ∀ y ∈ c, y.cable ∈ lyNames) {x : Du} (hx : x ∈ d) {outer : Int} (ho : 1 ≤ outer ∧ outer ≤ 1000) {n : Nat} (hn : n ≤ 20) (hf : (outV c x.key).length + n ≤ 20) : lyFault d (c ++ zL x.key outer n) = 0 := by
  obtain ⟨h1, h2, h3, h4, h5⟩ := full_facts h
  have hd := duFault_ok h1
  have hG : ∀ y ∈ c ++ zL x.key outer n, LyG d y := by
    intro y hy
    rcases List.mem_append.1 hy with hy | hy
    · exact h3 y hy
    · unfold zL at hy
      obtain ⟨i, hi, rfl⟩ := List.mem_map.1 hy
      exact ⟨z_key i (by have := List.mem_range.1 hi; omega), cabErr_one hd hx ho _⟩
  have hfl : fullL d (c ++ zL x.key outer n) = false := by
    unfold fullL at h5 ⊢
    rw [List.any_eq_false] at h5 ⊢
    intro y hy
    have g := h5 y hy
    rw [decide_eq_true_eq] at g ⊢
    rw [in_app, in_z, List.length_append]
    by_cases e : y.key = x.key
    · rw [if_pos e, zL_len, e]
      unfold outV at hf; rw [List.length_map] at hf; omega
    · rw [if_neg e]; simp only [List.length_nil]; omega
  unfold lyFault
  rw [if_neg (by omega), if_neg (by rw [List.length_append, zL_len]; omega), if_neg (by rw [lysErr_of (rise_z h4 hN x.key outer hn) hG]; simp), hfl]
  rfl
theorem one_full {x : Du} {outer : Int} {n : Nat} (h1 : lyFault d (c ++ zL x.key outer n ++ [zzL x.key outer]) = 0) (hx : x ∈ d) : (outV c x.key).length + n + 1 ≤ 20 := by
  have h5 := (full_facts h1).2.2.2.2
  unfold fullL at h5
  rw [List.any_eq_false] at h5
  have g := h5 x hx
  rw [decide_eq_true_eq] at g
  have h2 := congrArg List.length (out_zz (c := c) x.key outer n)
  unfold outV at h2 ⊢
  rw [List.length_map] at h2
  simp only [List.length_append, List.length_map, List.length_replicate] at h2 ⊢
  omega
theorem over_mem (hd : DuOk d) {l : List Ly} (h : lyFault d l = 0) {x : Du} (hx : x ∈ d) : x.key ∈ overV d l ↔ roomB x.inner (outV l x.key) = false := by
  unfold overV
  rw [if_pos h, List.mem_map]
  unfold overL
  constructor
  · rintro ⟨y, hy, e⟩
    obtain ⟨h1, h2⟩ := List.mem_filter.1 hy
    have : y = x := by
      have a := duG_mem hd h1
      have b := duG_mem hd hx
      rw [← a, ← b, e]
    subst this
    simpa using h2
  · intro h1
    exact ⟨x, List.mem_filter.2 ⟨hx, by simpa using h1⟩, rfl⟩
end
/-- what the law asks of one duct -/
theorem duct_law {d : List Du} {c : List Ly} (h : lyFault d c = 0) (hl : c.length ≤ 100) (hN : ∀ y ∈ c, y.cable ∈ lyNames) {x : Du} (hx : x ∈ d) {outer : Int} (ho : 1 ≤ outer ∧ outer ≤ 1000) {n : Nat} (hn : n = mostX d c x.key outer) :
    twoE d c x.key outer = 0 ∧ n ≤ 20 ∧ ¬ (fitsX d c x.key outer = true ∧ n = 0) ∧ lyFault d (c ++ zL x.key outer n) = 0 ∧ (0 < n → x.key ∉ overV d (c ++ zL x.key outer n)) ∧
    (lyFault d (c ++ zL x.key outer n ++ [zzL x.key outer]) = 0 → x.key ∈ overV d (c ++ zL x.key outer n ++ [zzL x.key outer])) := by
  obtain ⟨h1, h2, h3, h4, h5⟩ := full_facts h
  have hd := duFault_ok h1
  have hh : hasD d x.key = true := hasD_iff.2 ⟨x, hx, rfl⟩
  have hG : duG d x.key = x := duG_mem hd hx
  have hone : oneE d c x.key = 0 := by unfold oneE; rw [if_neg (by omega), if_pos hh]
  have htwo : twoE d c x.key outer = 0 := by unfold twoE; rw [if_neg (by omega), if_neg (by omega)]
  have hm : n = mostV x.inner (outV c x.key) outer (20 - (outV c x.key).length) := by rw [hn]; unfold mostX; rw [if_pos htwo, hG]
  obtain ⟨m1, m2, m3⟩ := mostV_spec x.inner (outV c x.key) outer (20 - (outV c x.key).length)
  rw [← hm] at m1 m2 m3
  have hfew : (outV c x.key).length ≤ 20 := by
    unfold fullL at h5
    rw [List.any_eq_false] at h5
    have g := h5 x hx
    rw [decide_eq_true_eq] at g
    unfold outV; rw [List.length_map]; omega
  have hmore := more_ok h hl hN hx ho (n := n) (by omega) (by omega)
  refine ⟨htwo, by omega, ?_, hmore, ?_, ?_⟩
  · rintro ⟨g1, g2⟩
    unfold fitsX at g1
    rw [if_pos htwo, hG] at g1
    unfold fitsV at g1
    rw [Bool.and_eq_true, decide_eq_true_eq] at g1
    obtain ⟨g3, g4⟩ := g1
    simp only [List.length_append, List.length_cons, List.length_nil] at g3
    have := m3 1 (by omega) (by omega)
    rw [show List.replicate 1 outer = [outer] from rfl, g4] at this; cases this
  · intro hp
    rw [over_mem hd hmore hx, out_z, m2 hp]; simp
  · intro h1
    rw [over_mem hd h1 hx, out_zz]
    exact m3 (n + 1) (by omega) (by have := one_full h1 hx; omega)
end Go.Proofs.YtllpjcgadfmipaaGreat

/- Cables in ducts are made, of few names; right ducts. -/
namespace Go.Proofs.YtllpjcgadfmipaaGreat
set_option linter.unusedVariables false
set_option linter.unusedSimpArgs false
open Abs

def lyNm : List ByteArray := ⟨#[]⟩ :: lyNames
theorem some_nm {L : List Int} {p : Int} {k : ByteArray} (h : k ∈ lyNm) : someV L p [k, ⟨#[]⟩, ⟨#[107, 49]⟩] ∈ lyNm := by
  have := someV_in L p [k, ⟨#[]⟩, ⟨#[107, 49]⟩] (by simp)
  simp only [List.mem_cons, List.not_mem_nil, or_false] at this
  rcases this with e | e | e
  · rw [e]; exact h
  · rw [e]; simp [lyNm]
  · rw [e]; simp [lyNm, lyNames]
set_option maxRecDepth 100000 in
set_option maxHeartbeats 4000000 in
theorem rLyInN_pc {L : List Int} {p : Int} (hst : StOk L p) (hp : p ≤ 800000000) (d : List Du) (hd : d.length ≤ 6) :
    PCq 80 [.c (.ptr 0 0), .c (.lst 5 (d.map encDu))] [stO L p] fun r os => ∃ (l : List Ly) (p' : Int), r = .c (.lst 3 (l.map encLy)) ∧ os = [stO L p'] ∧ l.length ≤ 4 ∧ (∀ x ∈ l, x.ducts.length ≤ 100) ∧ p ≤ p' ∧ p' ≤ p + 100 ∧ ∀ x ∈ l, x.cable ∈ lyNm := by
  have hS : ∀ x : Int, p ≤ x → x ≤ p + 100 → StOk L x := fun x h3 h4 => ⟨hst.1, by have := hst.2.1; omega, by omega⟩
  have hdm : (d.map encDu).length = d.length := List.length_map ..
  refine fn_soundX (mt := mts) tab_fits tab_mixed Tryz.func80 (by rfl) (by kernel_rfl) (by kernel_rfl) Tryz.results80 (Nat.le_of_ble_eq_true (by kernel_rfl)) ?_
  conv => whnf
  refine loop_for2 (4) [.sl 5 77 3] [0, 1, 5, 12, 13, 14] (fun k (q : Int) (l : List Ly) => [(14, .c (.int .i64 (k : Int)))]) (fun k (q : Int) (l : List Ly) => [(0, stO L q), (1, .row 77 3 (l.map encLy))]) (fun k (q : Int) (l : List Ly) => l.length ≤ k ∧ (∀ x ∈ l, x.ducts.length ≤ 10) ∧ p ≤ q ∧ q ≤ p + 8 * k ∧ ∀ x ∈ l, x.cable ∈ lyNm) (p) ([]) ?_
  conv => whnf
  refine ⟨(by first | rfl | (simp; done) | (simp; rfl)), ?_, ?_, ?_⟩
  · exact ⟨by simp, by simp, by omega, by omega, by simp⟩
  · intro k q l hk ⟨h1, h2, h3, h4, h5⟩
    as_aux_lemma =>
     have hlm : (l.map encLy).length = l.length := List.length_map ..
     have hQ : ∀ x : Int, q ≤ x → x ≤ q + 14 → StOk L x := fun x h3 h4 => hS x (by omega) (by omega)
     conv => whnf
     repeat' (first | (refine Split.mk (fun h => ?_) (fun h => ?_) <;> (try simp only [decide_eq_true_eq, decide_eq_false_iff_not, Bool.not_eq_true', Bool.not_eq_false', beq_iff_eq, beq_eq_false_iff_ne, bne_iff_ne, bne_eq_false_iff_eq] at h) <;> (first | (exfalso; first | omega | exact h trivial | (simp [cutRows] at h; done) | (simp [cutRows] at h; omega)) | (conv => whnf))) | (refine CondG.mk (fun h => ?_) (fun h => ?_) <;> (try simp only [decide_eq_true_eq, decide_eq_false_iff_not, Bool.not_eq_true', Bool.not_eq_false', beq_iff_eq, beq_eq_false_iff_ne, bne_iff_ne, bne_eq_false_iff_eq] at h) <;> (first | (exfalso; first | omega | exact h trivial | (simp [cutRows] at h; done) | (simp [cutRows] at h; omega)) | (conv => whnf))) | (refine CallX.mk _ _ (by first | exact flip_ok (hQ _ (by omega) (by omega)) _ (by omega) | exact next_ok (hQ _ (by omega) (by omega)) _ (by omega) | exact range_ok (hQ _ (by omega) (by omega)) _ _ (by omega) (small_lit (by omega)) (small_lit (by omega)) | exact odd_ok (hQ _ (by omega) (by omega)) (hQ _ (by omega) (by omega)) _ _ (small_lit (by omega)) (small_lit (by omega)) (by omega) | exact pick_ok (hQ _ (by omega) (by omega)) [_] (by simp) (by simp) | exact pick_ok (hQ _ (by omega) (by omega)) [_, _] (by simp) (by simp) | exact pick_ok (hQ _ (by omega) (by omega)) [_, _, _] (by simp) (by simp) | exact pick_ok (hQ _ (by omega) (by omega)) [_, _, _, _] (by simp) (by simp) | exact pick_ok (hQ _ (by omega) (by omega)) [_, _, _, _, _] (by simp) (by simp) | exact pick_ok (hQ _ (by omega) (by omega)) [_, _, _, _, _, _] (by simp) (by simp) | exact pick_ok (hQ _ (by omega) (by omega)) [_, _, _, _, _, _, _] (by simp) (by simp) | exact pick_ok (hQ _ (by omega) (by omega)) [_, _, _, _, _, _, _, _] (by simp) (by simp) | exact pick_ok (hQ _ (by omega) (by omega)) [_, _, _, _, _, _, _, _, _] (by simp) (by simp) | exact pick_ok (hQ _ (by omega) (by omega)) [_, _, _, _, _, _, _, _, _, _] (by simp) (by simp) | exact some_ok (hQ _ (by omega) (by omega)) [_] (by simp) (by simp) | exact some_ok (hQ _ (by omega) (by omega)) [_, _] (by simp) (by simp) | exact some_ok (hQ _ (by omega) (by omega)) [_, _, _] (by simp) (by simp) | exact some_ok (hQ _ (by omega) (by omega)) [_, _, _, _] (by simp) (by simp) | exact some_ok (hQ _ (by omega) (by omega)) [_, _, _, _, _] (by simp) (by simp) | exact some_ok (hQ _ (by omega) (by omega)) [_, _, _, _, _, _] (by simp) (by simp) | exact some_ok (hQ _ (by omega) (by omega)) [_, _, _, _, _, _, _] (by simp) (by simp) | exact some_ok (hQ _ (by omega) (by omega)) [_, _, _, _, _, _, _, _] (by simp) (by simp)) ?_; conv => whnf) | (refine CallG.mk _ _ (by first | exact flip_ok (hQ _ (by omega) (by omega)) _ (by omega) | exact next_ok (hQ _ (by omega) (by omega)) _ (by omega) | exact range_ok (hQ _ (by omega) (by omega)) _ _ (by omega) (small_lit (by omega)) (small_lit (by omega)) | exact odd_ok (hQ _ (by omega) (by omega)) (hQ _ (by omega) (by omega)) _ _ (small_lit (by omega)) (small_lit (by omega)) (by omega) | exact pick_ok (hQ _ (by omega) (by omega)) [_] (by simp) (by simp) | exact pick_ok (hQ _ (by omega) (by omega)) [_, _] (by simp) (by simp) | exact pick_ok (hQ _ (by omega) (by omega)) [_, _, _] (by simp) (by simp) | exact pick_ok (hQ _ (by omega) (by omega)) [_, _, _, _] (by simp) (by simp) | exact pick_ok (hQ _ (by omega) (by omega)) [_, _, _, _, _] (by simp) (by simp) | exact pick_ok (hQ _ (by omega) (by omega)) [_, _, _, _, _, _] (by simp) (by simp) | exact pick_ok (hQ _ (by omega) (by omega)) [_, _, _, _, _, _, _] (by simp) (by simp) | exact pick_ok (hQ _ (by omega) (by omega)) [_, _, _, _, _, _, _, _] (by simp) (by simp) | exact pick_ok (hQ _ (by omega) (by omega)) [_, _, _, _, _, _, _, _, _] (by simp) (by simp) | exact pick_ok (hQ _ (by omega) (by omega)) [_, _, _, _, _, _, _, _, _, _] (by simp) (by simp) | exact some_ok (hQ _ (by omega) (by omega)) [_] (by simp) (by simp) | exact some_ok (hQ _ (by omega) (by omega)) [_, _] (by simp) (by simp) | exact some_ok (hQ _ (by omega) (by omega)) [_, _, _] (by simp) (by simp) | exact some_ok (hQ _ (by omega) (by omega)) [_, _, _, _] (by simp) (by simp) | exact some_ok (hQ _ (by omega) (by omega)) [_, _, _, _, _] (by simp) (by simp) | exact some_ok (hQ _ (by omega) (by omega)) [_, _, _, _, _, _] (by simp) (by simp) | exact some_ok (hQ _ (by omega) (by omega)) [_, _, _, _, _, _, _] (by simp) (by simp) | exact some_ok (hQ _ (by omega) (by omega)) [_, _, _, _, _, _, _, _] (by simp) (by simp)) ?_; conv => whnf) | (refine Ask.mk (by first | omega | (unfold roomOK; simp [cutRows]; done) | (unfold roomOK; simp [cutRows]; omega) | (simp [cutRows]; done) | (simp [cutRows]; omega)) ?_; conv => whnf) | (refine AppG.mk (by first | omega | (unfold roomOK; simp [cutRows]; done) | (unfold roomOK; simp [cutRows]; omega) | (simp [cutRows]; done) | (simp [cutRows]; omega)) ?_; conv => whnf) | (refine SliceG.fr ?_; conv => whnf) | (refine idx_at _ (by with_reducible rfl) (by first | assumption | omega) ?_; conv => whnf) | ((with_reducible refine row_map (by first | assumption | omega) ?_); conv => whnf) | (refine row_strm (N := lyNm) (by rfl) (by rfl) (by first | (simp [cutRows]; done) | (simp [cutRows]; omega)) ?_; intro str hstr; conv => whnf) | ((with_reducible refine row_set (by first | assumption | omega | (simp only [List.length_set]; omega) | (simp; omega)) ?_); conv => whnf) | fail)
     · exact count_next (q + 1, l) hk (by rw [wrap_succ hk (by omega)]; rfl) ⟨by simp only; omega, h2, by simp only; omega, by simp only; omega, h5⟩
     · exact count_next (q + 1, l) hk (by rw [wrap_succ hk (by omega)]; rfl) ⟨by simp only; omega, h2, by simp only; omega, by simp only; omega, h5⟩
     refine loop_for2 (d.length) [.bx 8 2 9 1] [0, 1, 5, 8, 12, 13, 14, 30, 31, 32] (fun k (q' : Int) (ks : List ByteArray) => [(32, .c (.int .i64 (k : Int)))]) (fun k (q' : Int) (ks : List ByteArray) => [(0, stO L q'), (3, .row 9 1 (ks.map encS))]) (fun k (q' : Int) (ks : List ByteArray) => ks.length ≤ k ∧ q' = q + 1 + 1 + k) (q + 1 + 1) ([]) ?_
     conv => whnf
     refine ⟨(by first | rfl | (simp; done) | (simp; rfl)), ?_, ?_, ?_⟩
     · exact ⟨by simp, by omega⟩
     · intro j q' ks hj ⟨g1, g2⟩
       as_aux_lemma =>
        have hkm : (ks.map encS).length = ks.length := List.length_map ..
        have hQ : ∀ x : Int, q ≤ x → x ≤ q + 14 → StOk L x := fun x h3 h4 => hS x (by omega) (by omega)
        conv => whnf
        repeat' (first | (refine Split.mk (fun h => ?_) (fun h => ?_) <;> (try simp only [decide_eq_true_eq, decide_eq_false_iff_not, Bool.not_eq_true', Bool.not_eq_false', beq_iff_eq, beq_eq_false_iff_ne, bne_iff_ne, bne_eq_false_iff_eq] at h) <;> (first | (exfalso; first | omega | exact h trivial | (simp [cutRows] at h; done) | (simp [cutRows] at h; omega)) | (conv => whnf))) | (refine CondG.mk (fun h => ?_) (fun h => ?_) <;> (try simp only [decide_eq_true_eq, decide_eq_false_iff_not, Bool.not_eq_true', Bool.not_eq_false', beq_iff_eq, beq_eq_false_iff_ne, bne_iff_ne, bne_eq_false_iff_eq] at h) <;> (first | (exfalso; first | omega | exact h trivial | (simp [cutRows] at h; done) | (simp [cutRows] at h; omega)) | (conv => whnf))) | (refine CallX.mk _ _ (by first | exact flip_ok (hQ _ (by omega) (by omega)) _ (by omega) | exact next_ok (hQ _ (by omega) (by omega)) _ (by omega) | exact range_ok (hQ _ (by omega) (by omega)) _ _ (by omega) (small_lit (by omega)) (small_lit (by omega)) | exact odd_ok (hQ _ (by omega) (by omega)) (hQ _ (by omega) (by omega)) _ _ (small_lit (by omega)) (small_lit (by omega)) (by omega) | exact pick_ok (hQ _ (by omega) (by omega)) [_] (by simp) (by simp) | exact pick_ok (hQ _ (by omega) (by omega)) [_, _] (by simp) (by simp) | exact pick_ok (hQ _ (by omega) (by omega)) [_, _, _] (by simp) (by simp) | exact pick_ok (hQ _ (by omega) (by omega)) [_, _, _, _] (by simp) (by simp) | exact pick_ok (hQ _ (by omega) (by omega)) [_, _, _, _, _] (by simp) (by simp) | exact pick_ok (hQ _ (by omega) (by omega)) [_, _, _, _, _, _] (by simp) (by simp) | exact pick_ok (hQ _ (by omega) (by omega)) [_, _, _, _, _, _, _] (by simp) (by simp) | exact pick_ok (hQ _ (by omega) (by omega)) [_, _, _, _, _, _, _, _] (by simp) (by simp) | exact pick_ok (hQ _ (by omega) (by omega)) [_, _, _, _, _, _, _, _, _] (by simp) (by simp) | exact pick_ok (hQ _ (by omega) (by omega)) [_, _, _, _, _, _, _, _, _, _] (by simp) (by simp) | exact some_ok (hQ _ (by omega) (by omega)) [_] (by simp) (by simp) | exact some_ok (hQ _ (by omega) (by omega)) [_, _] (by simp) (by simp) | exact some_ok (hQ _ (by omega) (by omega)) [_, _, _] (by simp) (by simp) | exact some_ok (hQ _ (by omega) (by omega)) [_, _, _, _] (by simp) (by simp) | exact some_ok (hQ _ (by omega) (by omega)) [_, _, _, _, _] (by simp) (by simp) | exact some_ok (hQ _ (by omega) (by omega)) [_, _, _, _, _, _] (by simp) (by simp) | exact some_ok (hQ _ (by omega) (by omega)) [_, _, _, _, _, _, _] (by simp) (by simp) | exact some_ok (hQ _ (by omega) (by omega)) [_, _, _, _, _, _, _, _] (by simp) (by simp)) ?_; conv => whnf) | (refine CallG.mk _ _ (by first | exact flip_ok (hQ _ (by omega) (by omega)) _ (by omega) | exact next_ok (hQ _ (by omega) (by omega)) _ (by omega) | exact range_ok (hQ _ (by omega) (by omega)) _ _ (by omega) (small_lit (by omega)) (small_lit (by omega)) | exact odd_ok (hQ _ (by omega) (by omega)) (hQ _ (by omega) (by omega)) _ _ (small_lit (by omega)) (small_lit (by omega)) (by omega) | exact pick_ok (hQ _ (by omega) (by omega)) [_] (by simp) (by simp) | exact pick_ok (hQ _ (by omega) (by omega)) [_, _] (by simp) (by simp) | exact pick_ok (hQ _ (by omega) (by omega)) [_, _, _] (by simp) (by simp) | exact pick_ok (hQ _ (by omega) (by omega)) [_, _, _, _] (by simp) (by simp) | exact pick_ok (hQ _ (by omega) (by omega)) [_, _, _, _, _] (by simp) (by simp) | exact pick_ok (hQ _ (by omega) (by omega)) [_, _, _, _, _, _] (by simp) (by simp) | exact pick_ok (hQ _ (by omega) (by omega)) [_, _, _, _, _, _, _] (by simp) (by simp) | exact pick_ok (hQ _ (by omega) (by omega)) [_, _, _, _, _, _, _, _] (by simp) (by simp) | exact pick_ok (hQ _ (by omega) (by omega)) [_, _, _, _, _, _, _, _, _] (by simp) (by simp) | exact pick_ok (hQ _ (by omega) (by omega)) [_, _, _, _, _, _, _, _, _, _] (by simp) (by simp) | exact some_ok (hQ _ (by omega) (by omega)) [_] (by simp) (by simp) | exact some_ok (hQ _ (by omega) (by omega)) [_, _] (by simp) (by simp) | exact some_ok (hQ _ (by omega) (by omega)) [_, _, _] (by simp) (by simp) | exact some_ok (hQ _ (by omega) (by omega)) [_, _, _, _] (by simp) (by simp) | exact some_ok (hQ _ (by omega) (by omega)) [_, _, _, _, _] (by simp) (by simp) | exact some_ok (hQ _ (by omega) (by omega)) [_, _, _, _, _, _] (by simp) (by simp) | exact some_ok (hQ _ (by omega) (by omega)) [_, _, _, _, _, _, _] (by simp) (by simp) | exact some_ok (hQ _ (by omega) (by omega)) [_, _, _, _, _, _, _, _] (by simp) (by simp)) ?_; conv => whnf) | (refine Ask.mk (by first | omega | (unfold roomOK; simp [cutRows]; done) | (unfold roomOK; simp [cutRows]; omega) | (simp [cutRows]; done) | (simp [cutRows]; omega)) ?_; conv => whnf) | (refine AppG.mk (by first | omega | (unfold roomOK; simp [cutRows]; done) | (unfold roomOK; simp [cutRows]; omega) | (simp [cutRows]; done) | (simp [cutRows]; omega)) ?_; conv => whnf) | (refine SliceG.fr ?_; conv => whnf) | (refine idx_at _ (by with_reducible rfl) (by first | assumption | omega) ?_; conv => whnf) | ((with_reducible refine row_map (by first | assumption | omega) ?_); conv => whnf) | (refine row_str (by rfl) (by first | (simp [cutRows]; done) | (simp [cutRows]; omega)) ?_; intro str; conv => whnf) | ((with_reducible refine row_set (by first | assumption | omega | (simp only [List.length_set]; omega) | (simp; omega)) ?_); conv => whnf) | fail)
        · exact count_next (q' + 1, ks ++ [_]) hj (by rw [wrap_succ hj (by omega), List.map_append]; rfl) ⟨by simp; omega, by simp only; omega⟩
        · exact count_next (q' + 1, ks) hj (by rw [wrap_succ hj (by omega)]; rfl) ⟨by simp only; omega, by simp only; omega⟩
     · intro q' ks ⟨g1, g2⟩
       as_aux_lemma =>
        have hkm : (ks.map encS).length = ks.length := List.length_map ..
        conv => whnf
        repeat' (first | (refine Split.mk (fun h => ?_) (fun h => ?_) <;> (try simp only [decide_eq_true_eq, decide_eq_false_iff_not, Bool.not_eq_true', Bool.not_eq_false', beq_iff_eq, beq_eq_false_iff_ne, bne_iff_ne, bne_eq_false_iff_eq] at h) <;> (first | (exfalso; first | omega | exact h trivial | (simp [cutRows] at h; done) | (simp [cutRows] at h; omega)) | (conv => whnf))) | (refine CondG.mk (fun h => ?_) (fun h => ?_) <;> (try simp only [decide_eq_true_eq, decide_eq_false_iff_not, Bool.not_eq_true', Bool.not_eq_false', beq_iff_eq, beq_eq_false_iff_ne, bne_iff_ne, bne_eq_false_iff_eq] at h) <;> (first | (exfalso; first | omega | exact h trivial | (simp [cutRows] at h; done) | (simp [cutRows] at h; omega)) | (conv => whnf))) | (refine CallX.mk _ _ (by first | exact flip_ok (hQ _ (by omega) (by omega)) _ (by omega) | exact next_ok (hQ _ (by omega) (by omega)) _ (by omega) | exact range_ok (hQ _ (by omega) (by omega)) _ _ (by omega) (small_lit (by omega)) (small_lit (by omega)) | exact odd_ok (hQ _ (by omega) (by omega)) (hQ _ (by omega) (by omega)) _ _ (small_lit (by omega)) (small_lit (by omega)) (by omega) | exact pick_ok (hQ _ (by omega) (by omega)) [_] (by simp) (by simp) | exact pick_ok (hQ _ (by omega) (by omega)) [_, _] (by simp) (by simp) | exact pick_ok (hQ _ (by omega) (by omega)) [_, _, _] (by simp) (by simp) | exact pick_ok (hQ _ (by omega) (by omega)) [_, _, _, _] (by simp) (by simp) | exact pick_ok (hQ _ (by omega) (by omega)) [_, _, _, _, _] (by simp) (by simp) | exact pick_ok (hQ _ (by omega) (by omega)) [_, _, _, _, _, _] (by simp) (by simp) | exact pick_ok (hQ _ (by omega) (by omega)) [_, _, _, _, _, _, _] (by simp) (by simp) | exact pick_ok (hQ _ (by omega) (by omega)) [_, _, _, _, _, _, _, _] (by simp) (by simp) | exact pick_ok (hQ _ (by omega) (by omega)) [_, _, _, _, _, _, _, _, _] (by simp) (by simp) | exact pick_ok (hQ _ (by omega) (by omega)) [_, _, _, _, _, _, _, _, _, _] (by simp) (by simp) | exact some_ok (hQ _ (by omega) (by omega)) [_] (by simp) (by simp) | exact some_ok (hQ _ (by omega) (by omega)) [_, _] (by simp) (by simp) | exact some_ok (hQ _ (by omega) (by omega)) [_, _, _] (by simp) (by simp) | exact some_ok (hQ _ (by omega) (by omega)) [_, _, _, _] (by simp) (by simp) | exact some_ok (hQ _ (by omega) (by omega)) [_, _, _, _, _] (by simp) (by simp) | exact some_ok (hQ _ (by omega) (by omega)) [_, _, _, _, _, _] (by simp) (by simp) | exact some_ok (hQ _ (by omega) (by omega)) [_, _, _, _, _, _, _] (by simp) (by simp) | exact some_ok (hQ _ (by omega) (by omega)) [_, _, _, _, _, _, _, _] (by simp) (by simp)) ?_; conv => whnf) | (refine CallG.mk _ _ (by first | exact flip_ok (hQ _ (by omega) (by omega)) _ (by omega) | exact next_ok (hQ _ (by omega) (by omega)) _ (by omega) | exact range_ok (hQ _ (by omega) (by omega)) _ _ (by omega) (small_lit (by omega)) (small_lit (by omega)) | exact odd_ok (hQ _ (by omega) (by omega)) (hQ _ (by omega) (by omega)) _ _ (small_lit (by omega)) (small_lit (by omega)) (by omega) | exact pick_ok (hQ _ (by omega) (by omega)) [_] (by simp) (by simp) | exact pick_ok (hQ _ (by omega) (by omega)) [_, _] (by simp) (by simp) | exact pick_ok (hQ _ (by omega) (by omega)) [_, _, _] (by simp) (by simp) | exact pick_ok (hQ _ (by omega) (by omega)) [_, _, _, _] (by simp) (by simp) | exact pick_ok (hQ _ (by omega) (by omega)) [_, _, _, _, _] (by simp) (by simp) | exact pick_ok (hQ _ (by omega) (by omega)) [_, _, _, _, _, _] (by simp) (by simp) | exact pick_ok (hQ _ (by omega) (by omega)) [_, _, _, _, _, _, _] (by simp) (by simp) | exact pick_ok (hQ _ (by omega) (by omega)) [_, _, _, _, _, _, _, _] (by simp) (by simp) | exact pick_ok (hQ _ (by omega) (by omega)) [_, _, _, _, _, _, _, _, _] (by simp) (by simp) | exact pick_ok (hQ _ (by omega) (by omega)) [_, _, _, _, _, _, _, _, _, _] (by simp) (by simp) | exact some_ok (hQ _ (by omega) (by omega)) [_] (by simp) (by simp) | exact some_ok (hQ _ (by omega) (by omega)) [_, _] (by simp) (by simp) | exact some_ok (hQ _ (by omega) (by omega)) [_, _, _] (by simp) (by simp) | exact some_ok (hQ _ (by omega) (by omega)) [_, _, _, _] (by simp) (by simp) | exact some_ok (hQ _ (by omega) (by omega)) [_, _, _, _, _] (by simp) (by simp) | exact some_ok (hQ _ (by omega) (by omega)) [_, _, _, _, _, _] (by simp) (by simp) | exact some_ok (hQ _ (by omega) (by omega)) [_, _, _, _, _, _, _] (by simp) (by simp) | exact some_ok (hQ _ (by omega) (by omega)) [_, _, _, _, _, _, _, _] (by simp) (by simp)) ?_; conv => whnf) | (refine Ask.mk (by first | omega | (unfold roomOK; simp [cutRows]; done) | (unfold roomOK; simp [cutRows]; omega) | (simp [cutRows]; done) | (simp [cutRows]; omega)) ?_; conv => whnf) | (refine AppG.mk (by first | omega | (unfold roomOK; simp [cutRows]; done) | (unfold roomOK; simp [cutRows]; omega) | (simp [cutRows]; done) | (simp [cutRows]; omega)) ?_; conv => whnf) | (refine SliceG.fr ?_; conv => whnf) | (refine idx_at _ (by with_reducible rfl) (by first | assumption | omega) ?_; conv => whnf) | ((with_reducible refine row_map (by first | assumption | omega) ?_); conv => whnf) | (refine row_str (by rfl) (by first | (simp [cutRows]; done) | (simp [cutRows]; omega)) ?_; intro str; conv => whnf) | ((with_reducible refine row_set (by first | assumption | omega | (simp only [List.length_set]; omega) | (simp; omega)) ?_); conv => whnf) | fail)
        · refine idx_map 0 (by omega) rfl ?_
          conv => whnf
          repeat' (first | (refine Split.mk (fun h => ?_) (fun h => ?_) <;> (try simp only [decide_eq_true_eq, decide_eq_false_iff_not, Bool.not_eq_true', Bool.not_eq_false', beq_iff_eq, beq_eq_false_iff_ne, bne_iff_ne, bne_eq_false_iff_eq] at h) <;> (first | (exfalso; first | omega | exact h trivial | (simp [cutRows] at h; done) | (simp [cutRows] at h; omega)) | (conv => whnf))) | (refine CondG.mk (fun h => ?_) (fun h => ?_) <;> (try simp only [decide_eq_true_eq, decide_eq_false_iff_not, Bool.not_eq_true', Bool.not_eq_false', beq_iff_eq, beq_eq_false_iff_ne, bne_iff_ne, bne_eq_false_iff_eq] at h) <;> (first | (exfalso; first | omega | exact h trivial | (simp [cutRows] at h; done) | (simp [cutRows] at h; omega)) | (conv => whnf))) | (refine CallX.mk _ _ (by first | exact flip_ok (hQ _ (by omega) (by omega)) _ (by omega) | exact next_ok (hQ _ (by omega) (by omega)) _ (by omega) | exact range_ok (hQ _ (by omega) (by omega)) _ _ (by omega) (small_lit (by omega)) (small_lit (by omega)) | exact odd_ok (hQ _ (by omega) (by omega)) (hQ _ (by omega) (by omega)) _ _ (small_lit (by omega)) (small_lit (by omega)) (by omega) | exact pick_ok (hQ _ (by omega) (by omega)) [_] (by simp) (by simp) | exact pick_ok (hQ _ (by omega) (by omega)) [_, _] (by simp) (by simp) | exact pick_ok (hQ _ (by omega) (by omega)) [_, _, _] (by simp) (by simp) | exact pick_ok (hQ _ (by omega) (by omega)) [_, _, _, _] (by simp) (by simp) | exact pick_ok (hQ _ (by omega) (by omega)) [_, _, _, _, _] (by simp) (by simp) | exact pick_ok (hQ _ (by omega) (by omega)) [_, _, _, _, _, _] (by simp) (by simp) | exact pick_ok (hQ _ (by omega) (by omega)) [_, _, _, _, _, _, _] (by simp) (by simp) | exact pick_ok (hQ _ (by omega) (by omega)) [_, _, _, _, _, _, _, _] (by simp) (by simp) | exact pick_ok (hQ _ (by omega) (by omega)) [_, _, _, _, _, _, _, _, _] (by simp) (by simp) | exact pick_ok (hQ _ (by omega) (by omega)) [_, _, _, _, _, _, _, _, _, _] (by simp) (by simp) | exact some_ok (hQ _ (by omega) (by omega)) [_] (by simp) (by simp) | exact some_ok (hQ _ (by omega) (by omega)) [_, _] (by simp) (by simp) | exact some_ok (hQ _ (by omega) (by omega)) [_, _, _] (by simp) (by simp) | exact some_ok (hQ _ (by omega) (by omega)) [_, _, _, _] (by simp) (by simp) | exact some_ok (hQ _ (by omega) (by omega)) [_, _, _, _, _] (by simp) (by simp) | exact some_ok (hQ _ (by omega) (by omega)) [_, _, _, _, _, _] (by simp) (by simp) | exact some_ok (hQ _ (by omega) (by omega)) [_, _, _, _, _, _, _] (by simp) (by simp) | exact some_ok (hQ _ (by omega) (by omega)) [_, _, _, _, _, _, _, _] (by simp) (by simp)) ?_; conv => whnf) | (refine CallG.mk _ _ (by first | exact flip_ok (hQ _ (by omega) (by omega)) _ (by omega) | exact next_ok (hQ _ (by omega) (by omega)) _ (by omega) | exact range_ok (hQ _ (by omega) (by omega)) _ _ (by omega) (small_lit (by omega)) (small_lit (by omega)) | exact odd_ok (hQ _ (by omega) (by omega)) (hQ _ (by omega) (by omega)) _ _ (small_lit (by omega)) (small_lit (by omega)) (by omega) | exact pick_ok (hQ _ (by omega) (by omega)) [_] (by simp) (by simp) | exact pick_ok (hQ _ (by omega) (by omega)) [_, _] (by simp) (by simp) | exact pick_ok (hQ _ (by omega) (by omega)) [_, _, _] (by simp) (by simp) | exact pick_ok (hQ _ (by omega) (by omega)) [_, _, _, _] (by simp) (by simp) | exact pick_ok (hQ _ (by omega) (by omega)) [_, _, _, _, _] (by simp) (by simp) | exact pick_ok (hQ _ (by omega) (by omega)) [_, _, _, _, _, _] (by simp) (by simp) | exact pick_ok (hQ _ (by omega) (by omega)) [_, _, _, _, _, _, _] (by simp) (by simp) | exact pick_ok (hQ _ (by omega) (by omega)) [_, _, _, _, _, _, _, _] (by simp) (by simp) | exact pick_ok (hQ _ (by omega) (by omega)) [_, _, _, _, _, _, _, _, _] (by simp) (by simp) | exact pick_ok (hQ _ (by omega) (by omega)) [_, _, _, _, _, _, _, _, _, _] (by simp) (by simp) | exact some_ok (hQ _ (by omega) (by omega)) [_] (by simp) (by simp) | exact some_ok (hQ _ (by omega) (by omega)) [_, _] (by simp) (by simp) | exact some_ok (hQ _ (by omega) (by omega)) [_, _, _] (by simp) (by simp) | exact some_ok (hQ _ (by omega) (by omega)) [_, _, _, _] (by simp) (by simp) | exact some_ok (hQ _ (by omega) (by omega)) [_, _, _, _, _] (by simp) (by simp) | exact some_ok (hQ _ (by omega) (by omega)) [_, _, _, _, _, _] (by simp) (by simp) | exact some_ok (hQ _ (by omega) (by omega)) [_, _, _, _, _, _, _] (by simp) (by simp) | exact some_ok (hQ _ (by omega) (by omega)) [_, _, _, _, _, _, _, _] (by simp) (by simp)) ?_; conv => whnf) | (refine Ask.mk (by first | omega | (unfold roomOK; simp [cutRows]; done) | (unfold roomOK; simp [cutRows]; omega) | (simp [cutRows]; done) | (simp [cutRows]; omega)) ?_; conv => whnf) | (refine AppG.mk (by first | omega | (unfold roomOK; simp [cutRows]; done) | (unfold roomOK; simp [cutRows]; omega) | (simp [cutRows]; done) | (simp [cutRows]; omega)) ?_; conv => whnf) | (refine SliceG.fr ?_; conv => whnf) | (refine idx_at _ (by with_reducible rfl) (by first | assumption | omega) ?_; conv => whnf) | ((with_reducible refine row_map (by first | assumption | omega) ?_); conv => whnf) | (refine row_str (by rfl) (by first | (simp [cutRows]; done) | (simp [cutRows]; omega)) ?_; intro str; conv => whnf) | ((with_reducible refine row_set (by first | assumption | omega | (simp only [List.length_set]; omega) | (simp; omega)) ?_); conv => whnf) | fail)
          exact count_next (q', l ++ [(⟨_, _, [_]⟩ : Ly)]) hk (by rw [wrap_succ hk (by omega), List.map_append]; rfl) ⟨by simp; omega, by intro x hx; rcases List.mem_append.1 hx with hx | hx; exact h2 x hx; simp at hx; subst hx; simp, by simp only; omega, by simp only; omega, by intro x hx; rcases List.mem_append.1 hx with hx | hx; exact h5 x hx; simp at hx; subst hx; exact hstr⟩
        · exact count_next (q', l ++ [(⟨_, _, ks⟩ : Ly)]) hk (by rw [wrap_succ hk (by omega), List.map_append]; rfl) ⟨by simp; omega, by intro x hx; rcases List.mem_append.1 hx with hx | hx; exact h2 x hx; simp at hx; subst hx; simp only; omega, by simp only; omega, by simp only; omega, by intro x hx; rcases List.mem_append.1 hx with hx | hx; exact h5 x hx; simp at hx; subst hx; exact hstr⟩
  · intro q l ⟨h1, h2, h3, h4, h5⟩
    as_aux_lemma =>
     have hlm : (l.map encLy).length = l.length := List.length_map ..
     have hQ : ∀ x : Int, q ≤ x → x ≤ q + 14 → StOk L x := fun x h3 h4 => hS x (by omega) (by omega)
     have ni : 0 < (((l.map encLy).length : Nat) : Int) → 0 ≤ nextV L (q + 1) ((l.map encLy).length : Nat) ∧ nextV L (q + 1) ((l.map encLy).length : Nat) < ((l.map encLy).length : Nat) := fun h => nextV_lt _ _ _ (by omega)
     have hs5 : ∀ (i : Nat) (y : Ly), y.cable ∈ lyNm → ∀ x ∈ l.set i y, x.cable ∈ lyNm := by
       intro i y hy x hx
       rcases List.mem_or_eq_of_mem_set hx with hx | rfl
       · exact h5 x hx
       · exact hy
     have hi5 : ∀ (i : Nat) (hi : i < l.length), l[i].cable ∈ lyNm := fun i hi => h5 _ (List.getElem_mem hi)
     conv => whnf
     repeat' (first | (refine Split.mk (fun h => ?_) (fun h => ?_) <;> (try simp only [decide_eq_true_eq, decide_eq_false_iff_not, Bool.not_eq_true', Bool.not_eq_false', beq_iff_eq, beq_eq_false_iff_ne, bne_iff_ne, bne_eq_false_iff_eq] at h) <;> (first | (exfalso; first | omega | exact h trivial | (simp [cutRows] at h; done) | (simp [cutRows] at h; omega)) | (conv => whnf))) | (refine CondG.mk (fun h => ?_) (fun h => ?_) <;> (try simp only [decide_eq_true_eq, decide_eq_false_iff_not, Bool.not_eq_true', Bool.not_eq_false', beq_iff_eq, beq_eq_false_iff_ne, bne_iff_ne, bne_eq_false_iff_eq] at h) <;> (first | (exfalso; first | omega | exact h trivial | (simp [cutRows] at h; done) | (simp [cutRows] at h; omega)) | (conv => whnf))) | (refine CallX.mk _ _ (by first | exact flip_ok (hQ _ (by omega) (by omega)) _ (by omega) | exact next_ok (hQ _ (by omega) (by omega)) _ (by omega) | exact range_ok (hQ _ (by omega) (by omega)) _ _ (by omega) (small_lit (by omega)) (small_lit (by omega)) | exact odd_ok (hQ _ (by omega) (by omega)) (hQ _ (by omega) (by omega)) _ _ (small_lit (by omega)) (small_lit (by omega)) (by omega) | exact pick_ok (hQ _ (by omega) (by omega)) [_] (by simp) (by simp) | exact pick_ok (hQ _ (by omega) (by omega)) [_, _] (by simp) (by simp) | exact pick_ok (hQ _ (by omega) (by omega)) [_, _, _] (by simp) (by simp) | exact pick_ok (hQ _ (by omega) (by omega)) [_, _, _, _] (by simp) (by simp) | exact pick_ok (hQ _ (by omega) (by omega)) [_, _, _, _, _] (by simp) (by simp) | exact pick_ok (hQ _ (by omega) (by omega)) [_, _, _, _, _, _] (by simp) (by simp) | exact pick_ok (hQ _ (by omega) (by omega)) [_, _, _, _, _, _, _] (by simp) (by simp) | exact pick_ok (hQ _ (by omega) (by omega)) [_, _, _, _, _, _, _, _] (by simp) (by simp) | exact pick_ok (hQ _ (by omega) (by omega)) [_, _, _, _, _, _, _, _, _] (by simp) (by simp) | exact pick_ok (hQ _ (by omega) (by omega)) [_, _, _, _, _, _, _, _, _, _] (by simp) (by simp) | exact some_ok (hQ _ (by omega) (by omega)) [_] (by simp) (by simp) | exact some_ok (hQ _ (by omega) (by omega)) [_, _] (by simp) (by simp) | exact some_ok (hQ _ (by omega) (by omega)) [_, _, _] (by simp) (by simp) | exact some_ok (hQ _ (by omega) (by omega)) [_, _, _, _] (by simp) (by simp) | exact some_ok (hQ _ (by omega) (by omega)) [_, _, _, _, _] (by simp) (by simp) | exact some_ok (hQ _ (by omega) (by omega)) [_, _, _, _, _, _] (by simp) (by simp) | exact some_ok (hQ _ (by omega) (by omega)) [_, _, _, _, _, _, _] (by simp) (by simp) | exact some_ok (hQ _ (by omega) (by omega)) [_, _, _, _, _, _, _, _] (by simp) (by simp) | exact cloneS_pc _ (Nat.le_trans (h2 _ (List.getElem_mem _)) (by decide))) ?_; conv => whnf) | (refine CallG.mk _ _ (by first | exact flip_ok (hQ _ (by omega) (by omega)) _ (by omega) | exact next_ok (hQ _ (by omega) (by omega)) _ (by omega) | exact range_ok (hQ _ (by omega) (by omega)) _ _ (by omega) (small_lit (by omega)) (small_lit (by omega)) | exact odd_ok (hQ _ (by omega) (by omega)) (hQ _ (by omega) (by omega)) _ _ (small_lit (by omega)) (small_lit (by omega)) (by omega) | exact pick_ok (hQ _ (by omega) (by omega)) [_] (by simp) (by simp) | exact pick_ok (hQ _ (by omega) (by omega)) [_, _] (by simp) (by simp) | exact pick_ok (hQ _ (by omega) (by omega)) [_, _, _] (by simp) (by simp) | exact pick_ok (hQ _ (by omega) (by omega)) [_, _, _, _] (by simp) (by simp) | exact pick_ok (hQ _ (by omega) (by omega)) [_, _, _, _, _] (by simp) (by simp) | exact pick_ok (hQ _ (by omega) (by omega)) [_, _, _, _, _, _] (by simp) (by simp) | exact pick_ok (hQ _ (by omega) (by omega)) [_, _, _, _, _, _, _] (by simp) (by simp) | exact pick_ok (hQ _ (by omega) (by omega)) [_, _, _, _, _, _, _, _] (by simp) (by simp) | exact pick_ok (hQ _ (by omega) (by omega)) [_, _, _, _, _, _, _, _, _] (by simp) (by simp) | exact pick_ok (hQ _ (by omega) (by omega)) [_, _, _, _, _, _, _, _, _, _] (by simp) (by simp) | exact some_ok (hQ _ (by omega) (by omega)) [_] (by simp) (by simp) | exact some_ok (hQ _ (by omega) (by omega)) [_, _] (by simp) (by simp) | exact some_ok (hQ _ (by omega) (by omega)) [_, _, _] (by simp) (by simp) | exact some_ok (hQ _ (by omega) (by omega)) [_, _, _, _] (by simp) (by simp) | exact some_ok (hQ _ (by omega) (by omega)) [_, _, _, _, _] (by simp) (by simp) | exact some_ok (hQ _ (by omega) (by omega)) [_, _, _, _, _, _] (by simp) (by simp) | exact some_ok (hQ _ (by omega) (by omega)) [_, _, _, _, _, _, _] (by simp) (by simp) | exact some_ok (hQ _ (by omega) (by omega)) [_, _, _, _, _, _, _, _] (by simp) (by simp) | exact cloneS_pc _ (Nat.le_trans (h2 _ (List.getElem_mem _)) (by decide))) ?_; conv => whnf) | (refine Ask.mk (by first | omega | (unfold roomOK; simp [cutRows]; done) | (unfold roomOK; simp [cutRows]; omega) | (simp [cutRows]; done) | (simp [cutRows]; omega)) ?_; conv => whnf) | (refine AppG.mk (by first | omega | (unfold roomOK; simp [cutRows]; done) | (unfold roomOK; simp [cutRows]; omega) | (simp [cutRows]; done) | (simp [cutRows]; omega)) ?_; conv => whnf) | (refine SliceG.fr ?_; conv => whnf) | (refine idx_at _ (by with_reducible rfl) (by first | assumption | omega) ?_; conv => whnf) | ((with_reducible refine row_map (by first | assumption | omega) ?_); conv => whnf) | (refine row_str (by rfl) (by first | (simp [cutRows]; done) | (simp [cutRows]; omega)) ?_; intro str; conv => whnf) | ((with_reducible refine row_set (by first | assumption | omega | (simp only [List.length_set]; omega) | (simp; omega)) ?_); conv => whnf) | fail)
     rotate_left 2
     · have := h2 _ (List.getElem_mem (show (nextV L (q + 1) ((l.map encLy).length : Nat)).toNat < l.length by omega))
       refine .mk (room_small (Nat.le_trans (Nat.add_le_add (show _ ≤ 10 by rw [List.length_map]; exact this) (show _ ≤ 1 from Nat.le_refl _)) (by decide)) (by decide)) ?_
       conv => whnf
       repeat' (first | (refine Split.mk (fun h => ?_) (fun h => ?_) <;> (try simp only [decide_eq_true_eq, decide_eq_false_iff_not, Bool.not_eq_true', Bool.not_eq_false', beq_iff_eq, beq_eq_false_iff_ne, bne_iff_ne, bne_eq_false_iff_eq] at h) <;> (first | (exfalso; first | omega | exact h trivial | (simp [cutRows] at h; done) | (simp [cutRows] at h; omega)) | (conv => whnf))) | (refine CondG.mk (fun h => ?_) (fun h => ?_) <;> (try simp only [decide_eq_true_eq, decide_eq_false_iff_not, Bool.not_eq_true', Bool.not_eq_false', beq_iff_eq, beq_eq_false_iff_ne, bne_iff_ne, bne_eq_false_iff_eq] at h) <;> (first | (exfalso; first | omega | exact h trivial | (simp [cutRows] at h; done) | (simp [cutRows] at h; omega)) | (conv => whnf))) | (refine CallX.mk _ _ (by first | exact flip_ok (hQ _ (by omega) (by omega)) _ (by omega) | exact next_ok (hQ _ (by omega) (by omega)) _ (by omega) | exact range_ok (hQ _ (by omega) (by omega)) _ _ (by omega) (small_lit (by omega)) (small_lit (by omega)) | exact odd_ok (hQ _ (by omega) (by omega)) (hQ _ (by omega) (by omega)) _ _ (small_lit (by omega)) (small_lit (by omega)) (by omega) | exact pick_ok (hQ _ (by omega) (by omega)) [_] (by simp) (by simp) | exact pick_ok (hQ _ (by omega) (by omega)) [_, _] (by simp) (by simp) | exact pick_ok (hQ _ (by omega) (by omega)) [_, _, _] (by simp) (by simp) | exact pick_ok (hQ _ (by omega) (by omega)) [_, _, _, _] (by simp) (by simp) | exact pick_ok (hQ _ (by omega) (by omega)) [_, _, _, _, _] (by simp) (by simp) | exact pick_ok (hQ _ (by omega) (by omega)) [_, _, _, _, _, _] (by simp) (by simp) | exact pick_ok (hQ _ (by omega) (by omega)) [_, _, _, _, _, _, _] (by simp) (by simp) | exact pick_ok (hQ _ (by omega) (by omega)) [_, _, _, _, _, _, _, _] (by simp) (by simp) | exact pick_ok (hQ _ (by omega) (by omega)) [_, _, _, _, _, _, _, _, _] (by simp) (by simp) | exact pick_ok (hQ _ (by omega) (by omega)) [_, _, _, _, _, _, _, _, _, _] (by simp) (by simp) | exact some_ok (hQ _ (by omega) (by omega)) [_] (by simp) (by simp) | exact some_ok (hQ _ (by omega) (by omega)) [_, _] (by simp) (by simp) | exact some_ok (hQ _ (by omega) (by omega)) [_, _, _] (by simp) (by simp) | exact some_ok (hQ _ (by omega) (by omega)) [_, _, _, _] (by simp) (by simp) | exact some_ok (hQ _ (by omega) (by omega)) [_, _, _, _, _] (by simp) (by simp) | exact some_ok (hQ _ (by omega) (by omega)) [_, _, _, _, _, _] (by simp) (by simp) | exact some_ok (hQ _ (by omega) (by omega)) [_, _, _, _, _, _, _] (by simp) (by simp) | exact some_ok (hQ _ (by omega) (by omega)) [_, _, _, _, _, _, _, _] (by simp) (by simp)) ?_; conv => whnf) | (refine CallG.mk _ _ (by first | exact flip_ok (hQ _ (by omega) (by omega)) _ (by omega) | exact next_ok (hQ _ (by omega) (by omega)) _ (by omega) | exact range_ok (hQ _ (by omega) (by omega)) _ _ (by omega) (small_lit (by omega)) (small_lit (by omega)) | exact odd_ok (hQ _ (by omega) (by omega)) (hQ _ (by omega) (by omega)) _ _ (small_lit (by omega)) (small_lit (by omega)) (by omega) | exact pick_ok (hQ _ (by omega) (by omega)) [_] (by simp) (by simp) | exact pick_ok (hQ _ (by omega) (by omega)) [_, _] (by simp) (by simp) | exact pick_ok (hQ _ (by omega) (by omega)) [_, _, _] (by simp) (by simp) | exact pick_ok (hQ _ (by omega) (by omega)) [_, _, _, _] (by simp) (by simp) | exact pick_ok (hQ _ (by omega) (by omega)) [_, _, _, _, _] (by simp) (by simp) | exact pick_ok (hQ _ (by omega) (by omega)) [_, _, _, _, _, _] (by simp) (by simp) | exact pick_ok (hQ _ (by omega) (by omega)) [_, _, _, _, _, _, _] (by simp) (by simp) | exact pick_ok (hQ _ (by omega) (by omega)) [_, _, _, _, _, _, _, _] (by simp) (by simp) | exact pick_ok (hQ _ (by omega) (by omega)) [_, _, _, _, _, _, _, _, _] (by simp) (by simp) | exact pick_ok (hQ _ (by omega) (by omega)) [_, _, _, _, _, _, _, _, _, _] (by simp) (by simp) | exact some_ok (hQ _ (by omega) (by omega)) [_] (by simp) (by simp) | exact some_ok (hQ _ (by omega) (by omega)) [_, _] (by simp) (by simp) | exact some_ok (hQ _ (by omega) (by omega)) [_, _, _] (by simp) (by simp) | exact some_ok (hQ _ (by omega) (by omega)) [_, _, _, _] (by simp) (by simp) | exact some_ok (hQ _ (by omega) (by omega)) [_, _, _, _, _] (by simp) (by simp) | exact some_ok (hQ _ (by omega) (by omega)) [_, _, _, _, _, _] (by simp) (by simp) | exact some_ok (hQ _ (by omega) (by omega)) [_, _, _, _, _, _, _] (by simp) (by simp) | exact some_ok (hQ _ (by omega) (by omega)) [_, _, _, _, _, _, _, _] (by simp) (by simp)) ?_; conv => whnf) | (refine Ask.mk (by first | omega | (unfold roomOK; simp [cutRows]; done) | (unfold roomOK; simp [cutRows]; omega) | (simp [cutRows]; done) | (simp [cutRows]; omega)) ?_; conv => whnf) | (refine AppG.mk (by first | omega | (unfold roomOK; simp [cutRows]; done) | (unfold roomOK; simp [cutRows]; omega) | (simp [cutRows]; done) | (simp [cutRows]; omega)) ?_; conv => whnf) | (refine SliceG.fr ?_; conv => whnf) | (refine idx_at _ (by with_reducible rfl) (by first | assumption | omega) ?_; conv => whnf) | ((with_reducible refine row_map (by first | assumption | omega) ?_); conv => whnf) | (refine row_str (by rfl) (by first | (simp [cutRows]; done) | (simp [cutRows]; omega)) ?_; intro str; conv => whnf) | ((with_reducible refine row_set (by first | assumption | omega | (simp only [List.length_set]; omega) | (simp; omega)) ?_); conv => whnf) | fail)
       have hset : ∀ x ∈ l.set (nextV L (q + 1) ((l.map encLy).length : Nat)).toNat ⟨(l[(nextV L (q + 1) ((l.map encLy).length : Nat)).toNat]'(by omega)).cable, (l[(nextV L (q + 1) ((l.map encLy).length : Nat)).toNat]'(by omega)).outer, (l[(nextV L (q + 1) ((l.map encLy).length : Nat)).toNat]'(by omega)).ducts ++ [someV L (q + 1 + 1 + 1) [⟨#[100, 49]⟩, ⟨#[122, 122]⟩, ⟨#[100, 54]⟩]]⟩, x.ducts.length ≤ 100 := by
         intro x hx
         rcases List.mem_or_eq_of_mem_set hx with hx | rfl
         · have := h2 x hx; omega
         · simp only [List.length_append, List.length_cons, List.length_nil]; omega
       exact .mk _ _ ⟨_, _, rfl, rfl, by rw [List.length_set]; omega, hset, by omega, by omega, hs5 _ _ (hi5 (nextV L (q + 1) ((l.map encLy).length : Nat)).toNat (by omega))⟩ (.frz 1 _ _ _ rfl (.weak [_] (.fro 1 _ _ (by rw [List.map_set]; simp only [encLy, List.map_append]; rfl)) rfl (Nat.le_refl _)))
     · exact .mk _ _ ⟨l, _, rfl, rfl, by omega, fun x hx => Nat.le_trans (h2 x hx) (by decide), by omega, by omega, h5⟩ (.frz 1 _ _ _ rfl (.weak [_] (.fro 1 _ _ rfl) rfl (Nat.le_refl _)))
     · exact .mk _ _ ⟨l, _, rfl, rfl, by omega, fun x hx => Nat.le_trans (h2 x hx) (by decide), by omega, by omega, h5⟩ (.frz 1 _ _ _ rfl (.weak [_] (.fro 1 _ _ rfl) rfl (Nat.le_refl _)))
     · simp only [List.set_set]
       have := h2 _ (List.getElem_mem (show (nextV L (q + 1) ((l.map encLy).length : Nat)).toNat < l.length by omega))
       refine .mk _ _ ⟨l.set (nextV L (q + 1) ((l.map encLy).length : Nat)).toNat ⟨_, _, (l[(nextV L (q + 1) ((l.map encLy).length : Nat)).toNat]'(by omega)).ducts⟩, _, rfl, rfl, by rw [List.length_set]; omega, ?_, by omega, by omega, hs5 _ _ (some_nm (hi5 (nextV L (q + 1) ((l.map encLy).length : Nat)).toNat (by omega)))⟩ (.frz 1 _ _ _ rfl (.weak [_] (.fro 1 _ _ (by rw [List.map_set]; rfl)) rfl (Nat.le_refl _)))
       intro x hx
       rcases List.mem_or_eq_of_mem_set hx with hx | rfl
       · have := h2 x hx; omega
       · show (l[(nextV L (q + 1) ((l.map encLy).length : Nat)).toNat]'(by omega)).ducts.length ≤ 100; omega
     · refine .mk _ _ ⟨l.set (nextV L (q + 1) ((l.map encLy).length : Nat)).toNat ⟨(l[(nextV L (q + 1) ((l.map encLy).length : Nat)).toNat]'(by omega)).cable, (l[(nextV L (q + 1) ((l.map encLy).length : Nat)).toNat]'(by omega)).outer, []⟩, _, rfl, rfl, by rw [List.length_set]; omega, ?_, by omega, by omega, hs5 _ _ (hi5 (nextV L (q + 1) ((l.map encLy).length : Nat)).toNat (by omega))⟩ (.frz 1 _ _ _ rfl (.weak [_] (.deep 1 _ _ _ rfl (dw_rows ?_)) rfl (Nat.le_refl _)))
       · intro x hx
         rcases List.mem_or_eq_of_mem_set hx with hx | rfl
         · exact Nat.le_trans (h2 x hx) (by decide)
         · simp
       · rw [List.map_set]
         exact p2_set (p2_refl .refl) (P2.cons (.refl _) (P2.cons (.refl _) (P2.cons (.nils 1) P2.nil))) _
set_option maxRecDepth 100000 in
set_option maxHeartbeats 4000000 in
theorem rRightD_pc {L : List Int} {p : Int} (hst : StOk L p) (hp : p ≤ 700000000) :
    PCq 33 [.c (.ptr 0 0)] [stO L p] fun r os => ∃ (d : List Du) (l : List Ly) (p' : Int), r = .tup [.c (.lst 5 (d.map encDu)), .c (.lst 3 (l.map encLy))] ∧ os = [stO L p'] ∧ lyFault d l = 0 ∧ d.length ≤ 6 ∧ l.length ≤ 4 ∧ (∀ x ∈ l, x.ducts.length ≤ 100) ∧ (∀ x ∈ l, x.cable ∈ lyNames) ∧ p ≤ p' ∧ p' ≤ p + 2000 := by
  have hS : ∀ x : Int, p ≤ x → x ≤ p + 3000 → StOk L x := fun x h3 h4 => ⟨hst.1, by have := hst.2.1; omega, by omega⟩
  refine fn_soundX (mt := mts) tab_fits tab_mixed Tryz.func33 (by rfl) (by kernel_rfl) (by kernel_rfl) Tryz.results33 (Nat.le_of_ble_eq_true (by kernel_rfl)) ?_
  conv => whnf
  refine loop_for (6) [] [0, 6] (fun k (q : Int) => [(6, .c (.int .i64 (k : Int)))]) (fun k (q : Int) => [(0, stO L q)]) (fun k (q : Int) => p ≤ q ∧ q ≤ p + 200 * k) (p) ?_
  conv => whnf
  refine ⟨(by first | rfl | (simp; done) | (simp; rfl)), ?_, ?_, ?_⟩
  · exact ⟨by omega, by omega⟩
  · intro k q hk ⟨h1, h2⟩
    conv => whnf
    repeat' (first | (refine Split.mk (fun h => ?_) (fun h => ?_) <;> (try simp only [decide_eq_true_eq, decide_eq_false_iff_not, Bool.not_eq_true', Bool.not_eq_false', beq_iff_eq, beq_eq_false_iff_ne, bne_iff_ne, bne_eq_false_iff_eq] at h) <;> (first | (exfalso; first | omega | exact h trivial) | (conv => whnf))) | (refine CondG.mk (fun h => ?_) (fun h => ?_) <;> (try simp only [decide_eq_true_eq, decide_eq_false_iff_not, Bool.not_eq_true', Bool.not_eq_false', beq_iff_eq, beq_eq_false_iff_ne, bne_iff_ne, bne_eq_false_iff_eq] at h) <;> (first | (exfalso; first | omega | exact h trivial) | (conv => whnf))) | (refine Ask.mk (by first | omega | (unfold roomOK; simp [cutRows]; done) | (unfold roomOK; simp [cutRows]; omega) | (simp [cutRows]; done) | (simp [cutRows]; omega)) ?_; conv => whnf) | (refine AppG.mk (by first | omega | (unfold roomOK; simp [cutRows]; done) | (unfold roomOK; simp [cutRows]; omega) | (simp [cutRows]; done) | (simp [cutRows]; omega)) ?_; conv => whnf) | (refine SliceG.fr ?_; conv => whnf) | (refine idx_at _ (by with_reducible rfl) (by first | assumption | omega) ?_; conv => whnf) | ((with_reducible refine row_map (by first | assumption | omega) ?_); conv => whnf) | ((with_reducible refine row_set (by first | assumption | omega | (simp only [List.length_set]; omega) | (simp; omega)) ?_); conv => whnf) | fail)
    refine .ex _ (rDucts_pc (hS q (by omega) (by omega)) (by omega)) ?_
    rintro _ _ ⟨d, p1, rfl, rfl, g1, g2, g3⟩
    conv => whnf
    refine .ex _ (rLyInN_pc (hS p1 (by omega) (by omega)) (by omega) d g1) ?_
    rintro _ _ ⟨l, p2, rfl, rfl, g4, g5, g6, g7, g8⟩
    have hx : ∀ x ∈ l, x.ducts.length ≤ 1000000 := fun x hm => Nat.le_trans (g5 x hm) (by decide)
    conv => whnf
    repeat' (first | (refine Split.mk (fun h => ?_) (fun h => ?_) <;> (try simp only [decide_eq_true_eq, decide_eq_false_iff_not, Bool.not_eq_true', Bool.not_eq_false', beq_iff_eq, beq_eq_false_iff_ne, bne_iff_ne, bne_eq_false_iff_eq] at h) <;> (first | (exfalso; first | omega | exact h trivial) | (conv => whnf))) | (refine CondG.mk (fun h => ?_) (fun h => ?_) <;> (try simp only [decide_eq_true_eq, decide_eq_false_iff_not, Bool.not_eq_true', Bool.not_eq_false', beq_iff_eq, beq_eq_false_iff_ne, bne_iff_ne, bne_eq_false_iff_eq] at h) <;> (first | (exfalso; first | omega | exact h trivial) | (conv => whnf))) | (refine CallX.mk _ _ (by first | exact rLyingFault_pc d l hx) ?_; conv => whnf) | (refine CallG.mk _ _ (by first | exact rLyingFault_pc d l hx) ?_; conv => whnf) | (refine Ask.mk (by first | omega | (unfold roomOK; simp [cutRows]; done) | (unfold roomOK; simp [cutRows]; omega) | (simp [cutRows]; done) | (simp [cutRows]; omega)) ?_; conv => whnf) | (refine AppG.mk (by first | omega | (unfold roomOK; simp [cutRows]; done) | (unfold roomOK; simp [cutRows]; omega) | (simp [cutRows]; done) | (simp [cutRows]; omega)) ?_; conv => whnf) | (refine SliceG.fr ?_; conv => whnf) | (refine idx_at _ (by with_reducible rfl) (by first | assumption | omega) ?_; conv => whnf) | ((with_reducible refine row_map (by first | assumption | omega) ?_); conv => whnf) | ((with_reducible refine row_set (by first | assumption | omega | (simp only [List.length_set]; omega) | (simp; omega)) ?_); conv => whnf) | fail)
    · have h0 : lyFault d l = 0 := by assumption
      refine .mk _ _ ⟨d, l, p2, rfl, rfl, h0, g1, g4, g5, fun x hx => ?_, by omega, by omega⟩ (.mk ⟨rfl, rfl⟩)
      have hk := ((full_facts h0).2.2.1 x hx).1
      have hn := g8 x hx
      unfold lyNm at hn
      rcases List.mem_cons.1 hn with e | e
      · rw [e] at hk; exact absurd hk (by decide)
      · exact e
    · exact count_next p2 hk (by rw [wrap_succ hk (by omega)]; rfl) ⟨by omega, by omega⟩
  · intro q ⟨h1, h2⟩
    conv => whnf
    repeat' (first | (refine Split.mk (fun h => ?_) (fun h => ?_) <;> (try simp only [decide_eq_true_eq, decide_eq_false_iff_not, Bool.not_eq_true', Bool.not_eq_false', beq_iff_eq, beq_eq_false_iff_ne, bne_iff_ne, bne_eq_false_iff_eq] at h) <;> (first | (exfalso; first | omega | exact h trivial) | (conv => whnf))) | (refine CondG.mk (fun h => ?_) (fun h => ?_) <;> (try simp only [decide_eq_true_eq, decide_eq_false_iff_not, Bool.not_eq_true', Bool.not_eq_false', beq_iff_eq, beq_eq_false_iff_ne, bne_iff_ne, bne_eq_false_iff_eq] at h) <;> (first | (exfalso; first | omega | exact h trivial) | (conv => whnf))) | (refine Ask.mk (by first | omega | (unfold roomOK; simp [cutRows]; done) | (unfold roomOK; simp [cutRows]; omega) | (simp [cutRows]; done) | (simp [cutRows]; omega)) ?_; conv => whnf) | (refine AppG.mk (by first | omega | (unfold roomOK; simp [cutRows]; done) | (unfold roomOK; simp [cutRows]; omega) | (simp [cutRows]; done) | (simp [cutRows]; omega)) ?_; conv => whnf) | (refine SliceG.fr ?_; conv => whnf) | (refine idx_at _ (by with_reducible rfl) (by first | assumption | omega) ?_; conv => whnf) | ((with_reducible refine row_map (by first | assumption | omega) ?_); conv => whnf) | ((with_reducible refine row_set (by first | assumption | omega | (simp only [List.length_set]; omega) | (simp; omega)) ?_); conv => whnf) | fail)
    refine .mk _ _ ⟨[], [], q, rfl, rfl, by decide, by simp, by simp, by simp, by simp, by omega, by omega⟩ (.weak [] (.tup _ _ rfl ?_) rfl (Nat.le_refl _))
    intro i a b ha hb
    match i with
    | 0 => cases ha; cases hb; exact .nil 5
    | 1 => cases ha; cases hb; exact .nil 3
end Go.Proofs.YtllpjcgadfmipaaGreat
