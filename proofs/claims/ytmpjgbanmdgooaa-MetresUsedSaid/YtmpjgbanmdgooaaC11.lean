/- A list of one drum is sorted. -/
import Derived.Test.YtmpjgbanmdgooaaC10
namespace Go.Proofs.Ytmpjgbanmdgooaa
set_option linter.unusedVariables false
set_option linter.unusedSimpArgs false
open Abs

set_option maxRecDepth 100000 in
set_option maxHeartbeats 4000000 in
theorem len64_pc : PCp 175 [.c (.int .u64 1)] [] (.c (.int .i64 1)) [] := by
  refine fn_sound (mt := mts) tab_fits tab_mixed Try.func175 (by rfl) (by kernel_rfl) (by kernel_rfl) Try.results175 (Nat.le_of_ble_eq_true (by kernel_rfl)) ?_
  conv => whnf
  repeat' (first
    | (refine Split.mk (fun h => ?_) (fun h => ?_) <;> (try simp only [decide_eq_true_eq, decide_eq_false_iff_not, Bool.not_eq_true', Bool.not_eq_false', beq_iff_eq, beq_eq_false_iff_ne] at h) <;> (first | (exfalso; first | omega | exact h trivial) | (conv => whnf)))
    | (refine CondG.mk (fun h => ?_) (fun h => ?_) <;> (try simp only [decide_eq_true_eq, decide_eq_false_iff_not, Bool.not_eq_true', Bool.not_eq_false', beq_iff_eq, beq_eq_false_iff_ne] at h) <;> (first | (exfalso; first | omega | exact h trivial) | (conv => whnf)))
    | (refine Ask.mk (by first | omega | (unfold roomOK; simp [cutRows]; done) | (unfold roomOK; simp [cutRows]; omega)) ?_; conv => whnf)
    | (refine SliceG.fr ?_; conv => whnf)
    | fail)
  all_goals first | (exfalso; revert h; decide) | skip
  refine .mk (by decide +kernel) ?_
  conv => whnf
  exact fini (by decide +kernel)
set_option maxRecDepth 100000 in
set_option maxHeartbeats 4000000 in
theorem len_pc : PCp 157 [.c (.int .u64 1)] [] (.c (.int .i64 1)) [] := by
  refine fn_sound (mt := mts) tab_fits tab_mixed Try.func157 (by rfl) (by kernel_rfl) (by kernel_rfl) Try.results157 (Nat.le_of_ble_eq_true (by kernel_rfl)) ?_
  conv => whnf
  repeat' (first
    | (refine Split.mk (fun h => ?_) (fun h => ?_) <;> (try simp only [decide_eq_true_eq, decide_eq_false_iff_not, Bool.not_eq_true', Bool.not_eq_false', beq_iff_eq, beq_eq_false_iff_ne] at h) <;> (first | (exfalso; first | omega | exact h trivial) | (conv => whnf)))
    | (refine CondG.mk (fun h => ?_) (fun h => ?_) <;> (try simp only [decide_eq_true_eq, decide_eq_false_iff_not, Bool.not_eq_true', Bool.not_eq_false', beq_iff_eq, beq_eq_false_iff_ne] at h) <;> (first | (exfalso; first | omega | exact h trivial) | (conv => whnf)))
    | (refine CallX.mk _ _ (by first | exact len64_pc) ?_; conv => whnf)
    | (refine CallG.mk _ _ (by first | exact len64_pc) ?_; conv => whnf)
    | (refine Ask.mk (by first | omega | (unfold roomOK; simp [cutRows]; done) | (unfold roomOK; simp [cutRows]; omega)) ?_; conv => whnf)
    | (refine SliceG.fr ?_; conv => whnf)
    | fail)
  exact fini rfl
set_option maxRecDepth 100000 in
set_option maxHeartbeats 4000000 in
theorem ins1_pc (r : List V) (g : Nat) : PCp 166 [.c (.row 0), .c (.int .i64 0), .c (.int .i64 1), .c (.fn g [])] [.row 127 3 [r]] (.tup []) [.row 127 3 [r]] := by
  refine fn_sound (mt := mts) tab_fits tab_mixed Try.func166 (by rfl) (by kernel_rfl) (by kernel_rfl) Try.results166 (Nat.le_of_ble_eq_true (by kernel_rfl)) ?_
  conv => whnf
  refine .un 1 ?_
  conv => whnf
  repeat' (first
    | (refine Split.mk (fun h => ?_) (fun h => ?_) <;> (try simp only [decide_eq_true_eq, decide_eq_false_iff_not, Bool.not_eq_true', Bool.not_eq_false', beq_iff_eq, beq_eq_false_iff_ne] at h) <;> (first | (exfalso; first | omega | exact h trivial) | (conv => whnf)))
    | (refine CondG.mk (fun h => ?_) (fun h => ?_) <;> (try simp only [decide_eq_true_eq, decide_eq_false_iff_not, Bool.not_eq_true', Bool.not_eq_false', beq_iff_eq, beq_eq_false_iff_ne] at h) <;> (first | (exfalso; first | omega | exact h trivial) | (conv => whnf)))
    | (refine Ask.mk (by first | omega | (unfold roomOK; simp [cutRows]; done) | (unfold roomOK; simp [cutRows]; omega)) ?_; conv => whnf)
    | (refine SliceG.fr ?_; conv => whnf)
    | fail)
  all_goals first | exact .mk ⟨rfl, rfl⟩ | (exfalso; revert h; decide)
set_option maxRecDepth 100000 in
set_option maxHeartbeats 4000000 in
theorem pdq1_pc (r : List V) (g : Nat) : PCp 156 [.c (.row 0), .c (.int .i64 0), .c (.int .i64 1), .c (.int .i64 1), .c (.fn g [])] [.row 127 3 [r]] (.tup []) [.row 127 3 [r]] := by
  refine fn_sound (mt := mts) tab_fits tab_mixed Try.func156 (by rfl) (by kernel_rfl) (by kernel_rfl) Try.results156 (Nat.le_of_ble_eq_true (by kernel_rfl)) ?_
  conv => whnf
  refine .un 1 ?_
  conv => whnf
  repeat' (first
    | (refine Split.mk (fun h => ?_) (fun h => ?_) <;> (try simp only [decide_eq_true_eq, decide_eq_false_iff_not, Bool.not_eq_true', Bool.not_eq_false', beq_iff_eq, beq_eq_false_iff_ne] at h) <;> (first | (exfalso; first | omega | exact h trivial) | (conv => whnf)))
    | (refine CondG.mk (fun h => ?_) (fun h => ?_) <;> (try simp only [decide_eq_true_eq, decide_eq_false_iff_not, Bool.not_eq_true', Bool.not_eq_false', beq_iff_eq, beq_eq_false_iff_ne] at h) <;> (first | (exfalso; first | omega | exact h trivial) | (conv => whnf)))
    | (refine CallX.mk _ _ (by first | exact ins1_pc _ _) ?_; conv => whnf)
    | (refine CallG.mk _ _ (by first | exact ins1_pc _ _) ?_; conv => whnf)
    | (refine Ask.mk (by first | omega | (unfold roomOK; simp [cutRows]; done) | (unfold roomOK; simp [cutRows]; omega)) ?_; conv => whnf)
    | (refine SliceG.fr ?_; conv => whnf)
    | fail)
  all_goals first | exact .mk ⟨rfl, rfl⟩ | (exfalso; revert h; decide) | (exfalso; rename_i h2; revert h2; decide)
set_option maxRecDepth 100000 in
set_option maxHeartbeats 4000000 in
theorem sort1_pc (r : List V) (g : Nat) : PCp 140 [.c (.row 0), .c (.fn g [])] [.row 127 3 [r]] (.tup []) [.row 127 3 [r]] := by
  refine fn_sound (mt := mts) tab_fits tab_mixed Try.func140 (by rfl) (by kernel_rfl) (by kernel_rfl) Try.results140 (Nat.le_of_ble_eq_true (by kernel_rfl)) ?_
  conv => whnf
  repeat' (first
    | (refine Split.mk (fun h => ?_) (fun h => ?_) <;> (try simp only [decide_eq_true_eq, decide_eq_false_iff_not, Bool.not_eq_true', Bool.not_eq_false', beq_iff_eq, beq_eq_false_iff_ne] at h) <;> (first | (exfalso; first | omega | exact h trivial) | (conv => whnf)))
    | (refine CondG.mk (fun h => ?_) (fun h => ?_) <;> (try simp only [decide_eq_true_eq, decide_eq_false_iff_not, Bool.not_eq_true', Bool.not_eq_false', beq_iff_eq, beq_eq_false_iff_ne] at h) <;> (first | (exfalso; first | omega | exact h trivial) | (conv => whnf)))
    | (refine CallX.mk _ _ (by first | exact len_pc | exact pdq1_pc _ _) ?_; conv => whnf)
    | (refine CallG.mk _ _ (by first | exact len_pc | exact pdq1_pc _ _) ?_; conv => whnf)
    | (refine Ask.mk (by first | omega | (unfold roomOK; simp [cutRows]; done) | (unfold roomOK; simp [cutRows]; omega)) ?_; conv => whnf)
    | (refine SliceG.fr ?_; conv => whnf)
    | fail)
  exact .mk ⟨rfl, rfl⟩
set_option maxRecDepth 100000 in
set_option maxHeartbeats 4000000 in
theorem stock_pc (x : Ac) (hk : x.kd = 1) (hx : actErr x = 0) (m : Int) (hm : x.mo ≤ m) (hmm : momB m = true) : PCp 103 [.c (.lst 6 [encAc x]), .c (.int .i64 m)] [] (.tup [.c (.row 0), .c (.int .i64 0)]) [.row 127 3 [[.str x.drum, .str x.ty, .int .i64 x.long]]] := by
  refine fn_sound (mt := mts) tab_fits tab_mixed Try.func103 (by rfl) (by kernel_rfl) (by kernel_rfl) Try.results103 (Nat.le_of_ble_eq_true (by kernel_rfl)) ?_
  conv => whnf
  repeat' (first
    | (refine Split.mk (fun h => ?_) (fun h => ?_) <;> (try simp only [decide_eq_true_eq, decide_eq_false_iff_not, Bool.not_eq_true', Bool.not_eq_false', beq_iff_eq, beq_eq_false_iff_ne] at h) <;> (first | (exfalso; first | omega | exact h trivial) | (conv => whnf)))
    | (refine CondG.mk (fun h => ?_) (fun h => ?_) <;> (try simp only [decide_eq_true_eq, decide_eq_false_iff_not, Bool.not_eq_true', Bool.not_eq_false', beq_iff_eq, beq_eq_false_iff_ne] at h) <;> (first | (exfalso; first | omega | exact h trivial) | (conv => whnf)))
    | (refine CallX.mk _ _ (by first | exact at_pc x hk hx m hm hmm) ?_; conv => whnf)
    | (refine CallG.mk _ _ (by first | exact at_pc x hk hx m hm hmm) ?_; conv => whnf)
    | (refine Ask.mk (by first | omega | (unfold roomOK; simp [cutRows]; done) | (unfold roomOK; simp [cutRows]; omega)) ?_; conv => whnf)
    | (refine SliceG.fr ?_; conv => whnf)
    | fail)
  · cases h
  refine .un 2 ?_
  conv => whnf
  refine .mk rfl ?_
  conv => whnf
  refine .mk (α := Nat × S × S) (fun e => e) [(0, .c (.str x.drum), .agg [.str x.ty, .int .i64 x.long])] rfl (by intro h; cases h) ?_
  intro e he
  simp only [List.mem_singleton] at he
  subst he
  conv => whnf
  repeat' (first
    | (refine Split.mk (fun h => ?_) (fun h => ?_) <;> (try simp only [decide_eq_true_eq, decide_eq_false_iff_not, Bool.not_eq_true', Bool.not_eq_false', beq_iff_eq, beq_eq_false_iff_ne] at h) <;> (first | (exfalso; first | omega | exact h trivial) | (conv => whnf)))
    | (refine CondG.mk (fun h => ?_) (fun h => ?_) <;> (try simp only [decide_eq_true_eq, decide_eq_false_iff_not, Bool.not_eq_true', Bool.not_eq_false', beq_iff_eq, beq_eq_false_iff_ne] at h) <;> (first | (exfalso; first | omega | exact h trivial) | (conv => whnf)))
    | (refine Ask.mk (by first | omega | (unfold roomOK; simp [cutRows]; done) | (unfold roomOK; simp [cutRows]; omega)) ?_; conv => whnf)
    | (refine SliceG.fr ?_; conv => whnf)
    | fail)
  refine .mk _ _ rfl ?_
  conv => whnf
  repeat' (first
    | (refine Split.mk (fun h => ?_) (fun h => ?_) <;> (try simp only [decide_eq_true_eq, decide_eq_false_iff_not, Bool.not_eq_true', Bool.not_eq_false', beq_iff_eq, beq_eq_false_iff_ne] at h) <;> (first | (exfalso; first | omega | exact h trivial) | (conv => whnf)))
    | (refine CondG.mk (fun h => ?_) (fun h => ?_) <;> (try simp only [decide_eq_true_eq, decide_eq_false_iff_not, Bool.not_eq_true', Bool.not_eq_false', beq_iff_eq, beq_eq_false_iff_ne] at h) <;> (first | (exfalso; first | omega | exact h trivial) | (conv => whnf)))
    | (refine Ask.mk (by first | omega | (unfold roomOK; simp [cutRows]; done) | (unfold roomOK; simp [cutRows]; omega)) ?_; conv => whnf)
    | (refine SliceG.fr ?_; conv => whnf)
    | fail)
  refine .mk (α := Nat × S × S) (fun e => e) [] rfl (fun _ => ?_) (by intro e he; cases he)
  conv => whnf
  repeat' (first
    | (refine Split.mk (fun h => ?_) (fun h => ?_) <;> (try simp only [decide_eq_true_eq, decide_eq_false_iff_not, Bool.not_eq_true', Bool.not_eq_false', beq_iff_eq, beq_eq_false_iff_ne] at h) <;> (first | (exfalso; first | omega | exact h trivial) | (conv => whnf)))
    | (refine CondG.mk (fun h => ?_) (fun h => ?_) <;> (try simp only [decide_eq_true_eq, decide_eq_false_iff_not, Bool.not_eq_true', Bool.not_eq_false', beq_iff_eq, beq_eq_false_iff_ne] at h) <;> (first | (exfalso; first | omega | exact h trivial) | (conv => whnf)))
    | (refine CallX.mk _ _ (by first | exact sort1_pc _ _) ?_; conv => whnf)
    | (refine CallG.mk _ _ (by first | exact sort1_pc _ _) ?_; conv => whnf)
    | (refine Ask.mk (by first | omega | (unfold roomOK; simp [cutRows]; done) | (unfold roomOK; simp [cutRows]; omega)) ?_; conv => whnf)
    | (refine SliceG.fr ?_; conv => whnf)
    | fail)
  exact .mk ⟨rfl, rfl⟩
end Go.Proofs.Ytmpjgbanmdgooaa
