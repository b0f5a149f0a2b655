/- Parts of the proof, in order. -/
import Derived.Test.YtdljolmiclbolaaGreatDoorMRepairsRestore3

/- A plant of one cable, by constants. -/
namespace Go.Proofs.YtdljolmiclbolaaGreatDoor
set_option linter.unusedVariables false
set_option linter.unusedSimpArgs false
open Abs

abbrev cA : V := .str ⟨#[97]⟩
abbrev cB : V := .str ⟨#[98]⟩
abbrev cC : V := .str ⟨#[99]⟩
abbrev n1 : V := .int .i64 1
abbrev tSites : V := .lst 2 [[cA, .int .i64 1], [cB, .int .i64 4]]
abbrev tCables : V := .lst 5 [[cC, cA, cB, .int .i64 5, .int .i64 1]]
abbrev tinyL : List V := [tSites, tCables, .nils]
abbrev kindsO : Ob := .map 2 [(0, .c cA, .c (.int .i64 1)), (1, .c cB, .c (.int .i64 4))]
abbrev cabsO : Ob := .map 1 [(0, .c cC, .agg [cC, cA, cB, .int .i64 5, .int .i64 1])]
abbrev webO : List Ob := [.box [tSites, tCables, .nils, .mp 1, .mp 2, .mp 3, .nilm], kindsO, cabsO, .map 0 []]
set_option maxRecDepth 100000 in
set_option maxHeartbeats 4000000 in
theorem tiny_c : PCp 28 [] [] (.agg tinyL) [] := by
  refine fn_sound (mt := mts) tab_fits tab_mixed Tryz.func28 (by rfl) (by kernel_rfl) (by kernel_rfl) Tryz.results28 (Nat.le_of_ble_eq_true (by kernel_rfl)) ?_
  conv => whnf
  repeat' (first | (refine CondG.mk (fun h => ?_) (fun h => absurd h (by decide +kernel)); clear h; conv => whnf) | (refine CondG.mk (fun h => absurd h (by decide +kernel)) (fun h => ?_); clear h; conv => whnf) | (refine Split.mk (fun h => ?_) (fun h => absurd h (by decide +kernel)); clear h; conv => whnf) | (refine Split.mk (fun h => absurd h (by decide +kernel)) (fun h => ?_); clear h; conv => whnf) | (refine Ask.mk (by first | decide | (unfold roomOK; decide)) ?_; conv => whnf) | (refine AppG.mk (by first | decide | (unfold roomOK; decide)) ?_; conv => whnf) | (refine SliceG.fr ?_; conv => whnf) | (refine IdxG.mk _ ⟨by decide, by rfl⟩ ?_; conv => whnf) | (refine RowG.mk _ (by rfl) ?_; conv => whnf) | (refine look_no (by decide +kernel) ?_; conv => whnf) | (refine look_ix 0 (by rfl) (by decide +kernel) ?_; conv => whnf) | (refine look_ix 1 (by rfl) (by decide +kernel) ?_; conv => whnf) | (refine look_ix 2 (by rfl) (by decide +kernel) ?_; conv => whnf) | (refine upd_no (by decide +kernel) ?_; conv => whnf) | (refine LoopG.un 12 ?_; conv => whnf) | fail)
  all_goals first | exact .mk ⟨rfl, rfl⟩ | trace_state
set_option maxRecDepth 100000 in
set_option maxHeartbeats 4000000 in
theorem siteF_c1 : PCp 196 [.agg [cA, .int .i64 1]] [] (.c (.int .i64 0)) [] := by
  refine fn_sound (mt := mts) tab_fits tab_mixed Tryz.func196 (by rfl) (by kernel_rfl) (by kernel_rfl) Tryz.results196 (Nat.le_of_ble_eq_true (by kernel_rfl)) ?_
  conv => whnf
  repeat' (first | (refine CondG.mk (fun h => ?_) (fun h => absurd h (by decide +kernel)); clear h; conv => whnf) | (refine CondG.mk (fun h => absurd h (by decide +kernel)) (fun h => ?_); clear h; conv => whnf) | (refine Split.mk (fun h => ?_) (fun h => absurd h (by decide +kernel)); clear h; conv => whnf) | (refine Split.mk (fun h => absurd h (by decide +kernel)) (fun h => ?_); clear h; conv => whnf) | (refine CallX.mk _ _ (by first | exact bKey_pc _ | exact bOut_pc _ _ _) ?_; conv => whnf) | (refine CallG.mk _ _ (by first | exact bKey_pc _ | exact bOut_pc _ _ _) ?_; conv => whnf) | (refine Ask.mk (by first | decide | (unfold roomOK; decide)) ?_; conv => whnf) | (refine AppG.mk (by first | decide | (unfold roomOK; decide)) ?_; conv => whnf) | (refine SliceG.fr ?_; conv => whnf) | (refine IdxG.mk _ ⟨by decide, by rfl⟩ ?_; conv => whnf) | (refine RowG.mk _ (by rfl) ?_; conv => whnf) | (refine look_no (by decide +kernel) ?_; conv => whnf) | (refine look_ix 0 (by rfl) (by decide +kernel) ?_; conv => whnf) | (refine look_ix 1 (by rfl) (by decide +kernel) ?_; conv => whnf) | (refine look_ix 2 (by rfl) (by decide +kernel) ?_; conv => whnf) | (refine upd_no (by decide +kernel) ?_; conv => whnf) | (refine LoopG.un 12 ?_; conv => whnf) | fail)
  all_goals first | exact .mk ⟨rfl, rfl⟩ | trace_state
set_option maxRecDepth 100000 in
set_option maxHeartbeats 4000000 in
theorem siteF_c2 : PCp 196 [.agg [cB, .int .i64 4]] [] (.c (.int .i64 0)) [] := by
  refine fn_sound (mt := mts) tab_fits tab_mixed Tryz.func196 (by rfl) (by kernel_rfl) (by kernel_rfl) Tryz.results196 (Nat.le_of_ble_eq_true (by kernel_rfl)) ?_
  conv => whnf
  repeat' (first | (refine CondG.mk (fun h => ?_) (fun h => absurd h (by decide +kernel)); clear h; conv => whnf) | (refine CondG.mk (fun h => absurd h (by decide +kernel)) (fun h => ?_); clear h; conv => whnf) | (refine Split.mk (fun h => ?_) (fun h => absurd h (by decide +kernel)); clear h; conv => whnf) | (refine Split.mk (fun h => absurd h (by decide +kernel)) (fun h => ?_); clear h; conv => whnf) | (refine CallX.mk _ _ (by first | exact bKey_pc _ | exact bOut_pc _ _ _) ?_; conv => whnf) | (refine CallG.mk _ _ (by first | exact bKey_pc _ | exact bOut_pc _ _ _) ?_; conv => whnf) | (refine Ask.mk (by first | decide | (unfold roomOK; decide)) ?_; conv => whnf) | (refine AppG.mk (by first | decide | (unfold roomOK; decide)) ?_; conv => whnf) | (refine SliceG.fr ?_; conv => whnf) | (refine IdxG.mk _ ⟨by decide, by rfl⟩ ?_; conv => whnf) | (refine RowG.mk _ (by rfl) ?_; conv => whnf) | (refine look_no (by decide +kernel) ?_; conv => whnf) | (refine look_ix 0 (by rfl) (by decide +kernel) ?_; conv => whnf) | (refine look_ix 1 (by rfl) (by decide +kernel) ?_; conv => whnf) | (refine look_ix 2 (by rfl) (by decide +kernel) ?_; conv => whnf) | (refine upd_no (by decide +kernel) ?_; conv => whnf) | (refine LoopG.un 12 ?_; conv => whnf) | fail)
  all_goals first | exact .mk ⟨rfl, rfl⟩ | trace_state
set_option maxRecDepth 100000 in
set_option maxHeartbeats 4000000 in
theorem sitesF_c : PCp 182 [.c tSites] [] (.c (.int .i64 0)) [] := by
  refine fn_sound (mt := mts) tab_fits tab_mixed Tryz.func182 (by rfl) (by kernel_rfl) (by kernel_rfl) Tryz.results182 (Nat.le_of_ble_eq_true (by kernel_rfl)) ?_
  conv => whnf
  repeat' (first | (refine CondG.mk (fun h => ?_) (fun h => absurd h (by decide +kernel)); clear h; conv => whnf) | (refine CondG.mk (fun h => absurd h (by decide +kernel)) (fun h => ?_); clear h; conv => whnf) | (refine Split.mk (fun h => ?_) (fun h => absurd h (by decide +kernel)); clear h; conv => whnf) | (refine Split.mk (fun h => absurd h (by decide +kernel)) (fun h => ?_); clear h; conv => whnf) | (refine CallX.mk _ _ (by first | exact siteF_c1 | exact siteF_c2) ?_; conv => whnf) | (refine CallG.mk _ _ (by first | exact siteF_c1 | exact siteF_c2) ?_; conv => whnf) | (refine Ask.mk (by first | decide | (unfold roomOK; decide)) ?_; conv => whnf) | (refine AppG.mk (by first | decide | (unfold roomOK; decide)) ?_; conv => whnf) | (refine SliceG.fr ?_; conv => whnf) | (refine IdxG.mk _ ⟨by decide, by rfl⟩ ?_; conv => whnf) | (refine RowG.mk _ (by rfl) ?_; conv => whnf) | (refine look_no (by decide +kernel) ?_; conv => whnf) | (refine look_ix 0 (by rfl) (by decide +kernel) ?_; conv => whnf) | (refine look_ix 1 (by rfl) (by decide +kernel) ?_; conv => whnf) | (refine look_ix 2 (by rfl) (by decide +kernel) ?_; conv => whnf) | (refine upd_no (by decide +kernel) ?_; conv => whnf) | (refine LoopG.un 12 ?_; conv => whnf) | fail)
  all_goals first | exact .mk ⟨rfl, rfl⟩ | trace_state
set_option maxRecDepth 100000 in
set_option maxHeartbeats 4000000 in
theorem cabF_c : PCp 197 [.agg [cC, cA, cB, .int .i64 5, .int .i64 1], .c (.mp 0)] [kindsO] (.c (.int .i64 0)) [kindsO] := by
  refine fn_sound (mt := mts) tab_fits tab_mixed Tryz.func197 (by rfl) (by kernel_rfl) (by kernel_rfl) Tryz.results197 (Nat.le_of_ble_eq_true (by kernel_rfl)) ?_
  conv => whnf
  repeat' (first | (refine CondG.mk (fun h => ?_) (fun h => absurd h (by decide +kernel)); clear h; conv => whnf) | (refine CondG.mk (fun h => absurd h (by decide +kernel)) (fun h => ?_); clear h; conv => whnf) | (refine Split.mk (fun h => ?_) (fun h => absurd h (by decide +kernel)); clear h; conv => whnf) | (refine Split.mk (fun h => absurd h (by decide +kernel)) (fun h => ?_); clear h; conv => whnf) | (refine CallX.mk _ _ (by first | exact bKey_pc _ | exact bOut_pc _ _ _) ?_; conv => whnf) | (refine CallG.mk _ _ (by first | exact bKey_pc _ | exact bOut_pc _ _ _) ?_; conv => whnf) | (refine Ask.mk (by first | decide | (unfold roomOK; decide)) ?_; conv => whnf) | (refine AppG.mk (by first | decide | (unfold roomOK; decide)) ?_; conv => whnf) | (refine SliceG.fr ?_; conv => whnf) | (refine IdxG.mk _ ⟨by decide, by rfl⟩ ?_; conv => whnf) | (refine RowG.mk _ (by rfl) ?_; conv => whnf) | (refine look_no (by decide +kernel) ?_; conv => whnf) | (refine look_ix 0 (by rfl) (by decide +kernel) ?_; conv => whnf) | (refine look_ix 1 (by rfl) (by decide +kernel) ?_; conv => whnf) | (refine look_ix 2 (by rfl) (by decide +kernel) ?_; conv => whnf) | (refine upd_no (by decide +kernel) ?_; conv => whnf) | (refine LoopG.un 12 ?_; conv => whnf) | fail)
  all_goals first | exact .mk ⟨rfl, rfl⟩ | trace_state
set_option maxRecDepth 100000 in
set_option maxHeartbeats 4000000 in
theorem cabsF_c : PCp 183 [.c tCables, .c (.mp 0)] [kindsO] (.c (.int .i64 0)) [kindsO] := by
  refine fn_sound (mt := mts) tab_fits tab_mixed Tryz.func183 (by rfl) (by kernel_rfl) (by kernel_rfl) Tryz.results183 (Nat.le_of_ble_eq_true (by kernel_rfl)) ?_
  conv => whnf
  repeat' (first | (refine CondG.mk (fun h => ?_) (fun h => absurd h (by decide +kernel)); clear h; conv => whnf) | (refine CondG.mk (fun h => absurd h (by decide +kernel)) (fun h => ?_); clear h; conv => whnf) | (refine Split.mk (fun h => ?_) (fun h => absurd h (by decide +kernel)); clear h; conv => whnf) | (refine Split.mk (fun h => absurd h (by decide +kernel)) (fun h => ?_); clear h; conv => whnf) | (refine CallX.mk _ _ (by first | exact cabF_c) ?_; conv => whnf) | (refine CallG.mk _ _ (by first | exact cabF_c) ?_; conv => whnf) | (refine Ask.mk (by first | decide | (unfold roomOK; decide)) ?_; conv => whnf) | (refine AppG.mk (by first | decide | (unfold roomOK; decide)) ?_; conv => whnf) | (refine SliceG.fr ?_; conv => whnf) | (refine IdxG.mk _ ⟨by decide, by rfl⟩ ?_; conv => whnf) | (refine RowG.mk _ (by rfl) ?_; conv => whnf) | (refine look_no (by decide +kernel) ?_; conv => whnf) | (refine look_ix 0 (by rfl) (by decide +kernel) ?_; conv => whnf) | (refine look_ix 1 (by rfl) (by decide +kernel) ?_; conv => whnf) | (refine look_ix 2 (by rfl) (by decide +kernel) ?_; conv => whnf) | (refine upd_no (by decide +kernel) ?_; conv => whnf) | (refine LoopG.un 12 ?_; conv => whnf) | fail)
  all_goals first | exact .mk ⟨rfl, rfl⟩ | trace_state
set_option maxRecDepth 100000 in
set_option maxHeartbeats 4000000 in
theorem splsF_c : PCp 184 [.agg tinyL, .c (.mp 0)] [kindsO] (.c (.int .i64 0)) [kindsO] := by
  refine fn_sound (mt := mts) tab_fits tab_mixed Tryz.func184 (by rfl) (by kernel_rfl) (by kernel_rfl) Tryz.results184 (Nat.le_of_ble_eq_true (by kernel_rfl)) ?_
  conv => whnf
  repeat' (first | (refine CondG.mk (fun h => ?_) (fun h => absurd h (by decide +kernel)); clear h; conv => whnf) | (refine CondG.mk (fun h => absurd h (by decide +kernel)) (fun h => ?_); clear h; conv => whnf) | (refine Split.mk (fun h => ?_) (fun h => absurd h (by decide +kernel)); clear h; conv => whnf) | (refine Split.mk (fun h => absurd h (by decide +kernel)) (fun h => ?_); clear h; conv => whnf) | (refine Ask.mk (by first | decide | (unfold roomOK; decide)) ?_; conv => whnf) | (refine AppG.mk (by first | decide | (unfold roomOK; decide)) ?_; conv => whnf) | (refine SliceG.fr ?_; conv => whnf) | (refine IdxG.mk _ ⟨by decide, by rfl⟩ ?_; conv => whnf) | (refine RowG.mk _ (by rfl) ?_; conv => whnf) | (refine look_no (by decide +kernel) ?_; conv => whnf) | (refine look_ix 0 (by rfl) (by decide +kernel) ?_; conv => whnf) | (refine look_ix 1 (by rfl) (by decide +kernel) ?_; conv => whnf) | (refine look_ix 2 (by rfl) (by decide +kernel) ?_; conv => whnf) | (refine upd_no (by decide +kernel) ?_; conv => whnf) | (refine LoopG.un 12 ?_; conv => whnf) | fail)
  all_goals first | exact .mk ⟨rfl, rfl⟩ | trace_state
set_option maxRecDepth 100000 in
set_option maxHeartbeats 4000000 in
theorem checkPlant_c : PCp 143 [.agg tinyL] [] (.c (.int .i64 0)) [] := by
  refine fn_sound (mt := mts) tab_fits tab_mixed Tryz.func143 (by rfl) (by kernel_rfl) (by kernel_rfl) Tryz.results143 (Nat.le_of_ble_eq_true (by kernel_rfl)) ?_
  conv => whnf
  repeat' (first | (refine CondG.mk (fun h => ?_) (fun h => absurd h (by decide +kernel)); clear h; conv => whnf) | (refine CondG.mk (fun h => absurd h (by decide +kernel)) (fun h => ?_); clear h; conv => whnf) | (refine Split.mk (fun h => ?_) (fun h => absurd h (by decide +kernel)); clear h; conv => whnf) | (refine Split.mk (fun h => absurd h (by decide +kernel)) (fun h => ?_); clear h; conv => whnf) | (refine CallX.mk _ _ (by first | exact sitesF_c | exact cabsF_c | exact splsF_c) ?_; conv => whnf) | (refine CallG.mk _ _ (by first | exact sitesF_c | exact cabsF_c | exact splsF_c) ?_; conv => whnf) | (refine Ask.mk (by first | decide | (unfold roomOK; decide)) ?_; conv => whnf) | (refine AppG.mk (by first | decide | (unfold roomOK; decide)) ?_; conv => whnf) | (refine SliceG.fr ?_; conv => whnf) | (refine IdxG.mk _ ⟨by decide, by rfl⟩ ?_; conv => whnf) | (refine RowG.mk _ (by rfl) ?_; conv => whnf) | (refine look_no (by decide +kernel) ?_; conv => whnf) | (refine look_ix 0 (by rfl) (by decide +kernel) ?_; conv => whnf) | (refine look_ix 1 (by rfl) (by decide +kernel) ?_; conv => whnf) | (refine look_ix 2 (by rfl) (by decide +kernel) ?_; conv => whnf) | (refine upd_no (by decide +kernel) ?_; conv => whnf) | (refine LoopG.un 12 ?_; conv => whnf) | fail)
  all_goals first | exact .mk ⟨rfl, rfl⟩ | trace_state
theorem sbool {a b : Bool} (h : a = b) : oneOf [S.c (.bool a)] = S.c (.bool b) := by rw [h]; rfl
set_option maxRecDepth 100000 in
set_option maxHeartbeats 4000000 in
theorem siteC1_c : PCp 145 [.agg [cA, .int .i64 1], .c (.ptr 0 0)] [.box [cB]] (.c (.bool false)) [.box [cB]] := by
  refine fn_sound (mt := mts) tab_fits tab_mixed Tryz.func145 (by rfl) (by kernel_rfl) (by kernel_rfl) Tryz.results145 (Nat.le_of_ble_eq_true (by kernel_rfl)) ?_
  conv => whnf
  repeat' (first | (refine CondG.mk (fun h => ?_) (fun h => absurd h (by decide +kernel)); clear h; conv => whnf) | (refine CondG.mk (fun h => absurd h (by decide +kernel)) (fun h => ?_); clear h; conv => whnf) | (refine Split.mk (fun h => ?_) (fun h => absurd h (by decide +kernel)); clear h; conv => whnf) | (refine Split.mk (fun h => absurd h (by decide +kernel)) (fun h => ?_); clear h; conv => whnf) | (refine Ask.mk (by first | decide | (unfold roomOK; decide)) ?_; conv => whnf) | (refine AppG.mk (by first | decide | (unfold roomOK; decide)) ?_; conv => whnf) | (refine SliceG.fr ?_; conv => whnf) | (refine IdxG.mk _ ⟨by decide, by rfl⟩ ?_; conv => whnf) | (refine RowG.mk _ (by rfl) ?_; conv => whnf) | (refine look_no (by decide +kernel) ?_; conv => whnf) | (refine look_ix 0 (by rfl) (by decide +kernel) ?_; conv => whnf) | (refine look_ix 1 (by rfl) (by decide +kernel) ?_; conv => whnf) | (refine look_ix 2 (by rfl) (by decide +kernel) ?_; conv => whnf) | (refine upd_no (by decide +kernel) ?_; conv => whnf) | (refine LoopG.un 12 ?_; conv => whnf) | fail)
  exact .mk ⟨sbool (by decide +kernel), rfl⟩
set_option maxRecDepth 100000 in
set_option maxHeartbeats 4000000 in
theorem siteC2_c : PCp 145 [.agg [cB, .int .i64 4], .c (.ptr 0 0)] [.box [cB]] (.c (.bool true)) [.box [cB]] := by
  refine fn_sound (mt := mts) tab_fits tab_mixed Tryz.func145 (by rfl) (by kernel_rfl) (by kernel_rfl) Tryz.results145 (Nat.le_of_ble_eq_true (by kernel_rfl)) ?_
  conv => whnf
  repeat' (first | (refine CondG.mk (fun h => ?_) (fun h => absurd h (by decide +kernel)); clear h; conv => whnf) | (refine CondG.mk (fun h => absurd h (by decide +kernel)) (fun h => ?_); clear h; conv => whnf) | (refine Split.mk (fun h => ?_) (fun h => absurd h (by decide +kernel)); clear h; conv => whnf) | (refine Split.mk (fun h => absurd h (by decide +kernel)) (fun h => ?_); clear h; conv => whnf) | (refine Ask.mk (by first | decide | (unfold roomOK; decide)) ?_; conv => whnf) | (refine AppG.mk (by first | decide | (unfold roomOK; decide)) ?_; conv => whnf) | (refine SliceG.fr ?_; conv => whnf) | (refine IdxG.mk _ ⟨by decide, by rfl⟩ ?_; conv => whnf) | (refine RowG.mk _ (by rfl) ?_; conv => whnf) | (refine look_no (by decide +kernel) ?_; conv => whnf) | (refine look_ix 0 (by rfl) (by decide +kernel) ?_; conv => whnf) | (refine look_ix 1 (by rfl) (by decide +kernel) ?_; conv => whnf) | (refine look_ix 2 (by rfl) (by decide +kernel) ?_; conv => whnf) | (refine upd_no (by decide +kernel) ?_; conv => whnf) | (refine LoopG.un 12 ?_; conv => whnf) | fail)
  exact .mk ⟨sbool (by decide +kernel), rfl⟩
set_option maxRecDepth 100000 in
set_option maxHeartbeats 4000000 in
theorem siteIx_c : PCp 185 [.c tSites, .c (.fn 145 [.ptr 0 0])] [.box [cB]] (.c (.int .i64 1)) [.box [cB]] := by
  refine fn_sound (mt := mts) tab_fits tab_mixed Tryz.func185 (by rfl) (by kernel_rfl) (by kernel_rfl) Tryz.results185 (Nat.le_of_ble_eq_true (by kernel_rfl)) ?_
  conv => whnf
  repeat' (first | (refine CondG.mk (fun h => ?_) (fun h => absurd h (by decide +kernel)); clear h; conv => whnf) | (refine CondG.mk (fun h => absurd h (by decide +kernel)) (fun h => ?_); clear h; conv => whnf) | (refine Split.mk (fun h => ?_) (fun h => absurd h (by decide +kernel)); clear h; conv => whnf) | (refine Split.mk (fun h => absurd h (by decide +kernel)) (fun h => ?_); clear h; conv => whnf) | (refine CallX.mk _ _ (by first | exact siteC1_c | exact siteC2_c) ?_; conv => whnf) | (refine CallG.mk _ _ (by first | exact siteC1_c | exact siteC2_c) ?_; conv => whnf) | (refine Ask.mk (by first | decide | (unfold roomOK; decide)) ?_; conv => whnf) | (refine AppG.mk (by first | decide | (unfold roomOK; decide)) ?_; conv => whnf) | (refine SliceG.fr ?_; conv => whnf) | (refine IdxG.mk _ ⟨by decide, by rfl⟩ ?_; conv => whnf) | (refine RowG.mk _ (by rfl) ?_; conv => whnf) | (refine look_no (by decide +kernel) ?_; conv => whnf) | (refine look_ix 0 (by rfl) (by decide +kernel) ?_; conv => whnf) | (refine look_ix 1 (by rfl) (by decide +kernel) ?_; conv => whnf) | (refine look_ix 2 (by rfl) (by decide +kernel) ?_; conv => whnf) | (refine upd_no (by decide +kernel) ?_; conv => whnf) | (refine LoopG.un 12 ?_; conv => whnf) | fail)
  all_goals first | exact .mk ⟨rfl, rfl⟩ | trace_state
set_option maxRecDepth 100000 in
set_option maxHeartbeats 4000000 in
theorem siteCt_c : PCp 144 [.c tSites, .c (.fn 145 [.ptr 0 0])] [.box [cB]] (.c (.bool true)) [.box [cB]] := by
  refine fn_sound (mt := mts) tab_fits tab_mixed Tryz.func144 (by rfl) (by kernel_rfl) (by kernel_rfl) Tryz.results144 (Nat.le_of_ble_eq_true (by kernel_rfl)) ?_
  conv => whnf
  repeat' (first | (refine CondG.mk (fun h => ?_) (fun h => absurd h (by decide +kernel)); clear h; conv => whnf) | (refine CondG.mk (fun h => absurd h (by decide +kernel)) (fun h => ?_); clear h; conv => whnf) | (refine Split.mk (fun h => ?_) (fun h => absurd h (by decide +kernel)); clear h; conv => whnf) | (refine Split.mk (fun h => absurd h (by decide +kernel)) (fun h => ?_); clear h; conv => whnf) | (refine CallX.mk _ _ (by first | exact siteIx_c) ?_; conv => whnf) | (refine CallG.mk _ _ (by first | exact siteIx_c) ?_; conv => whnf) | (refine Ask.mk (by first | decide | (unfold roomOK; decide)) ?_; conv => whnf) | (refine AppG.mk (by first | decide | (unfold roomOK; decide)) ?_; conv => whnf) | (refine SliceG.fr ?_; conv => whnf) | (refine IdxG.mk _ ⟨by decide, by rfl⟩ ?_; conv => whnf) | (refine RowG.mk _ (by rfl) ?_; conv => whnf) | (refine look_no (by decide +kernel) ?_; conv => whnf) | (refine look_ix 0 (by rfl) (by decide +kernel) ?_; conv => whnf) | (refine look_ix 1 (by rfl) (by decide +kernel) ?_; conv => whnf) | (refine look_ix 2 (by rfl) (by decide +kernel) ?_; conv => whnf) | (refine upd_no (by decide +kernel) ?_; conv => whnf) | (refine LoopG.un 12 ?_; conv => whnf) | fail)
  all_goals first | exact .mk ⟨rfl, rfl⟩ | trace_state
set_option maxRecDepth 100000 in
set_option maxHeartbeats 4000000 in
theorem siteFault_c : PCp 96 [.agg tinyL, .c cB] [] (.c (.int .i64 0)) [] := by
  refine fn_sound (mt := mts) tab_fits tab_mixed Tryz.func96 (by rfl) (by kernel_rfl) (by kernel_rfl) Tryz.results96 (Nat.le_of_ble_eq_true (by kernel_rfl)) ?_
  conv => whnf
  repeat' (first | (refine CondG.mk (fun h => ?_) (fun h => absurd h (by decide +kernel)); clear h; conv => whnf) | (refine CondG.mk (fun h => absurd h (by decide +kernel)) (fun h => ?_); clear h; conv => whnf) | (refine Split.mk (fun h => ?_) (fun h => absurd h (by decide +kernel)); clear h; conv => whnf) | (refine Split.mk (fun h => absurd h (by decide +kernel)) (fun h => ?_); clear h; conv => whnf) | (refine CallX.mk _ _ (by first | exact checkPlant_c | exact siteCt_c) ?_; conv => whnf) | (refine CallG.mk _ _ (by first | exact checkPlant_c | exact siteCt_c) ?_; conv => whnf) | (refine Ask.mk (by first | decide | (unfold roomOK; decide)) ?_; conv => whnf) | (refine AppG.mk (by first | decide | (unfold roomOK; decide)) ?_; conv => whnf) | (refine SliceG.fr ?_; conv => whnf) | (refine IdxG.mk _ ⟨by decide, by rfl⟩ ?_; conv => whnf) | (refine RowG.mk _ (by rfl) ?_; conv => whnf) | (refine look_no (by decide +kernel) ?_; conv => whnf) | (refine look_ix 0 (by rfl) (by decide +kernel) ?_; conv => whnf) | (refine look_ix 1 (by rfl) (by decide +kernel) ?_; conv => whnf) | (refine look_ix 2 (by rfl) (by decide +kernel) ?_; conv => whnf) | (refine upd_no (by decide +kernel) ?_; conv => whnf) | (refine LoopG.un 12 ?_; conv => whnf) | fail)
  all_goals first | exact .mk ⟨rfl, rfl⟩ | trace_state
set_option maxRecDepth 100000 in
set_option maxHeartbeats 4000000 in
theorem webNew_c : PCp 97 [.agg tinyL] [] (.c (.ptr 0 0)) webO := by
  refine fn_sound (mt := mts) tab_fits tab_mixed Tryz.func97 (by rfl) (by kernel_rfl) (by kernel_rfl) Tryz.results97 (Nat.le_of_ble_eq_true (by kernel_rfl)) ?_
  conv => whnf
  repeat' (first | (refine CondG.mk (fun h => ?_) (fun h => absurd h (by decide +kernel)); clear h; conv => whnf) | (refine CondG.mk (fun h => absurd h (by decide +kernel)) (fun h => ?_); clear h; conv => whnf) | (refine Split.mk (fun h => ?_) (fun h => absurd h (by decide +kernel)); clear h; conv => whnf) | (refine Split.mk (fun h => absurd h (by decide +kernel)) (fun h => ?_); clear h; conv => whnf) | (refine Ask.mk (by first | decide | (unfold roomOK; decide)) ?_; conv => whnf) | (refine AppG.mk (by first | decide | (unfold roomOK; decide)) ?_; conv => whnf) | (refine SliceG.fr ?_; conv => whnf) | (refine IdxG.mk _ ⟨by decide, by rfl⟩ ?_; conv => whnf) | (refine RowG.mk _ (by rfl) ?_; conv => whnf) | (refine look_no (by decide +kernel) ?_; conv => whnf) | (refine look_ix 0 (by rfl) (by decide +kernel) ?_; conv => whnf) | (refine look_ix 1 (by rfl) (by decide +kernel) ?_; conv => whnf) | (refine look_ix 2 (by rfl) (by decide +kernel) ?_; conv => whnf) | (refine upd_no (by decide +kernel) ?_; conv => whnf) | (refine LoopG.un 12 ?_; conv => whnf) | fail)
  all_goals first | exact .mk ⟨rfl, rfl⟩ | trace_state
set_option maxRecDepth 100000 in
set_option maxHeartbeats 4000000 in
theorem webHas_c : PCp 98 [.c (.ptr 0 0), .agg [cC, n1]] webO (.c (.bool true)) webO := by
  refine fn_sound (mt := mts) tab_fits tab_mixed Tryz.func98 (by rfl) (by kernel_rfl) (by kernel_rfl) Tryz.results98 (Nat.le_of_ble_eq_true (by kernel_rfl)) ?_
  conv => whnf
  repeat' (first | (refine CondG.mk (fun h => ?_) (fun h => absurd h (by decide +kernel)); clear h; conv => whnf) | (refine CondG.mk (fun h => absurd h (by decide +kernel)) (fun h => ?_); clear h; conv => whnf) | (refine Split.mk (fun h => ?_) (fun h => absurd h (by decide +kernel)); clear h; conv => whnf) | (refine Split.mk (fun h => absurd h (by decide +kernel)) (fun h => ?_); clear h; conv => whnf) | (refine CallX.mk _ _ (by first | exact bOut_pc _ _ _) ?_; conv => whnf) | (refine CallG.mk _ _ (by first | exact bOut_pc _ _ _) ?_; conv => whnf) | (refine Ask.mk (by first | decide | (unfold roomOK; decide)) ?_; conv => whnf) | (refine AppG.mk (by first | decide | (unfold roomOK; decide)) ?_; conv => whnf) | (refine SliceG.fr ?_; conv => whnf) | (refine IdxG.mk _ ⟨by decide, by rfl⟩ ?_; conv => whnf) | (refine RowG.mk _ (by rfl) ?_; conv => whnf) | (refine look_no (by decide +kernel) ?_; conv => whnf) | (refine look_ix 0 (by rfl) (by decide +kernel) ?_; conv => whnf) | (refine look_ix 1 (by rfl) (by decide +kernel) ?_; conv => whnf) | (refine look_ix 2 (by rfl) (by decide +kernel) ?_; conv => whnf) | (refine upd_no (by decide +kernel) ?_; conv => whnf) | (refine LoopG.un 12 ?_; conv => whnf) | fail)
  all_goals first | exact .mk ⟨rfl, rfl⟩ | exact .mk ⟨sbool (by decide +kernel), rfl⟩ | trace_state
set_option maxRecDepth 100000 in
set_option maxHeartbeats 4000000 in
theorem webTouches_c : PCp 99 [.c (.ptr 0 0), .agg [cC, n1], .c cB] webO (.c (.bool true)) webO := by
  refine fn_sound (mt := mts) tab_fits tab_mixed Tryz.func99 (by rfl) (by kernel_rfl) (by kernel_rfl) Tryz.results99 (Nat.le_of_ble_eq_true (by kernel_rfl)) ?_
  conv => whnf
  repeat' (first | (refine CondG.mk (fun h => ?_) (fun h => absurd h (by decide +kernel)); clear h; conv => whnf) | (refine CondG.mk (fun h => absurd h (by decide +kernel)) (fun h => ?_); clear h; conv => whnf) | (refine Split.mk (fun h => ?_) (fun h => absurd h (by decide +kernel)); clear h; conv => whnf) | (refine Split.mk (fun h => absurd h (by decide +kernel)) (fun h => ?_); clear h; conv => whnf) | (refine Ask.mk (by first | decide | (unfold roomOK; decide)) ?_; conv => whnf) | (refine AppG.mk (by first | decide | (unfold roomOK; decide)) ?_; conv => whnf) | (refine SliceG.fr ?_; conv => whnf) | (refine IdxG.mk _ ⟨by decide, by rfl⟩ ?_; conv => whnf) | (refine RowG.mk _ (by rfl) ?_; conv => whnf) | (refine look_no (by decide +kernel) ?_; conv => whnf) | (refine look_ix 0 (by rfl) (by decide +kernel) ?_; conv => whnf) | (refine look_ix 1 (by rfl) (by decide +kernel) ?_; conv => whnf) | (refine look_ix 2 (by rfl) (by decide +kernel) ?_; conv => whnf) | (refine upd_no (by decide +kernel) ?_; conv => whnf) | (refine LoopG.un 12 ?_; conv => whnf) | fail)
  all_goals first | exact .mk ⟨rfl, rfl⟩ | exact .mk ⟨sbool (by decide +kernel), rfl⟩ | trace_state
set_option maxRecDepth 100000 in
set_option maxHeartbeats 4000000 in
theorem endOf_c : PCp 52 [.agg tinyL, .agg [cC, n1], .c cB] [] (.tup [.c (.ptr 0 0), .c (.int .i64 0)]) webO := by
  refine fn_sound (mt := mts) tab_fits tab_mixed Tryz.func52 (by rfl) (by kernel_rfl) (by kernel_rfl) Tryz.results52 (Nat.le_of_ble_eq_true (by kernel_rfl)) ?_
  conv => whnf
  repeat' (first | (refine CondG.mk (fun h => ?_) (fun h => absurd h (by decide +kernel)); clear h; conv => whnf) | (refine CondG.mk (fun h => absurd h (by decide +kernel)) (fun h => ?_); clear h; conv => whnf) | (refine Split.mk (fun h => ?_) (fun h => absurd h (by decide +kernel)); clear h; conv => whnf) | (refine Split.mk (fun h => absurd h (by decide +kernel)) (fun h => ?_); clear h; conv => whnf) | (refine CallX.mk _ _ (by first | exact siteFault_c | exact webNew_c | exact webHas_c | exact webTouches_c) ?_; conv => whnf) | (refine CallG.mk _ _ (by first | exact siteFault_c | exact webNew_c | exact webHas_c | exact webTouches_c) ?_; conv => whnf) | (refine Ask.mk (by first | decide | (unfold roomOK; decide)) ?_; conv => whnf) | (refine AppG.mk (by first | decide | (unfold roomOK; decide)) ?_; conv => whnf) | (refine SliceG.fr ?_; conv => whnf) | (refine IdxG.mk _ ⟨by decide, by rfl⟩ ?_; conv => whnf) | (refine RowG.mk _ (by rfl) ?_; conv => whnf) | (refine look_no (by decide +kernel) ?_; conv => whnf) | (refine look_ix 0 (by rfl) (by decide +kernel) ?_; conv => whnf) | (refine look_ix 1 (by rfl) (by decide +kernel) ?_; conv => whnf) | (refine look_ix 2 (by rfl) (by decide +kernel) ?_; conv => whnf) | (refine upd_no (by decide +kernel) ?_; conv => whnf) | (refine LoopG.un 12 ?_; conv => whnf) | fail)
  all_goals first | exact .mk ⟨rfl, rfl⟩ | trace_state
abbrev spl0 : List V := [.str ⟨#[]⟩, .str ⟨#[]⟩, .int .i64 0, .str ⟨#[]⟩, .int .i64 0, .int .i64 0]
set_option maxRecDepth 100000 in
set_option maxHeartbeats 4000000 in
theorem webAt_c (s : V) (hs : s = cA ∨ s = cB) : PCp 53 [.c (.ptr 0 0), .agg [s, cC, n1]] webO (.tup [.agg spl0, .c (.bool false)]) webO := by
  rcases hs with rfl | rfl
  · refine fn_sound (mt := mts) tab_fits tab_mixed Tryz.func53 (by rfl) (by kernel_rfl) (by kernel_rfl) Tryz.results53 (Nat.le_of_ble_eq_true (by kernel_rfl)) ?_
    conv => whnf
    repeat' (first | (refine CondG.mk (fun h => ?_) (fun h => absurd h (by decide +kernel)); clear h; conv => whnf) | (refine CondG.mk (fun h => absurd h (by decide +kernel)) (fun h => ?_); clear h; conv => whnf) | (refine Split.mk (fun h => ?_) (fun h => absurd h (by decide +kernel)); clear h; conv => whnf) | (refine Split.mk (fun h => absurd h (by decide +kernel)) (fun h => ?_); clear h; conv => whnf) | (refine Ask.mk (by first | decide | (unfold roomOK; decide)) ?_; conv => whnf) | (refine AppG.mk (by first | decide | (unfold roomOK; decide)) ?_; conv => whnf) | (refine SliceG.fr ?_; conv => whnf) | (refine IdxG.mk _ ⟨by decide, by rfl⟩ ?_; conv => whnf) | (refine RowG.mk _ (by rfl) ?_; conv => whnf) | (refine look_no (by decide +kernel) ?_; conv => whnf) | (refine look_ix 0 (by rfl) (by decide +kernel) ?_; conv => whnf) | (refine look_ix 1 (by rfl) (by decide +kernel) ?_; conv => whnf) | (refine look_ix 2 (by rfl) (by decide +kernel) ?_; conv => whnf) | (refine upd_no (by decide +kernel) ?_; conv => whnf) | (refine LoopG.un 12 ?_; conv => whnf) | fail)
    all_goals first | exact .mk ⟨rfl, rfl⟩ | trace_state
  · refine fn_sound (mt := mts) tab_fits tab_mixed Tryz.func53 (by rfl) (by kernel_rfl) (by kernel_rfl) Tryz.results53 (Nat.le_of_ble_eq_true (by kernel_rfl)) ?_
    conv => whnf
    repeat' (first | (refine CondG.mk (fun h => ?_) (fun h => absurd h (by decide +kernel)); clear h; conv => whnf) | (refine CondG.mk (fun h => absurd h (by decide +kernel)) (fun h => ?_); clear h; conv => whnf) | (refine Split.mk (fun h => ?_) (fun h => absurd h (by decide +kernel)); clear h; conv => whnf) | (refine Split.mk (fun h => absurd h (by decide +kernel)) (fun h => ?_); clear h; conv => whnf) | (refine Ask.mk (by first | decide | (unfold roomOK; decide)) ?_; conv => whnf) | (refine AppG.mk (by first | decide | (unfold roomOK; decide)) ?_; conv => whnf) | (refine SliceG.fr ?_; conv => whnf) | (refine IdxG.mk _ ⟨by decide, by rfl⟩ ?_; conv => whnf) | (refine RowG.mk _ (by rfl) ?_; conv => whnf) | (refine look_no (by decide +kernel) ?_; conv => whnf) | (refine look_ix 0 (by rfl) (by decide +kernel) ?_; conv => whnf) | (refine look_ix 1 (by rfl) (by decide +kernel) ?_; conv => whnf) | (refine look_ix 2 (by rfl) (by decide +kernel) ?_; conv => whnf) | (refine upd_no (by decide +kernel) ?_; conv => whnf) | (refine LoopG.un 12 ?_; conv => whnf) | fail)
    all_goals first | exact .mk ⟨rfl, rfl⟩ | trace_state
set_option maxRecDepth 100000 in
set_option maxHeartbeats 4000000 in
theorem webHop_c : PCp 100 [.c (.ptr 0 0), .agg [cB, cC, n1]] webO (.agg [cC, n1, cB, cA]) webO := by
  refine fn_sound (mt := mts) tab_fits tab_mixed Tryz.func100 (by rfl) (by kernel_rfl) (by kernel_rfl) Tryz.results100 (Nat.le_of_ble_eq_true (by kernel_rfl)) ?_
  conv => whnf
  repeat' (first | (refine CondG.mk (fun h => ?_) (fun h => absurd h (by decide +kernel)); clear h; conv => whnf) | (refine CondG.mk (fun h => absurd h (by decide +kernel)) (fun h => ?_); clear h; conv => whnf) | (refine Split.mk (fun h => ?_) (fun h => absurd h (by decide +kernel)); clear h; conv => whnf) | (refine Split.mk (fun h => absurd h (by decide +kernel)) (fun h => ?_); clear h; conv => whnf) | (refine Ask.mk (by first | decide | (unfold roomOK; decide)) ?_; conv => whnf) | (refine AppG.mk (by first | decide | (unfold roomOK; decide)) ?_; conv => whnf) | (refine SliceG.fr ?_; conv => whnf) | (refine IdxG.mk _ ⟨by decide, by rfl⟩ ?_; conv => whnf) | (refine RowG.mk _ (by rfl) ?_; conv => whnf) | (refine look_no (by decide +kernel) ?_; conv => whnf) | (refine look_ix 0 (by rfl) (by decide +kernel) ?_; conv => whnf) | (refine look_ix 1 (by rfl) (by decide +kernel) ?_; conv => whnf) | (refine look_ix 2 (by rfl) (by decide +kernel) ?_; conv => whnf) | (refine upd_no (by decide +kernel) ?_; conv => whnf) | (refine LoopG.un 12 ?_; conv => whnf) | fail)
  all_goals first | exact .mk ⟨rfl, rfl⟩ | trace_state
set_option maxRecDepth 100000 in
set_option maxHeartbeats 4000000 in
theorem webNext_c : PCp 101 [.c (.ptr 0 0), .agg [cC, n1, cB, cA]] webO (.tup [.agg [.str ⟨#[]⟩, .str ⟨#[]⟩, .int .i64 0], .c (.bool false)]) webO := by
  refine fn_sound (mt := mts) tab_fits tab_mixed Tryz.func101 (by rfl) (by kernel_rfl) (by kernel_rfl) Tryz.results101 (Nat.le_of_ble_eq_true (by kernel_rfl)) ?_
  conv => whnf
  repeat' (first | (refine CondG.mk (fun h => ?_) (fun h => absurd h (by decide +kernel)); clear h; conv => whnf) | (refine CondG.mk (fun h => absurd h (by decide +kernel)) (fun h => ?_); clear h; conv => whnf) | (refine Split.mk (fun h => ?_) (fun h => absurd h (by decide +kernel)); clear h; conv => whnf) | (refine Split.mk (fun h => absurd h (by decide +kernel)) (fun h => ?_); clear h; conv => whnf) | (refine CallX.mk _ _ (by first | exact webAt_c cA (.inl rfl)) ?_; conv => whnf) | (refine CallG.mk _ _ (by first | exact webAt_c cA (.inl rfl)) ?_; conv => whnf) | (refine Ask.mk (by first | decide | (unfold roomOK; decide)) ?_; conv => whnf) | (refine AppG.mk (by first | decide | (unfold roomOK; decide)) ?_; conv => whnf) | (refine SliceG.fr ?_; conv => whnf) | (refine IdxG.mk _ ⟨by decide, by rfl⟩ ?_; conv => whnf) | (refine RowG.mk _ (by rfl) ?_; conv => whnf) | (refine look_no (by decide +kernel) ?_; conv => whnf) | (refine look_ix 0 (by rfl) (by decide +kernel) ?_; conv => whnf) | (refine look_ix 1 (by rfl) (by decide +kernel) ?_; conv => whnf) | (refine look_ix 2 (by rfl) (by decide +kernel) ?_; conv => whnf) | (refine upd_no (by decide +kernel) ?_; conv => whnf) | (refine LoopG.un 12 ?_; conv => whnf) | fail)
  all_goals first | exact .mk ⟨rfl, rfl⟩ | trace_state
set_option maxRecDepth 100000 in
set_option maxHeartbeats 4000000 in
theorem webPath_c : PCp 54 [.c (.ptr 0 0), .agg [cB, cC, n1]] webO (.tup [.c (.row 4), .c (.bool false)]) (webO ++ [.row 183 4 [[cC, n1, cB, cA]]]) := by
  refine fn_sound (mt := mts) tab_fits tab_mixed Tryz.func54 (by rfl) (by kernel_rfl) (by kernel_rfl) Tryz.results54 (Nat.le_of_ble_eq_true (by kernel_rfl)) ?_
  conv => whnf
  repeat' (first | (refine CondG.mk (fun h => ?_) (fun h => absurd h (by decide +kernel)); clear h; conv => whnf) | (refine CondG.mk (fun h => absurd h (by decide +kernel)) (fun h => ?_); clear h; conv => whnf) | (refine Split.mk (fun h => ?_) (fun h => absurd h (by decide +kernel)); clear h; conv => whnf) | (refine Split.mk (fun h => absurd h (by decide +kernel)) (fun h => ?_); clear h; conv => whnf) | (refine CallX.mk _ _ (by first | exact webHop_c | exact webNext_c) ?_; conv => whnf) | (refine CallG.mk _ _ (by first | exact webHop_c | exact webNext_c) ?_; conv => whnf) | (refine Ask.mk (by first | decide | (unfold roomOK; decide)) ?_; conv => whnf) | (refine AppG.mk (by first | decide | (unfold roomOK; decide)) ?_; conv => whnf) | (refine SliceG.fr ?_; conv => whnf) | (refine IdxG.mk _ ⟨by decide, by rfl⟩ ?_; conv => whnf) | (refine RowG.mk _ (by rfl) ?_; conv => whnf) | (refine look_no (by decide +kernel) ?_; conv => whnf) | (refine look_ix 0 (by rfl) (by decide +kernel) ?_; conv => whnf) | (refine look_ix 1 (by rfl) (by decide +kernel) ?_; conv => whnf) | (refine look_ix 2 (by rfl) (by decide +kernel) ?_; conv => whnf) | (refine upd_no (by decide +kernel) ?_; conv => whnf) | (refine LoopG.un 12 ?_; conv => whnf) | fail)
  all_goals first | exact .mk ⟨rfl, rfl⟩ | trace_state
set_option maxRecDepth 100000 in
set_option maxHeartbeats 4000000 in
theorem path_c : PCp 27 [.agg tinyL, .agg [cC, n1], .c cB] [] (.tup [.c (.row 0), .c (.int .i64 0)]) [.row 183 4 [[cC, n1, cB, cA]]] := by
  refine fn_sound (mt := mts) tab_fits tab_mixed Tryz.func27 (by rfl) (by kernel_rfl) (by kernel_rfl) Tryz.results27 (Nat.le_of_ble_eq_true (by kernel_rfl)) ?_
  conv => whnf
  repeat' (first | (refine CondG.mk (fun h => ?_) (fun h => absurd h (by decide +kernel)); clear h; conv => whnf) | (refine CondG.mk (fun h => absurd h (by decide +kernel)) (fun h => ?_); clear h; conv => whnf) | (refine Split.mk (fun h => ?_) (fun h => absurd h (by decide +kernel)); clear h; conv => whnf) | (refine Split.mk (fun h => absurd h (by decide +kernel)) (fun h => ?_); clear h; conv => whnf) | (refine CallX.mk _ _ (by first | exact endOf_c | exact webAt_c cB (.inr rfl) | exact webPath_c) ?_; conv => whnf) | (refine CallG.mk _ _ (by first | exact endOf_c | exact webAt_c cB (.inr rfl) | exact webPath_c) ?_; conv => whnf) | (refine Ask.mk (by first | decide | (unfold roomOK; decide)) ?_; conv => whnf) | (refine AppG.mk (by first | decide | (unfold roomOK; decide)) ?_; conv => whnf) | (refine SliceG.fr ?_; conv => whnf) | (refine IdxG.mk _ ⟨by decide, by rfl⟩ ?_; conv => whnf) | (refine RowG.mk _ (by rfl) ?_; conv => whnf) | (refine look_no (by decide +kernel) ?_; conv => whnf) | (refine look_ix 0 (by rfl) (by decide +kernel) ?_; conv => whnf) | (refine look_ix 1 (by rfl) (by decide +kernel) ?_; conv => whnf) | (refine look_ix 2 (by rfl) (by decide +kernel) ?_; conv => whnf) | (refine upd_no (by decide +kernel) ?_; conv => whnf) | (refine LoopG.un 12 ?_; conv => whnf) | fail)
  all_goals first | exact .mk ⟨rfl, rfl⟩ | trace_state
end Go.Proofs.YtdljolmiclbolaaGreatDoor

/- A trace of one step, by constants. -/
namespace Go.Proofs.YtdljolmiclbolaaGreatDoor
set_option linter.unusedVariables false
set_option linter.unusedSimpArgs false
open Abs

abbrev trP : V := .lst 1 [[.int .i64 10], [.int .i64 10], [.int .i64 4], [.int .i64 4]]
abbrev trR : List V := [.int .i64 5, .int .i64 2, .int .i64 3, .int .i64 0, .int .i64 1]
set_option maxRecDepth 100000 in
set_option maxHeartbeats 4000000 in
theorem isReading_c (n : Int) (h : -10000 ≤ n ∧ n ≤ 10000) : PCp 146 [.c (.int .i64 n)] [] (.c (.bool true)) [] := by
  refine fn_sound (mt := mts) tab_fits tab_mixed Tryz.func146 (by rfl) (by kernel_rfl) (by kernel_rfl) Tryz.results146 (Nat.le_of_ble_eq_true (by kernel_rfl)) ?_
  conv => whnf
  repeat' (first | ((first | refine Split.mk (fun h => ?_) (fun h => ?_) | refine CondG.mk (fun h => ?_) (fun h => ?_)) <;> (try simp only [decide_eq_true_eq, decide_eq_false_iff_not, Bool.not_eq_true', Bool.not_eq_false', beq_iff_eq, beq_eq_false_iff_ne, bne_iff_ne, bne_eq_false_iff_eq] at h) <;> (first | (exfalso; first | omega | exact h trivial) | (conv => whnf))) | (refine CallX.mk _ _ (by first | exact bOut_pc _ _ _) ?_; conv => whnf) | (refine CallG.mk _ _ (by first | exact bOut_pc _ _ _) ?_; conv => whnf) | (refine Ask.mk (by first | omega | (unfold roomOK; simp [cutRows]; done) | (unfold roomOK; simp [cutRows]; omega) | (simp [cutRows]; done) | (simp [cutRows]; omega)) ?_; conv => whnf) | (refine AppG.mk (by first | omega | (unfold roomOK; simp [cutRows]; done) | (unfold roomOK; simp [cutRows]; omega) | (simp [cutRows]; done) | (simp [cutRows]; omega)) ?_; conv => whnf) | (refine SliceG.fr ?_; conv => whnf) | (refine idx_at _ (by with_reducible rfl) (by first | assumption | omega) ?_; conv => whnf) | ((with_reducible refine row_map (by first | assumption | omega) ?_); conv => whnf) | ((with_reducible refine row_set (by first | assumption | omega | (simp only [List.length_set]; omega) | (simp; omega)) ?_); conv => whnf) | fail)
  exact finb (by simp; omega)
set_option maxRecDepth 100000 in
set_option maxHeartbeats 4000000 in
theorem checkTrace_c : PCp 102 [.c trP] [] (.c (.int .i64 0)) [] := by
  refine fn_sound (mt := mts) tab_fits tab_mixed Tryz.func102 (by rfl) (by kernel_rfl) (by kernel_rfl) Tryz.results102 (Nat.le_of_ble_eq_true (by kernel_rfl)) ?_
  conv => whnf
  repeat' (first | (refine CondG.mk (fun h => ?_) (fun h => absurd h (by decide +kernel)); clear h; conv => whnf) | (refine CondG.mk (fun h => absurd h (by decide +kernel)) (fun h => ?_); clear h; conv => whnf) | (refine Split.mk (fun h => ?_) (fun h => absurd h (by decide +kernel)); clear h; conv => whnf) | (refine Split.mk (fun h => absurd h (by decide +kernel)) (fun h => ?_); clear h; conv => whnf) | (refine CallX.mk _ _ (by first | exact isReading_c _ (by decide)) ?_; conv => whnf) | (refine CallG.mk _ _ (by first | exact isReading_c _ (by decide)) ?_; conv => whnf) | (refine Ask.mk (by first | decide | (unfold roomOK; decide)) ?_; conv => whnf) | (refine AppG.mk (by first | decide | (unfold roomOK; decide)) ?_; conv => whnf) | (refine SliceG.fr ?_; conv => whnf) | (refine IdxG.mk _ ⟨by decide, by rfl⟩ ?_; conv => whnf) | (refine RowG.mk _ (by rfl) ?_; conv => whnf) | (refine look_no (by decide +kernel) ?_; conv => whnf) | (refine look_ix 0 (by rfl) (by decide +kernel) ?_; conv => whnf) | (refine look_ix 1 (by rfl) (by decide +kernel) ?_; conv => whnf) | (refine look_ix 2 (by rfl) (by decide +kernel) ?_; conv => whnf) | (refine upd_no (by decide +kernel) ?_; conv => whnf) | (refine LoopG.un 12 ?_; conv => whnf) | fail)
  all_goals first | exact .mk ⟨rfl, rfl⟩ | trace_state
theorem sboolT {a b : Bool} (h : a = b) : oneOf [S.c (.bool a)] = S.c (.bool b) := by rw [h]; rfl
set_option maxRecDepth 100000 in
set_option maxHeartbeats 4000000 in
theorem bLowest_c : PCp 147 [.agg [.int .i64 0, .int .i64 1]] [] (.c (.bool true)) [] := by
  refine fn_sound (mt := mts) tab_fits tab_mixed Tryz.func147 (by rfl) (by kernel_rfl) (by kernel_rfl) Tryz.results147 (Nat.le_of_ble_eq_true (by kernel_rfl)) ?_
  conv => whnf
  repeat' (first | (refine CondG.mk (fun h => ?_) (fun h => absurd h (by decide +kernel)); clear h; conv => whnf) | (refine CondG.mk (fun h => absurd h (by decide +kernel)) (fun h => ?_); clear h; conv => whnf) | (refine Split.mk (fun h => ?_) (fun h => absurd h (by decide +kernel)); clear h; conv => whnf) | (refine Split.mk (fun h => absurd h (by decide +kernel)) (fun h => ?_); clear h; conv => whnf) | (refine Ask.mk (by first | decide | (unfold roomOK; decide)) ?_; conv => whnf) | (refine AppG.mk (by first | decide | (unfold roomOK; decide)) ?_; conv => whnf) | (refine SliceG.fr ?_; conv => whnf) | (refine IdxG.mk _ ⟨by decide, by rfl⟩ ?_; conv => whnf) | (refine RowG.mk _ (by rfl) ?_; conv => whnf) | (refine look_no (by decide +kernel) ?_; conv => whnf) | (refine look_ix 0 (by rfl) (by decide +kernel) ?_; conv => whnf) | (refine look_ix 1 (by rfl) (by decide +kernel) ?_; conv => whnf) | (refine look_ix 2 (by rfl) (by decide +kernel) ?_; conv => whnf) | (refine upd_no (by decide +kernel) ?_; conv => whnf) | (refine LoopG.un 12 ?_; conv => whnf) | fail)
  all_goals first | exact .mk ⟨rfl, rfl⟩ | exact .mk ⟨sboolT (by decide +kernel), rfl⟩ | trace_state
set_option maxRecDepth 100000 in
set_option maxHeartbeats 4000000 in
theorem checkRules_c : PCp 103 [.agg trR] [] (.c (.int .i64 0)) [] := by
  refine fn_sound (mt := mts) tab_fits tab_mixed Tryz.func103 (by rfl) (by kernel_rfl) (by kernel_rfl) Tryz.results103 (Nat.le_of_ble_eq_true (by kernel_rfl)) ?_
  conv => whnf
  repeat' (first | (refine CondG.mk (fun h => ?_) (fun h => absurd h (by decide +kernel)); clear h; conv => whnf) | (refine CondG.mk (fun h => absurd h (by decide +kernel)) (fun h => ?_); clear h; conv => whnf) | (refine Split.mk (fun h => ?_) (fun h => absurd h (by decide +kernel)); clear h; conv => whnf) | (refine Split.mk (fun h => absurd h (by decide +kernel)) (fun h => ?_); clear h; conv => whnf) | (refine CallX.mk _ _ (by first | exact bOut_pc _ _ _ | exact bLowest_c) ?_; conv => whnf) | (refine CallG.mk _ _ (by first | exact bOut_pc _ _ _ | exact bLowest_c) ?_; conv => whnf) | (refine Ask.mk (by first | decide | (unfold roomOK; decide)) ?_; conv => whnf) | (refine AppG.mk (by first | decide | (unfold roomOK; decide)) ?_; conv => whnf) | (refine SliceG.fr ?_; conv => whnf) | (refine IdxG.mk _ ⟨by decide, by rfl⟩ ?_; conv => whnf) | (refine RowG.mk _ (by rfl) ?_; conv => whnf) | (refine look_no (by decide +kernel) ?_; conv => whnf) | (refine look_ix 0 (by rfl) (by decide +kernel) ?_; conv => whnf) | (refine look_ix 1 (by rfl) (by decide +kernel) ?_; conv => whnf) | (refine look_ix 2 (by rfl) (by decide +kernel) ?_; conv => whnf) | (refine upd_no (by decide +kernel) ?_; conv => whnf) | (refine LoopG.un 12 ?_; conv => whnf) | fail)
  all_goals first | exact .mk ⟨rfl, rfl⟩ | trace_state
set_option maxRecDepth 100000 in
set_option maxHeartbeats 4000000 in
theorem traceFault_c : PCp 55 [.c trP, .agg trR] [] (.c (.int .i64 0)) [] := by
  refine fn_sound (mt := mts) tab_fits tab_mixed Tryz.func55 (by rfl) (by kernel_rfl) (by kernel_rfl) Tryz.results55 (Nat.le_of_ble_eq_true (by kernel_rfl)) ?_
  conv => whnf
  repeat' (first | (refine CondG.mk (fun h => ?_) (fun h => absurd h (by decide +kernel)); clear h; conv => whnf) | (refine CondG.mk (fun h => absurd h (by decide +kernel)) (fun h => ?_); clear h; conv => whnf) | (refine Split.mk (fun h => ?_) (fun h => absurd h (by decide +kernel)); clear h; conv => whnf) | (refine Split.mk (fun h => absurd h (by decide +kernel)) (fun h => ?_); clear h; conv => whnf) | (refine CallX.mk _ _ (by first | exact checkTrace_c | exact checkRules_c | exact first_pc [0, 0] (by decide)) ?_; conv => whnf) | (refine CallG.mk _ _ (by first | exact checkTrace_c | exact checkRules_c | exact first_pc [0, 0] (by decide)) ?_; conv => whnf) | (refine Ask.mk (by first | decide | (unfold roomOK; decide)) ?_; conv => whnf) | (refine AppG.mk (by first | decide | (unfold roomOK; decide)) ?_; conv => whnf) | (refine SliceG.fr ?_; conv => whnf) | (refine IdxG.mk _ ⟨by decide, by rfl⟩ ?_; conv => whnf) | (refine RowG.mk _ (by rfl) ?_; conv => whnf) | (refine look_no (by decide +kernel) ?_; conv => whnf) | (refine look_ix 0 (by rfl) (by decide +kernel) ?_; conv => whnf) | (refine look_ix 1 (by rfl) (by decide +kernel) ?_; conv => whnf) | (refine look_ix 2 (by rfl) (by decide +kernel) ?_; conv => whnf) | (refine upd_no (by decide +kernel) ?_; conv => whnf) | (refine LoopG.un 12 ?_; conv => whnf) | fail)
  all_goals first | exact .mk ⟨rfl, rfl⟩ | trace_state
set_option maxRecDepth 100000 in
set_option maxHeartbeats 4000000 in
theorem sum_c1 : PCp 104 [.c (.lst 1 [[.int .i64 10], [.int .i64 10]])] [] (.c (.int .i64 20)) [] := by
  refine fn_sound (mt := mts) tab_fits tab_mixed Tryz.func104 (by rfl) (by kernel_rfl) (by kernel_rfl) Tryz.results104 (Nat.le_of_ble_eq_true (by kernel_rfl)) ?_
  conv => whnf
  repeat' (first | (refine CondG.mk (fun h => ?_) (fun h => absurd h (by decide +kernel)); clear h; conv => whnf) | (refine CondG.mk (fun h => absurd h (by decide +kernel)) (fun h => ?_); clear h; conv => whnf) | (refine Split.mk (fun h => ?_) (fun h => absurd h (by decide +kernel)); clear h; conv => whnf) | (refine Split.mk (fun h => absurd h (by decide +kernel)) (fun h => ?_); clear h; conv => whnf) | (refine Ask.mk (by first | decide | (unfold roomOK; decide)) ?_; conv => whnf) | (refine AppG.mk (by first | decide | (unfold roomOK; decide)) ?_; conv => whnf) | (refine SliceG.fr ?_; conv => whnf) | (refine IdxG.mk _ ⟨by decide, by rfl⟩ ?_; conv => whnf) | (refine RowG.mk _ (by rfl) ?_; conv => whnf) | (refine look_no (by decide +kernel) ?_; conv => whnf) | (refine look_ix 0 (by rfl) (by decide +kernel) ?_; conv => whnf) | (refine look_ix 1 (by rfl) (by decide +kernel) ?_; conv => whnf) | (refine look_ix 2 (by rfl) (by decide +kernel) ?_; conv => whnf) | (refine upd_no (by decide +kernel) ?_; conv => whnf) | (refine LoopG.un 12 ?_; conv => whnf) | fail)
  all_goals first | exact .mk ⟨rfl, rfl⟩ | trace_state
set_option maxRecDepth 100000 in
set_option maxHeartbeats 4000000 in
theorem sum_c2 : PCp 104 [.c (.lst 1 [[.int .i64 4], [.int .i64 4]])] [] (.c (.int .i64 8)) [] := by
  refine fn_sound (mt := mts) tab_fits tab_mixed Tryz.func104 (by rfl) (by kernel_rfl) (by kernel_rfl) Tryz.results104 (Nat.le_of_ble_eq_true (by kernel_rfl)) ?_
  conv => whnf
  repeat' (first | (refine CondG.mk (fun h => ?_) (fun h => absurd h (by decide +kernel)); clear h; conv => whnf) | (refine CondG.mk (fun h => absurd h (by decide +kernel)) (fun h => ?_); clear h; conv => whnf) | (refine Split.mk (fun h => ?_) (fun h => absurd h (by decide +kernel)); clear h; conv => whnf) | (refine Split.mk (fun h => absurd h (by decide +kernel)) (fun h => ?_); clear h; conv => whnf) | (refine Ask.mk (by first | decide | (unfold roomOK; decide)) ?_; conv => whnf) | (refine AppG.mk (by first | decide | (unfold roomOK; decide)) ?_; conv => whnf) | (refine SliceG.fr ?_; conv => whnf) | (refine IdxG.mk _ ⟨by decide, by rfl⟩ ?_; conv => whnf) | (refine RowG.mk _ (by rfl) ?_; conv => whnf) | (refine look_no (by decide +kernel) ?_; conv => whnf) | (refine look_ix 0 (by rfl) (by decide +kernel) ?_; conv => whnf) | (refine look_ix 1 (by rfl) (by decide +kernel) ?_; conv => whnf) | (refine look_ix 2 (by rfl) (by decide +kernel) ?_; conv => whnf) | (refine upd_no (by decide +kernel) ?_; conv => whnf) | (refine LoopG.un 12 ?_; conv => whnf) | fail)
  all_goals first | exact .mk ⟨rfl, rfl⟩ | trace_state
set_option maxRecDepth 100000 in
set_option maxHeartbeats 4000000 in
theorem fraction_c : PCp 105 [.c (.int .i64 12), .c (.int .i64 2)] [] (.agg [.int .i64 6, .int .i64 1]) [] := by
  have g : PCp 148 [.c (.int .i64 12), .c (.int .i64 2)] [] (.c (.int .i64 2)) [] := by
    refine fn_sound (mt := mts) tab_fits tab_mixed Tryz.func148 (by rfl) (by kernel_rfl) (by kernel_rfl) Tryz.results148 (Nat.le_of_ble_eq_true (by kernel_rfl)) ?_
    conv => whnf
    repeat' (first | (refine CondG.mk (fun h => ?_) (fun h => absurd h (by decide +kernel)); clear h; conv => whnf) | (refine CondG.mk (fun h => absurd h (by decide +kernel)) (fun h => ?_); clear h; conv => whnf) | (refine Split.mk (fun h => ?_) (fun h => absurd h (by decide +kernel)); clear h; conv => whnf) | (refine Split.mk (fun h => absurd h (by decide +kernel)) (fun h => ?_); clear h; conv => whnf) | (refine Ask.mk (by first | decide | (unfold roomOK; decide)) ?_; conv => whnf) | (refine AppG.mk (by first | decide | (unfold roomOK; decide)) ?_; conv => whnf) | (refine SliceG.fr ?_; conv => whnf) | (refine IdxG.mk _ ⟨by decide, by rfl⟩ ?_; conv => whnf) | (refine RowG.mk _ (by rfl) ?_; conv => whnf) | (refine look_no (by decide +kernel) ?_; conv => whnf) | (refine look_ix 0 (by rfl) (by decide +kernel) ?_; conv => whnf) | (refine look_ix 1 (by rfl) (by decide +kernel) ?_; conv => whnf) | (refine look_ix 2 (by rfl) (by decide +kernel) ?_; conv => whnf) | (refine upd_no (by decide +kernel) ?_; conv => whnf) | (refine LoopG.un 12 ?_; conv => whnf) | fail)
    all_goals first | exact .mk ⟨rfl, rfl⟩ | trace_state
  refine fn_sound (mt := mts) tab_fits tab_mixed Tryz.func105 (by rfl) (by kernel_rfl) (by kernel_rfl) Tryz.results105 (Nat.le_of_ble_eq_true (by kernel_rfl)) ?_
  conv => whnf
  repeat' (first | (refine CondG.mk (fun h => ?_) (fun h => absurd h (by decide +kernel)); clear h; conv => whnf) | (refine CondG.mk (fun h => absurd h (by decide +kernel)) (fun h => ?_); clear h; conv => whnf) | (refine Split.mk (fun h => ?_) (fun h => absurd h (by decide +kernel)); clear h; conv => whnf) | (refine Split.mk (fun h => absurd h (by decide +kernel)) (fun h => ?_); clear h; conv => whnf) | (refine CallX.mk _ _ (by first | exact g) ?_; conv => whnf) | (refine CallG.mk _ _ (by first | exact g) ?_; conv => whnf) | (refine Ask.mk (by first | decide | (unfold roomOK; decide)) ?_; conv => whnf) | (refine AppG.mk (by first | decide | (unfold roomOK; decide)) ?_; conv => whnf) | (refine SliceG.fr ?_; conv => whnf) | (refine IdxG.mk _ ⟨by decide, by rfl⟩ ?_; conv => whnf) | (refine RowG.mk _ (by rfl) ?_; conv => whnf) | (refine look_no (by decide +kernel) ?_; conv => whnf) | (refine look_ix 0 (by rfl) (by decide +kernel) ?_; conv => whnf) | (refine look_ix 1 (by rfl) (by decide +kernel) ?_; conv => whnf) | (refine look_ix 2 (by rfl) (by decide +kernel) ?_; conv => whnf) | (refine upd_no (by decide +kernel) ?_; conv => whnf) | (refine LoopG.un 12 ?_; conv => whnf) | fail)
  all_goals first | exact .mk ⟨rfl, rfl⟩ | trace_state
set_option maxRecDepth 100000 in
set_option maxHeartbeats 4000000 in
theorem excess_c : PCp 56 [.c trP, .agg trR] [] (.c (.row 0)) [.row 79 2 [[.int .i64 6, .int .i64 1]]] := by
  refine fn_sound (mt := mts) tab_fits tab_mixed Tryz.func56 (by rfl) (by kernel_rfl) (by kernel_rfl) Tryz.results56 (Nat.le_of_ble_eq_true (by kernel_rfl)) ?_
  conv => whnf
  repeat' (first | (refine CondG.mk (fun h => ?_) (fun h => absurd h (by decide +kernel)); clear h; conv => whnf) | (refine CondG.mk (fun h => absurd h (by decide +kernel)) (fun h => ?_); clear h; conv => whnf) | (refine Split.mk (fun h => ?_) (fun h => absurd h (by decide +kernel)); clear h; conv => whnf) | (refine Split.mk (fun h => absurd h (by decide +kernel)) (fun h => ?_); clear h; conv => whnf) | (refine CallX.mk _ _ (by first | exact sum_c1 | exact sum_c2 | exact fraction_c) ?_; conv => whnf) | (refine CallG.mk _ _ (by first | exact sum_c1 | exact sum_c2 | exact fraction_c) ?_; conv => whnf) | (refine Ask.mk (by first | decide | (unfold roomOK; decide)) ?_; conv => whnf) | (refine AppG.mk (by first | decide | (unfold roomOK; decide)) ?_; conv => whnf) | (refine SliceG.fr ?_; conv => whnf) | (refine IdxG.mk _ ⟨by decide, by rfl⟩ ?_; conv => whnf) | (refine RowG.mk _ (by rfl) ?_; conv => whnf) | (refine look_no (by decide +kernel) ?_; conv => whnf) | (refine look_ix 0 (by rfl) (by decide +kernel) ?_; conv => whnf) | (refine look_ix 1 (by rfl) (by decide +kernel) ?_; conv => whnf) | (refine look_ix 2 (by rfl) (by decide +kernel) ?_; conv => whnf) | (refine upd_no (by decide +kernel) ?_; conv => whnf) | (refine LoopG.un 12 ?_; conv => whnf) | fail)
  all_goals first | exact .mk ⟨rfl, rfl⟩ | trace_state
set_option maxRecDepth 100000 in
set_option maxHeartbeats 4000000 in
theorem down_c : PCp 58 [.c (.int .i64 13), .c (.int .i64 2)] [] (.c (.int .i64 6)) [] := by
  refine fn_sound (mt := mts) tab_fits tab_mixed Tryz.func58 (by rfl) (by kernel_rfl) (by kernel_rfl) Tryz.results58 (Nat.le_of_ble_eq_true (by kernel_rfl)) ?_
  conv => whnf
  repeat' (first | (refine CondG.mk (fun h => ?_) (fun h => absurd h (by decide +kernel)); clear h; conv => whnf) | (refine CondG.mk (fun h => absurd h (by decide +kernel)) (fun h => ?_); clear h; conv => whnf) | (refine Split.mk (fun h => ?_) (fun h => absurd h (by decide +kernel)); clear h; conv => whnf) | (refine Split.mk (fun h => absurd h (by decide +kernel)) (fun h => ?_); clear h; conv => whnf) | (refine Ask.mk (by first | decide | (unfold roomOK; decide)) ?_; conv => whnf) | (refine AppG.mk (by first | decide | (unfold roomOK; decide)) ?_; conv => whnf) | (refine SliceG.fr ?_; conv => whnf) | (refine IdxG.mk _ ⟨by decide, by rfl⟩ ?_; conv => whnf) | (refine RowG.mk _ (by rfl) ?_; conv => whnf) | (refine look_no (by decide +kernel) ?_; conv => whnf) | (refine look_ix 0 (by rfl) (by decide +kernel) ?_; conv => whnf) | (refine look_ix 1 (by rfl) (by decide +kernel) ?_; conv => whnf) | (refine look_ix 2 (by rfl) (by decide +kernel) ?_; conv => whnf) | (refine upd_no (by decide +kernel) ?_; conv => whnf) | (refine LoopG.un 12 ?_; conv => whnf) | fail)
  all_goals first | exact .mk ⟨rfl, rfl⟩ | trace_state
/-! the run that goes on is told -/
set_option maxRecDepth 100000 in
set_option maxHeartbeats 4000000 in
theorem flush_c : PCp 57 [.c (.ptr 0 0), .c (.ptr 1 0), .c (.ptr 3 0), .c (.ptr 4 0)] [.box [.int .i64 0], .box [.row 2], .row 79 2 [[.int .i64 6, .int .i64 1]], .box [.nils], .box trR] (.tup []) [.box [.int .i64 (-1)], .box [.row 2], .row 79 2 [[.int .i64 6, .int .i64 1]], .box [.row 5], .box trR, .row 131 2 [[.int .i64 10, .int .i64 6]]] := by
  refine fn_sound (mt := mts) tab_fits tab_mixed Tryz.func57 (by rfl) (by kernel_rfl) (by kernel_rfl) Tryz.results57 (Nat.le_of_ble_eq_true (by kernel_rfl)) ?_
  conv => whnf
  repeat' (first | (refine CondG.mk (fun h => ?_) (fun h => absurd h (by decide +kernel)); clear h; conv => whnf) | (refine CondG.mk (fun h => absurd h (by decide +kernel)) (fun h => ?_); clear h; conv => whnf) | (refine Split.mk (fun h => ?_) (fun h => absurd h (by decide +kernel)); clear h; conv => whnf) | (refine Split.mk (fun h => absurd h (by decide +kernel)) (fun h => ?_); clear h; conv => whnf) | (refine CallX.mk _ _ (by first | exact down_c) ?_; conv => whnf) | (refine CallG.mk _ _ (by first | exact down_c) ?_; conv => whnf) | (refine Ask.mk (by first | decide | (unfold roomOK; decide)) ?_; conv => whnf) | (refine AppG.mk (by first | decide | (unfold roomOK; decide)) ?_; conv => whnf) | (refine SliceG.fr ?_; conv => whnf) | (refine IdxG.mk _ ⟨by decide, by rfl⟩ ?_; conv => whnf) | (refine RowG.mk _ (by rfl) ?_; conv => whnf) | (refine look_no (by decide +kernel) ?_; conv => whnf) | (refine look_ix 0 (by rfl) (by decide +kernel) ?_; conv => whnf) | (refine look_ix 1 (by rfl) (by decide +kernel) ?_; conv => whnf) | (refine look_ix 2 (by rfl) (by decide +kernel) ?_; conv => whnf) | (refine upd_no (by decide +kernel) ?_; conv => whnf) | (refine LoopG.un 12 ?_; conv => whnf) | fail)
  all_goals first | exact .mk ⟨rfl, rfl⟩ | trace_state
set_option maxRecDepth 100000 in
set_option maxHeartbeats 4000000 in
theorem detected_c : PCp 29 [.c trP, .agg trR] [] (.tup [.c (.row 0), .c (.int .i64 0)]) [.row 131 2 [[.int .i64 10, .int .i64 6]]] := by
  refine fn_sound (mt := mts) tab_fits tab_mixed Tryz.func29 (by rfl) (by kernel_rfl) (by kernel_rfl) Tryz.results29 (Nat.le_of_ble_eq_true (by kernel_rfl)) ?_
  conv => whnf
  repeat' (first | (refine CondG.mk (fun h => ?_) (fun h => absurd h (by decide +kernel)); clear h; conv => whnf) | (refine CondG.mk (fun h => absurd h (by decide +kernel)) (fun h => ?_); clear h; conv => whnf) | (refine Split.mk (fun h => ?_) (fun h => absurd h (by decide +kernel)); clear h; conv => whnf) | (refine Split.mk (fun h => absurd h (by decide +kernel)) (fun h => ?_); clear h; conv => whnf) | (refine CallX.mk _ _ (by first | exact traceFault_c | exact excess_c | exact flush_c) ?_; conv => whnf) | (refine CallG.mk _ _ (by first | exact traceFault_c | exact excess_c | exact flush_c) ?_; conv => whnf) | (refine Ask.mk (by first | decide | (unfold roomOK; decide)) ?_; conv => whnf) | (refine AppG.mk (by first | decide | (unfold roomOK; decide)) ?_; conv => whnf) | (refine SliceG.fr ?_; conv => whnf) | (refine IdxG.mk _ ⟨by decide, by rfl⟩ ?_; conv => whnf) | (refine RowG.mk _ (by rfl) ?_; conv => whnf) | (refine look_no (by decide +kernel) ?_; conv => whnf) | (refine look_ix 0 (by rfl) (by decide +kernel) ?_; conv => whnf) | (refine look_ix 1 (by rfl) (by decide +kernel) ?_; conv => whnf) | (refine look_ix 2 (by rfl) (by decide +kernel) ?_; conv => whnf) | (refine upd_no (by decide +kernel) ?_; conv => whnf) | (refine LoopG.un 12 ?_; conv => whnf) | fail)
  all_goals first | exact .mk ⟨rfl, rfl⟩ | trace_state
end Go.Proofs.YtdljolmiclbolaaGreatDoor

/- The law of repairs. -/
namespace Go.Proofs.YtdljolmiclbolaaGreatDoor
set_option linter.unusedVariables false
set_option linter.unusedSimpArgs false
open Abs

theorem eqSsS (l : List ByteArray) (hl : l.length ≤ 1000000) : PCp 11 [.c (.lst 1 (l.map encS)), .c (.lst 1 (l.map encS))] [] (.c (.bool true)) [] := by
  have := equalS_pc l l hl
  rwa [decide_eq_true rfl] at this
set_option maxRecDepth 100000 in
set_option maxHeartbeats 4000000 in
theorem repairs_bad (s : List Sv) (hx : ∀ x ∈ s, x.els.length ≤ 1000000) (b : List ByteArray) (hb : b.length ≤ 1000000) (h0 : setErr s b ≠ 0) :
    PCp 6 [.c (.lst 3 (s.map encSv)), .c (.lst 1 (b.map encS))] [] (.tup [.c (.lst 1 []), .c (.int .i64 (setErr s b))]) [] := by
  refine fn_sound (mt := mts) tab_fits tab_mixed Tryz.func6 (by rfl) (by kernel_rfl) (by kernel_rfl) Tryz.results6 (Nat.le_of_ble_eq_true (by kernel_rfl)) ?_
  conv => whnf
  repeat' (first | ((first | refine Split.mk (fun h => ?_) (fun h => ?_) | refine CondG.mk (fun h => ?_) (fun h => ?_)) <;> (try simp only [decide_eq_true_eq, decide_eq_false_iff_not, Bool.not_eq_true', Bool.not_eq_false', beq_iff_eq, beq_eq_false_iff_ne, bne_iff_ne, bne_eq_false_iff_eq] at h) <;> (first | (exfalso; first | omega | exact h trivial | contradiction | (simp_all [eqRes]; done)) | (conv => whnf))) | (refine CallX.mk _ _ (by first | exact fSetFault_pc s hx b hb) ?_; conv => whnf) | (refine CallG.mk _ _ (by first | exact fSetFault_pc s hx b hb) ?_; conv => whnf) | (refine Ask.mk (by first | omega | (unfold roomOK; simp [cutRows]; done) | (unfold roomOK; simp [cutRows]; omega) | (simp [cutRows]; done) | (simp [cutRows]; omega)) ?_; conv => whnf) | (refine AppG.mk (by first | omega | (unfold roomOK; simp [cutRows]; done) | (unfold roomOK; simp [cutRows]; omega) | (simp [cutRows]; done) | (simp [cutRows]; omega)) ?_; conv => whnf) | (refine SliceG.fr ?_; conv => whnf) | (refine idx_at _ (by with_reducible rfl) (by first | assumption | omega) ?_; conv => whnf) | ((with_reducible refine row_map (by first | assumption | omega) ?_); conv => whnf) | ((with_reducible refine row_set (by first | assumption | omega | (simp only [List.length_set]; omega) | (simp; omega)) ?_); conv => whnf) | fail)
  refine .weak [] (.tup _ _ rfl ?_) rfl (Nat.le_refl _)
  intro i a b ha hb
  match i with
  | 0 => cases ha; cases hb; exact .nil 1
  | 1 => cases ha; cases hb; exact .refl _
theorem repV_len (s : List Sv) : ∀ (n : Nat) (l : List ByteArray), (repV s n l).length = n
  | 0, _ => rfl
  | n + 1, l => by rw [repV, List.length_cons, repV_len s n]
end Go.Proofs.YtdljolmiclbolaaGreatDoor

/- The packages do something. -/
namespace Go.Proofs.YtdljolmiclbolaaGreatDoor
set_option linter.unusedVariables false
set_option linter.unusedSimpArgs false
open Abs

set_option maxRecDepth 100000 in
set_option maxHeartbeats 4000000 in
theorem kerrs_pc (l : List Int) (hl : l.length ≤ 1000000) : PCp 15 [.c (.lst 1 (l.map encI))] [] (.c (.int .i64 (firstErr l))) [] := by
  have hlm : (l.map encI).length = l.length := List.length_map ..
  refine fn_sound (mt := mts) tab_fits tab_mixed Tryz.func15 (by rfl) (by kernel_rfl) (by kernel_rfl) Tryz.results15 (Nat.le_of_ble_eq_true (by kernel_rfl)) ?_
  conv => whnf
  refine loop_count (l.length) [] [5, 6, 7] (fun k (_ : Unit) => ⟨[(5, .c (.lst 1 (l.map encI))), (6, .c (.int .i64 (l.map encI).length)), (7, .c (.int .i64 k))], [], 0⟩) (fun k (_ : Unit) => firstErr (l.drop k) = firstErr l) (()) ?_ ?_ ?_
  · conv => whnf
    exact ⟨rfl, rfl⟩
  · intro k _ hk hi
    rw [drop_cons hk, firstErr] at hi
    conv => whnf
    repeat' (first | ((first | refine Split.mk (fun h => ?_) (fun h => ?_) | refine CondG.mk (fun h => ?_) (fun h => ?_)) <;> (try simp only [decide_eq_true_eq, decide_eq_false_iff_not, Bool.not_eq_true', Bool.not_eq_false', beq_iff_eq, beq_eq_false_iff_ne] at h) <;> (first | (exfalso; first | omega | exact h trivial) | (conv => whnf))) | (refine Ask.mk (by first | omega | (unfold roomOK; simp [cutRows]; done) | (unfold roomOK; simp [cutRows]; omega)) ?_; conv => whnf) | (refine AppG.mk (by first | omega | (unfold roomOK; simp [cutRows]; done) | (unfold roomOK; simp [cutRows]; omega)) ?_; conv => whnf) | (refine SliceG.fr ?_; conv => whnf) | fail)
    refine idx_map k hk rfl ?_
    conv => whnf
    repeat' (first | ((first | refine Split.mk (fun h => ?_) (fun h => ?_) | refine CondG.mk (fun h => ?_) (fun h => ?_)) <;> (try simp only [decide_eq_true_eq, decide_eq_false_iff_not, Bool.not_eq_true', Bool.not_eq_false', beq_iff_eq, beq_eq_false_iff_ne] at h) <;> (first | (exfalso; first | omega | exact h trivial) | (conv => whnf))) | (refine Ask.mk (by first | omega | (unfold roomOK; simp [cutRows]; done) | (unfold roomOK; simp [cutRows]; omega)) ?_; conv => whnf) | (refine AppG.mk (by first | omega | (unfold roomOK; simp [cutRows]; done) | (unfold roomOK; simp [cutRows]; omega)) ?_; conv => whnf) | (refine SliceG.fr ?_; conv => whnf) | fail)
    · exact fini (by rw [← hi, if_neg (by simpa using h)])
    · refine count_next () hk (by rw [wrap_succ hk (by omega)]; rfl) ?_
      rw [← hi, if_pos (by simpa using h)]
  · intro _ hi
    rw [List.drop_of_length_le (Nat.le_refl _)] at hi
    conv => whnf
    repeat' (first | ((first | refine Split.mk (fun h => ?_) (fun h => ?_) | refine CondG.mk (fun h => ?_) (fun h => ?_)) <;> (try simp only [decide_eq_true_eq, decide_eq_false_iff_not, Bool.not_eq_true', Bool.not_eq_false', beq_iff_eq, beq_eq_false_iff_ne] at h) <;> (first | (exfalso; first | omega | exact h trivial) | (conv => whnf))) | (refine Ask.mk (by first | omega | (unfold roomOK; simp [cutRows]; done) | (unfold roomOK; simp [cutRows]; omega)) ?_; conv => whnf) | (refine AppG.mk (by first | omega | (unfold roomOK; simp [cutRows]; done) | (unfold roomOK; simp [cutRows]; omega)) ?_; conv => whnf) | (refine SliceG.fr ?_; conv => whnf) | fail)
    exact fini (by rw [← hi]; rfl)
set_option maxRecDepth 100000 in
set_option maxHeartbeats 4000000 in
theorem ready_pc : PCp 8 [] [] (.c (.bool true)) [] := by
  have h1 : seenErr [⟨⟨#[115]⟩, [⟨#[97]⟩], 1⟩] [⟨#[115]⟩] [] = 0 := by decide +kernel
  have h2 : susV [⟨⟨#[115]⟩, [⟨#[97]⟩], 1⟩] [⟨#[115]⟩] [] = [⟨#[97]⟩] := by decide +kernel
  have hF := suspectsP_pc [⟨⟨#[115]⟩, [⟨#[97]⟩], 1⟩] (by simp) [⟨#[115]⟩] []
  rw [if_pos h1, h2, h1] at hF
  have hG := hF.wk (gs := [.c (.lst 3 ([⟨⟨#[115]⟩, [⟨#[97]⟩], 1⟩].map encSv)), .c (.lst 1 ([⟨#[115]⟩].map encS)), .c .nils]) (P2.cons (.refl _) (P2.cons (.refl _) (P2.cons (.c (.nils 1)) P2.nil)))
  have hm : mostX [⟨⟨#[100]⟩, ⟨#[97]⟩, ⟨#[98]⟩, 1, 100⟩] [] ⟨#[100]⟩ 36 = 3 := by decide +kernel
  have ht : twoE [⟨⟨#[100]⟩, ⟨#[97]⟩, ⟨#[98]⟩, 1, 100⟩] [] ⟨#[100]⟩ 36 = 0 := by decide +kernel
  have hM := dMostX_pc [⟨⟨#[100]⟩, ⟨#[97]⟩, ⟨#[98]⟩, 1, 100⟩] [] (by simp) ⟨#[100]⟩ 36
  rw [hm, ht] at hM
  have hN := hM.wk (gs := [.c (.lst 5 ([⟨⟨#[100]⟩, ⟨#[97]⟩, ⟨#[98]⟩, 1, 100⟩].map encDu)), .c .nils, .c (.str ⟨#[100]⟩), .c (.int .i64 36)]) (P2.cons (.refl _) (P2.cons (.c (.nils 3)) (P2.cons (.refl _) (P2.cons (.refl _) P2.nil))))
  have hS := stock_pc ⟨1, 1, ⟨#[100]⟩, ⟨#[116]⟩, ⟨#[]⟩, 5⟩ rfl (by decide +kernel) 1 (by decide) (by decide)
  refine fn_sound (mt := mts) tab_fits tab_mixed Tryz.func8 (by rfl) (by kernel_rfl) (by kernel_rfl) Tryz.results8 (Nat.le_of_ble_eq_true (by kernel_rfl)) ?_
  conv => whnf
  repeat' (first | (refine CondG.mk (fun h => ?_) (fun h => absurd h (by decide +kernel)); clear h; conv => whnf) | (refine CondG.mk (fun h => absurd h (by decide +kernel)) (fun h => ?_); clear h; conv => whnf) | (refine Split.mk (fun h => ?_) (fun h => absurd h (by decide +kernel)); clear h; conv => whnf) | (refine Split.mk (fun h => absurd h (by decide +kernel)) (fun h => ?_); clear h; conv => whnf) | (refine CallX.mk _ _ (by first | exact tiny_c | exact path_c | exact detected_c | exact hG | exact hN | exact hS | exact kerrs_pc [0, 0, 0, 0, 0] (by decide)) ?_; conv => whnf) | (refine CallG.mk _ _ (by first | exact tiny_c | exact path_c | exact detected_c | exact hG | exact hN | exact hS | exact kerrs_pc [0, 0, 0, 0, 0] (by decide)) ?_; conv => whnf) | (refine Ask.mk (by first | decide | (unfold roomOK; decide)) ?_; conv => whnf) | (refine AppG.mk (by first | decide | (unfold roomOK; decide)) ?_; conv => whnf) | (refine SliceG.fr ?_; conv => whnf) | (refine IdxG.mk _ ⟨by decide, by rfl⟩ ?_; conv => whnf) | (refine RowG.mk _ (by rfl) ?_; conv => whnf) | (refine look_no (by decide +kernel) ?_; conv => whnf) | (refine look_ix 0 (by rfl) (by decide +kernel) ?_; conv => whnf) | (refine look_ix 1 (by rfl) (by decide +kernel) ?_; conv => whnf) | (refine look_ix 2 (by rfl) (by decide +kernel) ?_; conv => whnf) | (refine upd_no (by decide +kernel) ?_; conv => whnf) | (refine LoopG.un 12 ?_; conv => whnf) | fail)
  all_goals first | exact .mk ⟨rfl, rfl⟩ | exact .mk ⟨sbool (by decide +kernel), rfl⟩ | trace_state
end Go.Proofs.YtdljolmiclbolaaGreatDoor

/- The law of repairs that restore. -/
namespace Go.Proofs.YtdljolmiclbolaaGreatDoor
set_option linter.unusedVariables false
set_option linter.unusedSimpArgs false
open Abs

set_option maxRecDepth 100000 in
set_option maxHeartbeats 4000000 in
theorem repairsRestore_pc (L : List Int) (hL : L.length ≤ 9223372036854775807) : PCp 3 [.c (.lst 1 (L.map encI))] [] (.c (.bool true)) [] := by
  have st0 : StOk L 0 := ⟨hL, by omega, by omega⟩
  refine fn_sound (mt := mts) tab_fits tab_mixed Tryz.func3 (by rfl) (by kernel_rfl) (by kernel_rfl) Tryz.results3 (Nat.le_of_ble_eq_true (by kernel_rfl)) ?_
  conv => whnf
  repeat' (first | ((first | refine Split.mk (fun h => ?_) (fun h => ?_) | refine CondG.mk (fun h => ?_) (fun h => ?_)) <;> (try simp only [decide_eq_true_eq, decide_eq_false_iff_not, Bool.not_eq_true', Bool.not_eq_false', beq_iff_eq, beq_eq_false_iff_ne, bne_iff_ne, bne_eq_false_iff_eq] at h) <;> (first | (exfalso; first | omega | exact h trivial) | (conv => whnf))) | (refine Ask.mk (by first | omega | (unfold roomOK; simp [cutRows]; done) | (unfold roomOK; simp [cutRows]; omega) | (simp [cutRows]; done) | (simp [cutRows]; omega)) ?_; conv => whnf) | (refine AppG.mk (by first | omega | (unfold roomOK; simp [cutRows]; done) | (unfold roomOK; simp [cutRows]; omega) | (simp [cutRows]; done) | (simp [cutRows]; omega)) ?_; conv => whnf) | (refine SliceG.fr ?_; conv => whnf) | (refine idx_at _ (by with_reducible rfl) (by first | assumption | omega) ?_; conv => whnf) | ((with_reducible refine row_map (by first | assumption | omega) ?_); conv => whnf) | ((with_reducible refine row_set (by first | assumption | omega | (simp only [List.length_set]; omega) | (simp; omega)) ?_); conv => whnf) | fail)
  refine .ex _ (rRightS_pc st0 (by omega)) ?_
  rintro _ _ ⟨s, p, rfl, rfl, h0, h1, h2, h3, h4⟩
  conv => whnf
  refine .ex _ (rElements_pc (L := L) (p := p) ⟨hL, by omega, by omega⟩ (by omega)) ?_
  rintro _ _ ⟨b, p2, rfl, rfl, h5, h6, h7⟩
  have hs := svFault_ok h0
  have hN : ∀ x ∈ s, ∀ e ∈ x.els, e ∈ svNames := fun x hm => (h2 x hm).2
  have hx6 : ∀ x ∈ s, x.els.length ≤ 1000000 := fun x hm => Nat.le_trans (h2 x hm).1 (by decide)
  have hsm : (s.map encSv).length = s.length := List.length_map ..
  have hse : setErr s b = elsFault b := by rw [setErr, if_neg (by omega)]
  by_cases hb : elsFault b = 0
  · obtain ⟨hbr, hbl, hbk⟩ := elsFault_ok hb
    have c3 := repairs_pc s hs b hb (by omega)
    have c4 := sortG_pc (repV s b.length b) (by rw [repV_len]; omega)
    rw [repV_sorted s hbr] at c4
    have hRl : (repV s b.length b).length = b.length := repV_len ..
    have hAt := repV_at s b.length b
    have hPx : ∃ P, prV s = P ∧ (∀ j (h : j < P.length), PCp 17 [.c (.str P[j].2)] [] (.tup [.c (.int .i64 (affN s [P[j].1])), .c .nili]) []) ∧ (∀ j (h : j + 1 < P.length), ¬ (affN s [(P[j]'(by omega)).1] < affN s [P[j + 1].1]) ∧ (affN s [(P[j]'(by omega)).1] = affN s [P[j + 1].1] → ltB (P[j]'(by omega)).1 P[j + 1].1 = true)) :=
      ⟨_, rfl, fun j h => prV_atoi hs h, fun j h => prV_adj s h⟩
    obtain ⟨P, hPe, cP, hadj⟩ := hPx
    have c2 := single_pc s hs h0 hN
    have hpl : (prV s).length ≤ 1000000 := by
      have := nms_few hN
      rw [prV_len]; unfold sgV; rw [insSort_len]; omega
    have hbm : (b.map encS).length = b.length := List.length_map ..
    rw [hPe] at c2 hpl
    clear hPe
    have hPm : (P.map encPs).length = P.length := List.length_map ..
    generalize repV s b.length b = R at *
    have hRm : (R.map encS).length = R.length := List.length_map ..
    conv => whnf
    repeat' (first | ((first | refine Split.mk (fun h => ?_) (fun h => ?_) | refine CondG.mk (fun h => ?_) (fun h => ?_)) <;> (try simp only [decide_eq_true_eq, decide_eq_false_iff_not, Bool.not_eq_true', Bool.not_eq_false', beq_iff_eq, beq_eq_false_iff_ne, bne_iff_ne, bne_eq_false_iff_eq] at h) <;> (first | (exfalso; first | omega | exact h trivial | contradiction | (simp_all [eqRes]; done)) | (conv => whnf))) | (refine CallX.mk _ _ (by first | exact c3 | exact cloneS_pc R (by omega) | exact c4 | exact eqSsS b (by omega) | exact cloneS_pc b (by omega)) ?_; conv => whnf) | (refine CallG.mk _ _ (by first | exact c3 | exact cloneS_pc R (by omega) | exact c4 | exact eqSsS b (by omega) | exact cloneS_pc b (by omega)) ?_; conv => whnf) | (refine Ask.mk (by first | omega | (unfold roomOK; simp [cutRows]; done) | (unfold roomOK; simp [cutRows]; omega) | (simp [cutRows]; done) | (simp [cutRows]; omega)) ?_; conv => whnf) | (refine AppG.mk (by first | omega | (unfold roomOK; simp [cutRows]; done) | (unfold roomOK; simp [cutRows]; omega) | (simp [cutRows]; done) | (simp [cutRows]; omega)) ?_; conv => whnf) | (refine SliceG.fr ?_; conv => whnf) | (refine idx_at _ (by with_reducible rfl) (by first | assumption | omega) ?_; conv => whnf) | ((with_reducible refine row_map (by first | assumption | omega) ?_); conv => whnf) | ((with_reducible refine row_set (by first | assumption | omega | (simp only [List.length_set]; omega) | (simp; omega)) ?_); conv => whnf) | fail)
    refine loop_for (R.length) [] [4, 9, 59, 60, 61] (fun k (_ : Unit) => [(61, .c (.int .i64 (k : Int)))]) (fun k (_ : Unit) => [(0, .row 9 1 ((lftK s b k).map encS))]) (fun k (_ : Unit) => True) (()) ?_
    conv => whnf
    refine ⟨(by first | rfl | (simp; done) | (simp; rfl)), (by trivial), ?_, ?_⟩
    · intro k _ hk _
      have hll := lft_len s b k (by omega)
      have hlr := lft_rise s hbr k
      have hp := pickR_lt (s := s) (left := lftK s b k) (by omega)
      have hRk := hAt k hk
      rw [List.getD_eq_getElem?_getD, List.getElem?_eq_getElem hp, Option.getD_some] at hRk
      have hnx : lftK s b (k + 1) = (lftK s b k).eraseIdx (pickR s (lftK s b k)) := rfl
      have hkm : ∀ x ∈ lftK s b k, keyB x = true := fun x hx => hbk x (lft_mem s k hx)
      have hle := fun j (hj : j < (lftK s b k).length) => pick_least (s := s) (rise_nd hlr) hj
      generalize lftK s b k = l at *
      generalize pickR s l = i at *
      have hlm : (l.map encS).length = l.length := List.length_map ..
      have hix : idxP (fun x => decide (R[k] = x)) l = (i : Int) := by rw [hRk]; exact idx_pick (rise_nd hlr) hp
      have ci := indexSr_pc R[k] l (by omega)
      rw [hix] at ci
      have hel : ∀ j, (l.eraseIdx j).length ≤ l.length := fun j => List.length_eraseIdx_le l j
      have hels : ∀ j, elsFault (l.eraseIdx j) = 0 := fun j => els_sub (erase_rise hlr j) (by have := hel j; omega) (fun x hx => hkm x (List.mem_of_mem_eraseIdx hx))
      have cA := fun j => fAffected_pc s h0 (l.eraseIdx j) (by have := hel j; omega)
      simp only [hels, if_true] at cA
      conv => whnf
      repeat' (first | ((first | refine Split.mk (fun h => ?_) (fun h => ?_) | refine CondG.mk (fun h => ?_) (fun h => ?_)) <;> (try simp only [decide_eq_true_eq, decide_eq_false_iff_not, Bool.not_eq_true', Bool.not_eq_false', beq_iff_eq, beq_eq_false_iff_ne, bne_iff_ne, bne_eq_false_iff_eq] at h) <;> (first | (exfalso; first | omega | exact h trivial) | (conv => whnf))) | (refine CallX.mk _ _ (by first | exact ci | exact cloneSr_pc l (by omega) | exact delS_pc l i hp (by omega) _ (by rw [wrap_succ hp (by omega)]) | exact cA i) ?_; conv => whnf) | (refine CallG.mk _ _ (by first | exact ci | exact cloneSr_pc l (by omega) | exact delS_pc l i hp (by omega) _ (by rw [wrap_succ hp (by omega)]) | exact cA i) ?_; conv => whnf) | (refine Ask.mk (by first | omega | (unfold roomOK; simp [cutRows]; done) | (unfold roomOK; simp [cutRows]; omega) | (simp [cutRows]; done) | (simp [cutRows]; omega)) ?_; conv => whnf) | (refine AppG.mk (by first | omega | (unfold roomOK; simp [cutRows]; done) | (unfold roomOK; simp [cutRows]; omega) | (simp [cutRows]; done) | (simp [cutRows]; omega)) ?_; conv => whnf) | (refine SliceG.fr ?_; conv => whnf) | (refine idx_at _ (by with_reducible rfl) (by first | assumption | omega) ?_; conv => whnf) | ((with_reducible refine row_map (by first | assumption | omega) ?_); conv => whnf) | ((with_reducible refine row_set (by first | assumption | omega | (simp only [List.length_set]; omega) | (simp; omega)) ?_); conv => whnf) | fail)
      refine loop_for (l.length) [] [4, 9, 12, 14, 15, 59, 60, 61, 81, 82] (fun k (_ : Unit) => [(82, .c (.int .i64 (k : Int)))]) (fun k (_ : Unit) => []) (fun k (_ : Unit) => True) (()) ?_
      conv => whnf
      refine ⟨(by first | rfl | (simp; done) | (simp; rfl)), (by trivial), ?_, ?_⟩
      · intro j _ hj _
        have hlj := hle j hj
        conv => whnf
        repeat' (first | ((first | refine Split.mk (fun h => ?_) (fun h => ?_) | refine CondG.mk (fun h => ?_) (fun h => ?_)) <;> (try simp only [decide_eq_true_eq, decide_eq_false_iff_not, Bool.not_eq_true', Bool.not_eq_false', beq_iff_eq, beq_eq_false_iff_ne, bne_iff_ne, bne_eq_false_iff_eq] at h) <;> (first | (exfalso; first | omega | exact h trivial | contradiction | (simp_all [eqRes]; done)) | (conv => whnf))) | (refine CallX.mk _ _ (by first | exact cloneSr_pc l (by omega) | exact delS_pc l j hj (by omega) _ (by rw [wrap_succ hj (by omega)]) | exact cA j | exact kerrs_pc [0, 0] (by decide)) ?_; conv => whnf) | (refine CallG.mk _ _ (by first | exact cloneSr_pc l (by omega) | exact delS_pc l j hj (by omega) _ (by rw [wrap_succ hj (by omega)]) | exact cA j | exact kerrs_pc [0, 0] (by decide)) ?_; conv => whnf) | (refine Ask.mk (by first | omega | (unfold roomOK; simp [cutRows]; done) | (unfold roomOK; simp [cutRows]; omega) | (simp [cutRows]; done) | (simp [cutRows]; omega)) ?_; conv => whnf) | (refine AppG.mk (by first | omega | (unfold roomOK; simp [cutRows]; done) | (unfold roomOK; simp [cutRows]; omega) | (simp [cutRows]; done) | (simp [cutRows]; omega)) ?_; conv => whnf) | (refine SliceG.fr ?_; conv => whnf) | (refine idx_at _ (by with_reducible rfl) (by first | assumption | omega) ?_; conv => whnf) | ((with_reducible refine row_map (by first | assumption | omega) ?_); conv => whnf) | ((with_reducible refine row_set (by first | assumption | omega | (simp only [List.length_set]; omega) | (simp; omega)) ?_); conv => whnf) | fail)
        exact count_next () hj (by rw [wrap_succ hj (by omega)]; rfl) trivial
      · intro _ _
        conv => whnf
        repeat' (first | ((first | refine Split.mk (fun h => ?_) (fun h => ?_) | refine CondG.mk (fun h => ?_) (fun h => ?_)) <;> (try simp only [decide_eq_true_eq, decide_eq_false_iff_not, Bool.not_eq_true', Bool.not_eq_false', beq_iff_eq, beq_eq_false_iff_ne, bne_iff_ne, bne_eq_false_iff_eq] at h) <;> (first | (exfalso; first | omega | exact h trivial) | (conv => whnf))) | (refine CallX.mk _ _ (by first | exact delS_pc l i hp (by omega) _ (by rw [wrap_succ hp (by omega)])) ?_; conv => whnf) | (refine CallG.mk _ _ (by first | exact delS_pc l i hp (by omega) _ (by rw [wrap_succ hp (by omega)])) ?_; conv => whnf) | (refine Ask.mk (by first | omega | (unfold roomOK; simp [cutRows]; done) | (unfold roomOK; simp [cutRows]; omega) | (simp [cutRows]; done) | (simp [cutRows]; omega)) ?_; conv => whnf) | (refine AppG.mk (by first | omega | (unfold roomOK; simp [cutRows]; done) | (unfold roomOK; simp [cutRows]; omega) | (simp [cutRows]; done) | (simp [cutRows]; omega)) ?_; conv => whnf) | (refine SliceG.fr ?_; conv => whnf) | (refine idx_at _ (by with_reducible rfl) (by first | assumption | omega) ?_; conv => whnf) | ((with_reducible refine row_map (by first | assumption | omega) ?_); conv => whnf) | ((with_reducible refine row_set (by first | assumption | omega | (simp only [List.length_set]; omega) | (simp; omega)) ?_); conv => whnf) | fail)
        exact count_next () hk (by rw [wrap_succ hk (by omega), ← hnx]; rfl) trivial
    · intro _ _
      conv => whnf
      repeat' (first | ((first | refine Split.mk (fun h => ?_) (fun h => ?_) | refine CondG.mk (fun h => ?_) (fun h => ?_)) <;> (try simp only [decide_eq_true_eq, decide_eq_false_iff_not, Bool.not_eq_true', Bool.not_eq_false', beq_iff_eq, beq_eq_false_iff_ne, bne_iff_ne, bne_eq_false_iff_eq] at h) <;> (first | (exfalso; first | omega | exact h trivial) | (conv => whnf))) | (refine CallX.mk _ _ (by first | exact c2) ?_; conv => whnf) | (refine CallG.mk _ _ (by first | exact c2) ?_; conv => whnf) | (refine Ask.mk (by first | omega | (unfold roomOK; simp [cutRows]; done) | (unfold roomOK; simp [cutRows]; omega) | (simp [cutRows]; done) | (simp [cutRows]; omega)) ?_; conv => whnf) | (refine AppG.mk (by first | omega | (unfold roomOK; simp [cutRows]; done) | (unfold roomOK; simp [cutRows]; omega) | (simp [cutRows]; done) | (simp [cutRows]; omega)) ?_; conv => whnf) | (refine SliceG.fr ?_; conv => whnf) | (refine idx_at _ (by with_reducible rfl) (by first | assumption | omega) ?_; conv => whnf) | ((with_reducible refine row_map (by first | assumption | omega) ?_); conv => whnf) | ((with_reducible refine row_set (by first | assumption | omega | (simp only [List.length_set]; omega) | (simp; omega)) ?_); conv => whnf) | fail)
      refine loop_while (fun (i : Nat) => P.length - i) [] [20, 21, 22] (fun (i : Nat) => [(22, .c (.int .i64 (i : Int)))]) (fun (i : Nat) => []) (fun (i : Nat) => 1 ≤ i) (1) ?_
      conv => whnf
      refine ⟨(by first | rfl | (simp; done) | (simp; rfl)), ?_, ?_⟩
      · exact Nat.le_refl _
      · intro i hi
        obtain ⟨j, rfl⟩ : ∃ j, i = j + 1 := ⟨i - 1, by omega⟩
        conv => whnf
        repeat' (first | ((first | refine Split.mk (fun h => ?_) (fun h => ?_) | refine CondG.mk (fun h => ?_) (fun h => ?_)) <;> (try simp only [decide_eq_true_eq, decide_eq_false_iff_not, Bool.not_eq_true', Bool.not_eq_false', beq_iff_eq, beq_eq_false_iff_ne, bne_iff_ne, bne_eq_false_iff_eq] at h) <;> (first | (exfalso; first | omega | exact h trivial) | (conv => whnf))) | (refine CallX.mk _ _ (by first | exact ready_pc) ?_; conv => whnf) | (refine CallG.mk _ _ (by first | exact ready_pc) ?_; conv => whnf) | (refine Ask.mk (by first | omega | (unfold roomOK; simp [cutRows]; done) | (unfold roomOK; simp [cutRows]; omega) | (simp [cutRows]; done) | (simp [cutRows]; omega)) ?_; conv => whnf) | (refine AppG.mk (by first | omega | (unfold roomOK; simp [cutRows]; done) | (unfold roomOK; simp [cutRows]; omega) | (simp [cutRows]; done) | (simp [cutRows]; omega)) ?_; conv => whnf) | (refine SliceG.fr ?_; conv => whnf) | (refine idx_at _ (by with_reducible rfl) (by first | assumption | omega) ?_; conv => whnf) | ((with_reducible refine row_map (by first | assumption | omega) ?_); conv => whnf) | ((with_reducible refine row_set (by first | assumption | omega | (simp only [List.length_set]; omega) | (simp; omega)) ?_); conv => whnf) | fail)
        · have hj : j + 1 < P.length := by omega
          have hw := hadj j hj
          have c5 := cP j (by omega)
          have c6 := cP (j + 1) hj
          refine idx_map (enc := encPs) (l := P) j (by omega) (by rw [wrap_in (by omega) (by omega)]; omega) ?_
          conv => whnf
          repeat' (first | ((first | refine Split.mk (fun h => ?_) (fun h => ?_) | refine CondG.mk (fun h => ?_) (fun h => ?_)) <;> (try simp only [decide_eq_true_eq, decide_eq_false_iff_not, Bool.not_eq_true', Bool.not_eq_false', beq_iff_eq, beq_eq_false_iff_ne, bne_iff_ne, bne_eq_false_iff_eq] at h) <;> (first | (exfalso; first | omega | exact h trivial | contradiction | (simp_all [eqRes]; done)) | (conv => whnf))) | (refine CallX.mk _ _ (by first | exact c5 | exact c6) ?_; conv => whnf) | (refine CallG.mk _ _ (by first | exact c5 | exact c6) ?_; conv => whnf) | (refine Ask.mk (by first | omega | (unfold roomOK; simp [cutRows]; done) | (unfold roomOK; simp [cutRows]; omega) | (simp [cutRows]; done) | (simp [cutRows]; omega)) ?_; conv => whnf) | (refine AppG.mk (by first | omega | (unfold roomOK; simp [cutRows]; done) | (unfold roomOK; simp [cutRows]; omega) | (simp [cutRows]; done) | (simp [cutRows]; omega)) ?_; conv => whnf) | (refine SliceG.fr ?_; conv => whnf) | (refine idx_at _ (by with_reducible rfl) (by first | assumption | omega) ?_; conv => whnf) | ((with_reducible refine row_map (by first | assumption | omega) ?_); conv => whnf) | ((with_reducible refine row_set (by first | assumption | omega | (simp only [List.length_set]; omega) | (simp; omega)) ?_); conv => whnf) | ((refine idx_map (enc := encPs) (l := P) j (by omega) (by rw [wrap_in (by omega) (by omega)]; omega) ?_); conv => whnf) | fail)
          all_goals first | exact meas_next (j + 1 + 1) (by omega) (by rw [wrap_succ hj (by omega)]; rfl) (by omega) | skip
          have q1 := hw.2 (by assumption)
          have q2 : ltB (P[j]'(by omega)).1 P[j + 1].1 = false := by assumption
          rw [q2] at q1
          cases q1
        · exact finb rfl
  · have c3 := repairs_bad s hx6 b (by omega) (by omega)
    rw [hse] at c3
    conv => whnf
    repeat' (first | ((first | refine Split.mk (fun h => ?_) (fun h => ?_) | refine CondG.mk (fun h => ?_) (fun h => ?_)) <;> (try simp only [decide_eq_true_eq, decide_eq_false_iff_not, Bool.not_eq_true', Bool.not_eq_false', beq_iff_eq, beq_eq_false_iff_ne, bne_iff_ne, bne_eq_false_iff_eq] at h) <;> (first | (exfalso; first | omega | exact h trivial | contradiction | (simp_all [eqRes]; done)) | (conv => whnf))) | (refine CallX.mk _ _ (by first | exact c3 | exact rSetFault_pc b | exact ready_pc) ?_; conv => whnf) | (refine CallG.mk _ _ (by first | exact c3 | exact rSetFault_pc b | exact ready_pc) ?_; conv => whnf) | (refine Ask.mk (by first | omega | (unfold roomOK; simp [cutRows]; done) | (unfold roomOK; simp [cutRows]; omega) | (simp [cutRows]; done) | (simp [cutRows]; omega)) ?_; conv => whnf) | (refine AppG.mk (by first | omega | (unfold roomOK; simp [cutRows]; done) | (unfold roomOK; simp [cutRows]; omega) | (simp [cutRows]; done) | (simp [cutRows]; omega)) ?_; conv => whnf) | (refine SliceG.fr ?_; conv => whnf) | (refine idx_at _ (by with_reducible rfl) (by first | assumption | omega) ?_; conv => whnf) | ((with_reducible refine row_map (by first | assumption | omega) ?_); conv => whnf) | ((with_reducible refine row_set (by first | assumption | omega | (simp only [List.length_set]; omega) | (simp; omega)) ?_); conv => whnf) | fail)
    all_goals exact finb rfl
end Go.Proofs.YtdljolmiclbolaaGreatDoor
