/- Rules and plans are made, lists compared. -/
import Derived.Test.YtmpjgbanmdgooaaC7
namespace Go.Proofs.Ytmpjgbanmdgooaa
set_option linter.unusedVariables false
set_option linter.unusedSimpArgs false
open Abs

def cutV (L : List Int) (p : Int) : (Int × Int) × Int :=
  if nextV L (p + 1 + 1) 15 == 0 then ((pickV L (p + 1 + 1 + 1) [0, -1, 1000, 1001], pickV L (p + 1 + 1 + 1 + 1) [5, -1, 1001]), p + 1 + 1 + 1 + 1 + 1)
  else ((pickV L p [0, 1, 1, 5], pickV L (p + 1) [0, 10, 20, 40]), p + 1 + 1 + 1)
set_option maxRecDepth 100000 in
set_option maxHeartbeats 4000000 in
theorem aCut_pc {L : List Int} {p : Int} (hst : StOk L p) (hp : p ≤ 800000000) :
    PCp 34 [.c (.ptr 0 0)] [stO L p] (.agg [.int .i64 (cutV L p).1.1, .int .i64 (cutV L p).1.2]) [stO L (cutV L p).2] := by
  have h2 : ∀ x : Int, p ≤ x → x ≤ p + 10 → StOk L x := fun x h3 h4 => ⟨hst.1, by have := hst.2.1; omega, by omega⟩
  refine fn_sound (mt := mts) tab_fits tab_mixed Try.func34 (by rfl) (by kernel_rfl) (by kernel_rfl) Try.results34 (Nat.le_of_ble_eq_true (by kernel_rfl)) ?_
  conv => whnf
  repeat' (first
    | (refine Split.mk (fun h => ?_) (fun h => ?_) <;> (try simp only [decide_eq_true_eq, decide_eq_false_iff_not, Bool.not_eq_true', Bool.not_eq_false', beq_iff_eq, beq_eq_false_iff_ne] at h) <;> (first | (exfalso; first | omega | exact h trivial) | (conv => whnf)))
    | (refine CondG.mk (fun h => ?_) (fun h => ?_) <;> (try simp only [decide_eq_true_eq, decide_eq_false_iff_not, Bool.not_eq_true', Bool.not_eq_false', beq_iff_eq, beq_eq_false_iff_ne] at h) <;> (first | (exfalso; first | omega | exact h trivial) | (conv => whnf)))
    | (refine CallX.mk _ _ (by first | exact pick_ok hst [0, 1, 1, 5] (by decide) (by decide) | exact pick_ok (h2 (p + 1) (by omega) (by omega)) [0, 10, 20, 40] (by decide) (by decide) | exact flip_ok (h2 (p + 1 + 1) (by omega) (by omega)) 15 (by omega) | exact pick_ok (h2 (p + 1 + 1 + 1) (by omega) (by omega)) [0, -1, 1000, 1001] (by decide) (by decide) | exact pick_ok (h2 (p + 1 + 1 + 1 + 1) (by omega) (by omega)) [5, -1, 1001] (by decide) (by decide)) ?_; conv => whnf)
    | (refine CallG.mk _ _ (by first | exact pick_ok hst [0, 1, 1, 5] (by decide) (by decide) | exact pick_ok (h2 (p + 1) (by omega) (by omega)) [0, 10, 20, 40] (by decide) (by decide) | exact flip_ok (h2 (p + 1 + 1) (by omega) (by omega)) 15 (by omega) | exact pick_ok (h2 (p + 1 + 1 + 1) (by omega) (by omega)) [0, -1, 1000, 1001] (by decide) (by decide) | exact pick_ok (h2 (p + 1 + 1 + 1 + 1) (by omega) (by omega)) [5, -1, 1001] (by decide) (by decide)) ?_; conv => whnf)
    | (refine Ask.mk (by first | omega | (unfold roomOK; simp [cutRows]; done) | (unfold roomOK; simp [cutRows]; omega)) ?_; conv => whnf)
    | (refine SliceG.fr ?_; conv => whnf)
    | fail)
  · have h' : (nextV L (p + 1 + 1) 15 == 0) = true := by simpa using h
    exact .mk ⟨by rw [cutV, if_pos h']; rfl, by rw [cutV, if_pos h']⟩
  · have h' : ¬ (nextV L (p + 1 + 1) 15 == 0) = true := by simpa using h
    exact .mk ⟨by rw [cutV, if_neg h']; rfl, by rw [cutV, if_neg h']⟩

/-- the cuts of a plan that is made -/
def cutsV (L : List Int) (nd : Nat) (p : Int) (n : Nat) : List Int := (List.range n).map fun (i : Nat) => rangeV L (p + i) (-1) (nd - 1)
theorem cutsV_succ (L : List Int) (nd : Nat) (p : Int) (n : Nat) : cutsV L nd p (n + 1) = cutsV L nd p n ++ [rangeV L (p + n) (-1) (nd - 1)] := by
  simp [cutsV, List.range_succ]
theorem cutsV_len (L : List Int) (nd : Nat) (p : Int) (n : Nat) : (cutsV L nd p n).length = n := by simp [cutsV]
def planV (L : List Int) (p : Int) (nd n : Nat) : List Int × Int :=
  if nextV L (p + n) 12 == 0 then (cutsV L nd p n ++ [pickV L (p + n + 1) [0, -2, nd]], p + n + 1 + 1) else (cutsV L nd p n, p + n + 1)
set_option maxRecDepth 100000 in
set_option maxHeartbeats 4000000 in
theorem aPlan_pc {L : List Int} {p : Int} (hst : StOk L p) (hp : p ≤ 800000000) (d : List Pc) (n : Nat) (hd : d.length ≤ 1000000) (hn : n ≤ 1000000) :
    PCp 35 [.c (.ptr 0 0), .c (.lst 3 (d.map encPc)), .c (.int .i64 n)] [stO L p] (.c (.row 1)) [stO L (planV L p d.length n).2, .row 3 1 ((planV L p d.length n).1.map encI)] := by
  have hld : (d.map encPc).length = d.length := List.length_map ..
  have h2 : ∀ x : Int, p ≤ x → x ≤ p + 2000000 → StOk L x := fun x h3 h4 => ⟨hst.1, by have := hst.2.1; omega, by omega⟩
  refine fn_sound (mt := mts) tab_fits tab_mixed Try.func35 (by rfl) (by kernel_rfl) (by kernel_rfl) Try.results35 (Nat.le_of_ble_eq_true (by kernel_rfl)) ?_
  conv => whnf
  refine loop_count (n) [.sl 7 3 1] [0, 1, 7, 8, 9] (fun k (_ : Unit) => ⟨[(0, .c (.ptr 0 0)), (1, .c (.lst 3 (d.map encPc))), (7, .c (.row 1)), (8, .c (.int .i64 n)), (9, .c (.int .i64 k))], [(0, stO L (p + k)), (1, .row 3 1 ((cutsV L d.length p k).map encI))], 2⟩) (fun k (_ : Unit) => True) (()) ?_ ?_ ?_
  · conv => whnf
    exact ⟨by simp only [Int.add_zero, Int.ofNat_zero, Int.natCast_zero]; rfl, trivial⟩
  · intro k _ hk _
    have hcl := cutsV_len L d.length p k
    conv => whnf
    refine .mk (fun _ => ?_) (fun h => ?_)
    rotate_left
    · simp at h; omega
    have hw : IntKind.i64.wrap (((d.map encPc).length : Nat) - 1 : Int) = (d.length : Int) - 1 := by rw [hld]; exact wrap_in (by omega) (by omega)
    conv => whnf
    repeat' (first
      | (refine Split.mk (fun h => ?_) (fun h => ?_) <;> (try simp only [decide_eq_true_eq, decide_eq_false_iff_not, Bool.not_eq_true', Bool.not_eq_false', beq_iff_eq, beq_eq_false_iff_ne] at h) <;> (first | (exfalso; first | omega | exact h trivial) | (conv => whnf)))
      | (refine CondG.mk (fun h => ?_) (fun h => ?_) <;> (try simp only [decide_eq_true_eq, decide_eq_false_iff_not, Bool.not_eq_true', Bool.not_eq_false', beq_iff_eq, beq_eq_false_iff_ne] at h) <;> (first | (exfalso; first | omega | exact h trivial) | (conv => whnf)))
      | (refine CallX.mk _ _ (by first | exact (by rw [hw]; exact range_ok (h2 (p + k) (by omega) (by omega)) (-1) (d.length - 1) (by omega) (by unfold small; omega) (by unfold small; omega))) ?_; conv => whnf)
      | (refine CallG.mk _ _ (by first | exact (by rw [hw]; exact range_ok (h2 (p + k) (by omega) (by omega)) (-1) (d.length - 1) (by omega) (by unfold small; omega) (by unfold small; omega))) ?_; conv => whnf)
      | (refine Ask.mk (by first | omega | (unfold roomOK; simp [cutRows]; done) | (unfold roomOK; simp [cutRows]; omega)) ?_; conv => whnf)
      | (refine SliceG.fr ?_; conv => whnf)
      | fail)
    refine count_next () hk (by rw [wrap_succ hk (by omega), cutsV_succ, show p + (k : Int) + 1 = p + ((k + 1 : Nat) : Int) by omega]; simp only [List.map_append]; rfl) trivial
  · intro _ _
    have hcl := cutsV_len L d.length p n
    have hcm : ((cutsV L d.length p n).map encI).length = n := by simp [hcl]
    conv => whnf
    repeat' (first
      | (refine Split.mk (fun h => ?_) (fun h => ?_) <;> (try simp only [decide_eq_true_eq, decide_eq_false_iff_not, Bool.not_eq_true', Bool.not_eq_false', beq_iff_eq, beq_eq_false_iff_ne] at h) <;> (first | (exfalso; first | omega | exact h trivial) | (conv => whnf)))
      | (refine CondG.mk (fun h => ?_) (fun h => ?_) <;> (try simp only [decide_eq_true_eq, decide_eq_false_iff_not, Bool.not_eq_true', Bool.not_eq_false', beq_iff_eq, beq_eq_false_iff_ne] at h) <;> (first | (exfalso; first | omega | exact h trivial) | (conv => whnf)))
      | (refine CallX.mk _ _ (by first | exact flip_ok (h2 (p + n) (by omega) (by omega)) 12 (by omega) | exact pick_ok (h2 (p + n + 1) (by omega) (by omega)) [0, -2, (d.map encPc).length] (by simp) (by simp)) ?_; conv => whnf)
      | (refine CallG.mk _ _ (by first | exact flip_ok (h2 (p + n) (by omega) (by omega)) 12 (by omega) | exact pick_ok (h2 (p + n + 1) (by omega) (by omega)) [0, -2, (d.map encPc).length] (by simp) (by simp)) ?_; conv => whnf)
      | (refine Ask.mk (by first | omega | (unfold roomOK; simp [cutRows]; done) | (unfold roomOK; simp [cutRows]; omega)) ?_; conv => whnf)
      | (refine SliceG.fr ?_; conv => whnf)
      | fail)
    · have h' : (nextV L (p + n) 12 == 0) = true := by simpa using h
      exact .mk ⟨rfl, by rw [planV, if_pos h', hld]; simp only [List.map_append]; try rfl⟩
    · have h' : ¬ (nextV L (p + n) 12 == 0) = true := by simpa using h
      exact .mk ⟨rfl, by rw [planV, if_neg h']; try rfl⟩
set_option maxRecDepth 100000 in
set_option maxHeartbeats 4000000 in
theorem eqI_pc (a b : List Int) (ha : a.length ≤ 1000000) (hb : b.length ≤ 1000000) : PCp 48 [.c (.lst 1 (a.map encI)), .c (.lst 1 (b.map encI))] [] (.c (.bool (decide (a = b)))) [] := by
  have hla : (a.map encI).length = a.length := List.length_map ..
  have hlb : (b.map encI).length = b.length := List.length_map ..
  refine fn_sound (mt := mts) tab_fits tab_mixed Try.func48 (by rfl) (by kernel_rfl) (by kernel_rfl) Try.results48 (Nat.le_of_ble_eq_true (by kernel_rfl)) ?_
  conv => whnf
  repeat' (first
    | (refine Split.mk (fun h => ?_) (fun h => ?_) <;> (try simp only [decide_eq_true_eq, decide_eq_false_iff_not, Bool.not_eq_true', Bool.not_eq_false', beq_iff_eq, beq_eq_false_iff_ne] at h) <;> (first | (exfalso; first | omega | exact h trivial) | (conv => whnf)))
    | (refine CondG.mk (fun h => ?_) (fun h => ?_) <;> (try simp only [decide_eq_true_eq, decide_eq_false_iff_not, Bool.not_eq_true', Bool.not_eq_false', beq_iff_eq, beq_eq_false_iff_ne] at h) <;> (first | (exfalso; first | omega | exact h trivial) | (conv => whnf)))
    | (refine Ask.mk (by first | omega | (unfold roomOK; simp [cutRows]; done) | (unfold roomOK; simp [cutRows]; omega)) ?_; conv => whnf)
    | (refine SliceG.fr ?_; conv => whnf)
    | fail)
  · exact finb (by rw [eq_comm, decide_eq_false_iff_not]; intro e; subst e; simp at h)
  have hl : a.length = b.length := by simp at h; omega
  refine loop_count (a.length) [] [0, 1, 12, 13] (fun k (_ : Unit) => ⟨[(0, .c (.lst 1 (a.map encI))), (1, .c (.lst 1 (b.map encI))), (12, .c (.int .i64 (a.map encI).length)), (13, .c (.int .i64 k))], [], 0⟩) (fun k (_ : Unit) => a.take k = b.take k) (()) ?_ ?_ ?_
  · conv => whnf
    exact ⟨rfl, rfl⟩
  · intro k _ hk hi
    conv => whnf
    repeat' (first
      | (refine Split.mk (fun h => ?_) (fun h => ?_) <;> (try simp only [decide_eq_true_eq, decide_eq_false_iff_not, Bool.not_eq_true', Bool.not_eq_false', beq_iff_eq, beq_eq_false_iff_ne] at h) <;> (first | (exfalso; first | omega | exact h trivial) | (conv => whnf)))
      | (refine CondG.mk (fun h => ?_) (fun h => ?_) <;> (try simp only [decide_eq_true_eq, decide_eq_false_iff_not, Bool.not_eq_true', Bool.not_eq_false', beq_iff_eq, beq_eq_false_iff_ne] at h) <;> (first | (exfalso; first | omega | exact h trivial) | (conv => whnf)))
      | (refine Ask.mk (by first | omega | (unfold roomOK; simp [cutRows]; done) | (unfold roomOK; simp [cutRows]; omega)) ?_; conv => whnf)
      | (refine SliceG.fr ?_; conv => whnf)
      | fail)
    refine idx_map k hk rfl ?_
    conv => whnf
    refine idx_map k (by omega) rfl ?_
    conv => whnf
    repeat' (first
      | (refine Split.mk (fun h => ?_) (fun h => ?_) <;> (try simp only [decide_eq_true_eq, decide_eq_false_iff_not, Bool.not_eq_true', Bool.not_eq_false', beq_iff_eq, beq_eq_false_iff_ne] at h) <;> (first | (exfalso; first | omega | exact h trivial) | (conv => whnf)))
      | (refine CondG.mk (fun h => ?_) (fun h => ?_) <;> (try simp only [decide_eq_true_eq, decide_eq_false_iff_not, Bool.not_eq_true', Bool.not_eq_false', beq_iff_eq, beq_eq_false_iff_ne] at h) <;> (first | (exfalso; first | omega | exact h trivial) | (conv => whnf)))
      | (refine Ask.mk (by first | omega | (unfold roomOK; simp [cutRows]; done) | (unfold roomOK; simp [cutRows]; omega)) ?_; conv => whnf)
      | (refine SliceG.fr ?_; conv => whnf)
      | fail)
    · exact finb (by rw [eq_comm, decide_eq_false_iff_not]; intro e; subst e; simp at h)
    · refine count_next () hk (by rw [wrap_succ hk (by omega)]; rfl) ?_
      rw [List.take_succ_eq_append_getElem hk, List.take_succ_eq_append_getElem (by omega), hi, show a[k] = b[k] by simpa using h]
  · intro _ hi
    conv => whnf
    repeat' (first
      | (refine Split.mk (fun h => ?_) (fun h => ?_) <;> (try simp only [decide_eq_true_eq, decide_eq_false_iff_not, Bool.not_eq_true', Bool.not_eq_false', beq_iff_eq, beq_eq_false_iff_ne] at h) <;> (first | (exfalso; first | omega | exact h trivial) | (conv => whnf)))
      | (refine CondG.mk (fun h => ?_) (fun h => ?_) <;> (try simp only [decide_eq_true_eq, decide_eq_false_iff_not, Bool.not_eq_true', Bool.not_eq_false', beq_iff_eq, beq_eq_false_iff_ne] at h) <;> (first | (exfalso; first | omega | exact h trivial) | (conv => whnf)))
      | (refine Ask.mk (by first | omega | (unfold roomOK; simp [cutRows]; done) | (unfold roomOK; simp [cutRows]; omega)) ?_; conv => whnf)
      | (refine SliceG.fr ?_; conv => whnf)
      | fail)
    exact finb (by
      rw [List.take_length, hl, List.take_length] at hi
      simp [hi])
end Go.Proofs.Ytmpjgbanmdgooaa
