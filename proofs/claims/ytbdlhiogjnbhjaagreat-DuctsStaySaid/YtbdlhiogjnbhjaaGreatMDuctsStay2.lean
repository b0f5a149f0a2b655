/- Parts of the proof, in order. -/
import Derived.Test.YtbdlhiogjnbhjaaGreatMDuctsStay1

namespace Go.Proofs.YtbdlhiogjnbhjaaGreat
set_option linter.unusedVariables false
set_option linter.unusedSimpArgs false
open Abs

set_option maxRecDepth 100000 in
set_option maxHeartbeats 4000000 in
theorem dOuterFault_pc (n : Int) : PCp 55 [.c (.int .i64 n)] [] (.c (.int .i64 (if n < 1 ∨ 1000 < n then 1 else 0))) [] := by
  refine fn_sound (mt := mts) tab_fits tab_mixed Tryz.func55 (by rfl) (by kernel_rfl) (by kernel_rfl) Tryz.results55 (Nat.le_of_ble_eq_true (by kernel_rfl)) ?_
  conv => whnf
  repeat' (first | (refine CondG.mk (fun h => ?_) (fun h => ?_) <;> (try simp only [decide_eq_true_eq, decide_eq_false_iff_not, Bool.not_eq_true', Bool.not_eq_false', beq_iff_eq, beq_eq_false_iff_ne, bne_iff_ne, bne_eq_false_iff_eq] at h) <;> (first | (exfalso; first | omega | exact h trivial) | (conv => whnf))) | (refine  CallX.mk _ _ (by exact bOut_pc _ _ _) ?_; conv => whnf) | fail)
  all_goals exact fini (by simp_all <;> omega)
set_option maxRecDepth 100000 in
set_option maxHeartbeats 4000000 in
theorem ixIK_pc (key : Int) (g : Nat) (p : Int → Bool) (l : List Int) (hl : l.length ≤ 1000000) (hg : ∀ x ∈ l, PCp g [.c (.int .i64 x), .c (.ptr 0 0)] [.box [.int .i64 key]] (.c (.bool (p x))) [.box [.int .i64 key]]) : PCp 180 [.c (.lst 1 (l.map encI)), .c (.fn g [.ptr 0 0])] [.box [.int .i64 key]] (.c (.int .i64 (idxP p l))) [.box [.int .i64 key]] := by
  have hlm : (l.map encI).length = l.length := List.length_map ..
  refine fn_sound (mt := mts) tab_fits tab_mixed Tryz.func180 (by rfl) (by kernel_rfl) (by kernel_rfl) Tryz.results180 (Nat.le_of_ble_eq_true (by kernel_rfl)) ?_
  conv => whnf
  refine loop_count (l.length) [] [0, 1, 7, 8] (fun k (_ : Unit) => ⟨[(0, .c (.lst 1 (l.map encI))), (1, .c (.fn g [.ptr 0 0])), (7, .c (.int .i64 (l.map encI).length)), (8, .c (.int .i64 k))], [(0, .box [.int .i64 key])], 1⟩) (fun k (_ : Unit) => ∀ i (hi : i < l.length), i < k → p l[i] = false) (()) ?_ ?_ ?_
  · conv => whnf
    exact ⟨rfl, by intro i hi h; omega⟩
  · intro k _ hk hi
    conv => whnf
    repeat' (first | (refine CondG.mk (fun h => ?_) (fun h => ?_) <;> (try simp only [decide_eq_true_eq, decide_eq_false_iff_not, Bool.not_eq_true', Bool.not_eq_false', beq_iff_eq, beq_eq_false_iff_ne, bne_iff_ne, bne_eq_false_iff_eq] at h) <;> (first | (exfalso; first | omega | exact h trivial) | (conv => whnf))) | (refine  CallX.mk _ _ (by exact hg l[k] (List.getElem_mem hk)) ?_; conv => whnf) | (refine idx_at _ (by with_reducible rfl) (by first | assumption | omega) ?_; conv => whnf) | fail)
    · exact .mk ⟨by rw [idxP_hit hk (fun i hi' => hi i (by omega) hi') h]; rfl, rfl⟩
    · refine count_next () hk (by rw [wrap_succ hk (by omega)]; rfl) ?_
      exact all_succ' hi h
  · intro _ hi
    conv => whnf
    repeat' (first | (refine CondG.mk (fun h => ?_) (fun h => ?_) <;> (try simp only [decide_eq_true_eq, decide_eq_false_iff_not, Bool.not_eq_true', Bool.not_eq_false', beq_iff_eq, beq_eq_false_iff_ne] at h) <;> (first | (exfalso; first | omega | exact h trivial) | (conv => whnf))) | fail)
    exact .mk ⟨by rw [idxP_miss (fun i h => hi i h h)]; rfl, rfl⟩
set_option maxRecDepth 100000 in
set_option maxHeartbeats 4000000 in
theorem ixIKC_pc (key : Int) (g : Nat) (p : Int → Bool) (l : List Int) (hl : l.length ≤ 1000000) (hg : ∀ x ∈ l, PCp g [.c (.int .i64 x), .c (.ptr 0 0)] [.box [.int .i64 key]] (.c (.bool (p x))) [.box [.int .i64 key]]) : PCp 144 [.c (.lst 1 (l.map encI)), .c (.fn g [.ptr 0 0])] [.box [.int .i64 key]] (.c (.bool (l.any p))) [.box [.int .i64 key]] := by
  refine fn_sound (mt := mts) tab_fits tab_mixed Tryz.func144 (by rfl) (by kernel_rfl) (by kernel_rfl) Tryz.results144 (Nat.le_of_ble_eq_true (by kernel_rfl)) ?_
  conv => whnf
  repeat' (first | (refine  CallX.mk _ _ (by exact ixIK_pc key g p l hl hg) ?_; conv => whnf) | fail)
  exact .mk ⟨by rw [← idxP_any]; rfl, rfl⟩
set_option maxRecDepth 100000 in
set_option maxHeartbeats 4000000 in
theorem room1_pc (n inner : Int) : PCp 145 [.c (.int .i64 n), .c (.ptr 0 0)] [.box [.int .i64 inner]] (.c (.bool (decide (inner < n)))) [.box [.int .i64 inner]] := by
  refine fn_sound (mt := mts) tab_fits tab_mixed Tryz.func145 (by rfl) (by kernel_rfl) (by kernel_rfl) Tryz.results145 (Nat.le_of_ble_eq_true (by kernel_rfl)) ?_
  conv => whnf
  skip
  exact .mk ⟨rfl, rfl⟩
set_option maxRecDepth 100000 in
set_option maxHeartbeats 4000000 in
theorem part_pc (n : Nat) : PCp 143 [.c (.int .i64 (n : Int))] [] (.c (.int .i64 (partV n))) [] := by
  refine fn_sound (mt := mts) tab_fits tab_mixed Tryz.func143 (by rfl) (by kernel_rfl) (by kernel_rfl) Tryz.results143 (Nat.le_of_ble_eq_true (by kernel_rfl)) ?_
  conv => whnf
  repeat' (first | (refine CondG.mk (fun h => ?_) (fun h => ?_) <;> (try simp only [decide_eq_true_eq, decide_eq_false_iff_not, Bool.not_eq_true', Bool.not_eq_false', beq_iff_eq, beq_eq_false_iff_ne, bne_iff_ne, bne_eq_false_iff_eq] at h) <;> (first | (exfalso; first | omega | exact h trivial) | (conv => whnf))) | fail)
  all_goals refine fini ?_
  all_goals unfold partV
  all_goals repeat' split
  all_goals omega
theorem partV_in (n : Nat) : 31 ≤ partV n ∧ partV n ≤ 53 := by
  unfold partV
  repeat' split
  all_goals omega
theorem room_w {inner : Int} {l : List Int} (hi : 1 ≤ inner ∧ inner ≤ 1000) (hl : l.length ≤ 100000) (ho : ∀ x ∈ l, 0 ≤ x ∧ x ≤ 1000) : IntKind.i64.wrap (100 * sqV l) = 100 * sqV l ∧ IntKind.i64.wrap (IntKind.i64.wrap (partV l.length * inner) * inner) = partV l.length * inner * inner ∧ 0 ≤ partV l.length * inner * inner := by
  have h1 := sq_in ho
  have h2 := partV_in l.length
  have h3 : 0 ≤ partV l.length * inner := Int.mul_nonneg (by omega) (by omega)
  have h4 : partV l.length * inner ≤ 53 * 1000 := Int.mul_le_mul (by omega) (by omega) (by omega) (by omega)
  have h5 : 0 ≤ partV l.length * inner * inner := Int.mul_nonneg h3 (by omega)
  have h6 : partV l.length * inner * inner ≤ 53000 * 1000 := Int.mul_le_mul (by omega) (by omega) (by omega) (by omega)
  refine ⟨wrap_in (by omega) (by omega), ?_, h5⟩
  rw [wrap_in (x := partV l.length * inner) (by omega) (by omega), wrap_in (by omega) (by omega)]
set_option maxRecDepth 100000 in
set_option maxHeartbeats 4000000 in
theorem dRoom_pc (inner : Int) (l : List Int) (hi : 1 ≤ inner ∧ inner ≤ 1000) (hl : l.length ≤ 100000) (ho : ∀ x ∈ l, 0 ≤ x ∧ x ≤ 1000) : PCp 90 [.c (.int .i64 inner), .c (.lst 1 (l.map encI))] [] (.c (.bool (roomB inner l))) [] := by
  have hlm : (l.map encI).length = l.length := List.length_map ..
  obtain ⟨w1, w2, _⟩ := room_w hi hl ho
  refine fn_sound (mt := mts) tab_fits tab_mixed Tryz.func90 (by rfl) (by kernel_rfl) (by kernel_rfl) Tryz.results90 (Nat.le_of_ble_eq_true (by kernel_rfl)) ?_
  conv => whnf
  repeat' (first | (refine Split.mk (fun h => ?_) (fun h => ?_) <;> (try simp only [decide_eq_true_eq, decide_eq_false_iff_not, Bool.not_eq_true', Bool.not_eq_false', beq_iff_eq, beq_eq_false_iff_ne, bne_iff_ne, bne_eq_false_iff_eq] at h) <;> (first | (exfalso; first | omega | exact h trivial) | (conv => whnf))) | (refine CallG.mk _ _ (by first | exact dSquares_pc l ho (by omega) | exact (by rw [hlm]; exact part_pc l.length) | exact ixIKC_pc inner 145 (fun n => decide (inner < n)) l (by omega) (fun x _ => room1_pc x inner)) ?_; conv => whnf) | fail)
  all_goals rw [w1, w2] at *
  · refine finb ?_
    unfold roomB; rw [decide_eq_true h, Bool.true_and]
  · refine finb ?_
    unfold roomB; rw [decide_eq_false h, Bool.false_and]
set_option maxRecDepth 100000 in
set_option maxHeartbeats 4000000 in
theorem dMost_pc (x : Du) (all : List Int) (outer : Int) (hi : 1 ≤ x.inner ∧ x.inner ≤ 1000) (hl : all.length ≤ 20) (ho : ∀ y ∈ all, 0 ≤ y ∧ y ≤ 1000) (hq : 0 ≤ outer ∧ outer ≤ 1000) : PCp 77 [.agg (encDu x), .c (.lst 1 (all.map encI)), .c (.int .i64 outer)] [] (.c (.int .i64 (mostV x.inner all outer (20 - all.length) : Nat))) [] := by
  have hlm : (all.map encI).length = all.length := List.length_map ..
  have hin : ∀ n, ∀ y ∈ all ++ List.replicate n outer, 0 ≤ y ∧ y ≤ 1000 := by
    intro n y hy
    rcases List.mem_append.1 hy with h | h
    · exact ho y h
    · rw [(List.mem_replicate.1 h).2]; exact hq
  have hw : IntKind.i64.wrap (20 - ((all.map encI).length : Nat)) = ((20 - all.length : Nat) : Int) := by rw [hlm, wrap_in (by omega) (by omega)]; omega
  refine fn_sound (mt := mts) tab_fits tab_mixed Tryz.func77 (by rfl) (by kernel_rfl) (by kernel_rfl) Tryz.results77 (Nat.le_of_ble_eq_true (by kernel_rfl)) ?_
  conv => whnf
  rw [hw]
  refine loop_while (fun (n : Nat) => n) [] [1, 2, 3, 7] (fun (n : Nat) => [(7, .c (.int .i64 (n : Int)))]) (fun (n : Nat) => []) (fun (n : Nat) => n ≤ 20 - all.length ∧ mostV x.inner all outer n = mostV x.inner all outer (20 - all.length)) (20 - all.length) ?_
  conv => whnf
  refine ⟨(by first | rfl | (simp; done) | (simp; rfl)), ?_, ?_⟩
  · exact ⟨Nat.le_refl _, rfl⟩
  · intro n ⟨h1, h2⟩
    conv => whnf
    repeat' (first | (refine CondG.mk (fun h => ?_) (fun h => ?_) <;> (try simp only [decide_eq_true_eq, decide_eq_false_iff_not, Bool.not_eq_true', Bool.not_eq_false', beq_iff_eq, beq_eq_false_iff_ne, bne_iff_ne, bne_eq_false_iff_eq] at h) <;> (first | (exfalso; first | omega | exact h trivial) | (conv => whnf))) | (refine  CallX.mk _ _ (by exact cloneI_pc all (by omega)) ?_; conv => whnf) | fail)
    · obtain ⟨m, rfl⟩ : ∃ m, n = m + 1 := ⟨n - 1, by omega⟩
      have hlr : ∀ k, k ≤ m + 1 → (all ++ List.replicate k outer).length ≤ 100 := by intro k hk; simp; omega
      refine loop_for (m + 1) [] [1, 2, 3, 7, 8, 18, 19] (fun k (_ : Unit) => [(19, .c (.int .i64 (k : Int)))]) (fun k (_ : Unit) => [(1, .row 3 1 ((all ++ List.replicate k outer).map encI))]) (fun k (_ : Unit) => True) (()) ?_
      conv => whnf
      refine ⟨(by first | rfl | (simp; done) | (simp; rfl)), (by trivial), ?_, ?_⟩
      · intro k _ hk _
        have h3 := hlr k (by omega)
        have h4 : ((all ++ List.replicate k outer).map encI).length ≤ 100 := by rw [List.length_map]; exact h3
        conv => whnf
        repeat' (first | (refine CondG.mk (fun h => ?_) (fun h => ?_) <;> (try simp only [decide_eq_true_eq, decide_eq_false_iff_not, Bool.not_eq_true', Bool.not_eq_false', beq_iff_eq, beq_eq_false_iff_ne, bne_iff_ne, bne_eq_false_iff_eq] at h) <;> (first | (exfalso; first | omega | exact h trivial) | (conv => whnf))) | (refine AppG.mk (by first | omega | (unfold roomOK; simp [cutRows]; done) | (unfold roomOK; simp [cutRows]; omega) | (simp [cutRows]; done) | (simp [cutRows]; omega)) ?_; conv => whnf) | fail)
        exact count_next () hk (by rw [wrap_succ hk (by omega), List.replicate_succ', ← List.append_assoc, List.map_append (l₁ := all ++ List.replicate k outer)]; rfl) trivial
      · intro _ _
        have h3 := hlr (m + 1) (by omega)
        have hR := dRoom_pc x.inner (all ++ List.replicate (m + 1) outer) hi (by omega) (hin _)
        conv => whnf
        repeat' (first | (refine CondG.mk (fun h => ?_) (fun h => ?_) <;> (try simp only [decide_eq_true_eq, decide_eq_false_iff_not, Bool.not_eq_true', Bool.not_eq_false', beq_iff_eq, beq_eq_false_iff_ne, bne_iff_ne, bne_eq_false_iff_eq] at h) <;> (first | (exfalso; first | omega | exact h trivial) | (conv => whnf))) | (refine  CallX.mk _ _ (by exact hR) ?_; conv => whnf) | fail)
        · exact fini (by rw [← h2, mostV, if_pos h])
        · exact meas_next m (by omega) (by rw [show IntKind.i64.wrap (((m + 1 : Nat) : Int) - 1) = (m : Int) by rw [wrap_in (by omega) (by omega)]; omega]; rfl) ⟨by omega, by rw [← h2, mostV, if_neg (by rw [h]; decide)]⟩
    · have : n = 0 := by omega
      subst this
      exact fini (by rw [← h2]; rfl)
theorem roomy_in {all : List Int} {outer : Int} (ho : ∀ y ∈ all, 0 ≤ y ∧ y ≤ 1000) (hq : 0 ≤ outer ∧ outer ≤ 1000) : ∀ y ∈ all ++ [outer], 0 ≤ y ∧ y ≤ 1000 := by
  intro y hy
  rcases List.mem_append.1 hy with h | h
  · exact ho y h
  · simp at h; subst h; exact hq
def fitsV (x : Du) (l : List Ly) (outer : Int) : Bool := decide ((outV l x.key ++ [outer]).length ≤ 20) && roomB x.inner (outV l x.key ++ [outer])
set_option maxRecDepth 100000 in
set_option maxHeartbeats 4000000 in
theorem dFits_pc (d : List Du) (l : List Ly) (hok : LyOk d l) (x : Du) (hx : x ∈ d) (outer : Int) (hq : 0 ≤ outer ∧ outer ≤ 1000) : PCp 58 [.agg (encDu x), .c (.lst 3 (l.map encLy)), .c (.int .i64 outer)] [] (.c (.bool (fitsV x l outer))) [] := by
  have hll := hok.len
  have hi := hok.du.each _ hx
  have hfew := hok.few _ hx
  have hol := outV_len l x.key
  have hm1 : ((outV l x.key).map encI).length = (outV l x.key).length := List.length_map ..
  have hm2 : ((outV l x.key ++ [outer]).map encI).length = (outV l x.key).length + 1 := by simp
  have hR := dRoom_pc x.inner (outV l x.key ++ [outer]) (by omega) (by simp; omega) (roomy_in (hok.o1000 x.key) hq)
  have hap : (outV l x.key).map encI ++ [[.int .i64 outer]] = (outV l x.key ++ [outer]).map encI := by simp [encI]
  have hd : ∀ z : Nat, decide ((z : Int) ≤ 20) = decide (z ≤ 20) := fun z => by rw [decide_eq_decide]; omega
  have hl1 : (outV l x.key ++ [outer]).length = (outV l x.key).length + 1 := by simp
  refine fn_sound (mt := mts) tab_fits tab_mixed Tryz.func58 (by rfl) (by kernel_rfl) (by kernel_rfl) Tryz.results58 (Nat.le_of_ble_eq_true (by kernel_rfl)) ?_
  conv => whnf
  repeat' (first | (refine Split.mk (fun h => ?_) (fun h => ?_) <;> (try simp only [decide_eq_true_eq, decide_eq_false_iff_not, Bool.not_eq_true', Bool.not_eq_false', beq_iff_eq, beq_eq_false_iff_ne, bne_iff_ne, bne_eq_false_iff_eq] at h) <;> (first | (exfalso; first | omega | exact h trivial) | (conv => whnf))) | (refine  CallX.mk _ _ (by first | exact dOuters_pc l (by omega) hok.rl x.key | exact (by rw [← hap] at hR; exact hR)) ?_; conv => whnf) | (refine AppG.mk (by first | omega | (unfold roomOK; simp [cutRows]; done) | (unfold roomOK; simp [cutRows]; omega) | (simp [cutRows]; done) | (simp [cutRows]; omega)) ?_; conv => whnf) | fail)
  all_goals refine finb ?_
  all_goals unfold fitsV
  · rw [decide_eq_true (show (outV l x.key ++ [outer]).length ≤ 20 by simp [cutRows] at h; omega), Bool.true_and]
  · rw [decide_eq_false (show ¬ (outV l x.key ++ [outer]).length ≤ 20 by simp [cutRows] at h; omega), Bool.false_and]
def twoE (d : List Du) (l : List Ly) (k : ByteArray) (outer : Int) : Int := if oneE d l k ≠ 0 then oneE d l k else if outer < 1 ∨ 1000 < outer then 1 else 0
theorem twoE_ok {d : List Du} {l : List Ly} {k : ByteArray} {outer : Int} (h : twoE d l k outer = 0) : oneE d l k = 0 ∧ 0 ≤ outer ∧ outer ≤ 1000 ∧ duV d l k = duG d k := by
  unfold twoE at h
  split at h
  · exact absurd h (by assumption)
  · split at h
    · omega
    · have h1 : oneE d l k = 0 := by omega
      exact ⟨h1, by omega, by omega, by rw [duV, if_pos h1]⟩
theorem twoE_first (d : List Du) (l : List Ly) (k : ByteArray) (outer : Int) : firstErr [oneE d l k, if outer < 1 ∨ 1000 < outer then 1 else 0] = twoE d l k outer := by
  unfold twoE firstErr firstErr firstErr
  repeat' split
  all_goals omega
def mostX (d : List Du) (l : List Ly) (k : ByteArray) (outer : Int) : Nat := if twoE d l k outer = 0 then mostV (duG d k).inner (outV l k) outer (20 - (outV l k).length) else 0
set_option maxRecDepth 100000 in
set_option maxHeartbeats 4000000 in
theorem dMostX_pc (d : List Du) (l : List Ly) (hx : ∀ x ∈ l, x.ducts.length ≤ 1000000) (k : ByteArray) (outer : Int) : PCp 34 [.c (.lst 5 (d.map encDu)), .c (.lst 3 (l.map encLy)), .c (.str k), .c (.int .i64 outer)] [] (.tup [.c (.int .i64 (mostX d l k outer : Nat)), .c (.int .i64 (twoE d l k outer))]) [] := by
  refine fn_sound (mt := mts) tab_fits tab_mixed Tryz.func34 (by rfl) (by kernel_rfl) (by kernel_rfl) Tryz.results34 (Nat.le_of_ble_eq_true (by kernel_rfl)) ?_
  conv => whnf
  repeat' (first | (refine CondG.mk (fun h => ?_) (fun h => ?_) <;> (try simp only [decide_eq_true_eq, decide_eq_false_iff_not, Bool.not_eq_true', Bool.not_eq_false', beq_iff_eq, beq_eq_false_iff_ne, bne_iff_ne, bne_eq_false_iff_eq] at h) <;> (first | (exfalso; first | omega | exact h trivial) | (conv => whnf))) | (refine  CallX.mk _ _ (by first | exact ductOf_pc d l hx k | exact dOuterFault_pc outer | exact first_pc [oneE d l k, if outer < 1 ∨ 1000 < outer then 1 else 0] (by simp)) ?_; conv => whnf) | fail)
  all_goals rw [twoE_first] at *
  · exact .mk ⟨by rw [mostX, if_neg h]; rfl, rfl⟩
  have h : twoE d l k outer = 0 := by simpa using h
  obtain ⟨h1, h2, h3, h4⟩ := twoE_ok h
  obtain ⟨hok, hk, hf⟩ := oneE_ok h1
  obtain ⟨hm, _⟩ := duG_in hok.du hk
  have hi := hok.du.each _ hm
  have hll := hok.len
  rw [h4]
  repeat' (first | (refine CallG.mk _ _ (by first | exact dOuters_pc l (by omega) hok.rl k | exact dMost_pc (duG d k) (outV l k) outer (by omega) (hok.out20 hk) (hok.o1000 k) ⟨h2, h3⟩) ?_; conv => whnf) | fail)
  exact .mk ⟨by rw [mostX, if_pos h, h]; rfl, rfl⟩
end Go.Proofs.YtbdlhiogjnbhjaaGreat

namespace Go.Proofs.YtbdlhiogjnbhjaaGreat
set_option linter.unusedVariables false
set_option linter.unusedSimpArgs false
open Abs

end Go.Proofs.YtbdlhiogjnbhjaaGreat

namespace Go.Proofs.YtbdlhiogjnbhjaaGreat
set_option linter.unusedVariables false
set_option linter.unusedSimpArgs false
open Abs

def lyNames : List ByteArray := [⟨#[107, 49]⟩, ⟨#[107, 50]⟩, ⟨#[107, 51]⟩, ⟨#[107, 52]⟩]
section
variable {d : List Du} {c : List Ly}
end
end Go.Proofs.YtbdlhiogjnbhjaaGreat

namespace Go.Proofs.YtbdlhiogjnbhjaaGreat
set_option linter.unusedVariables false
set_option linter.unusedSimpArgs false
open Abs

def lyNm : List ByteArray := ⟨#[]⟩ :: lyNames
theorem some_nm {L : List Int} {p : Int} {k : ByteArray} (h : k ∈ lyNm) : someV L p [k, ⟨#[]⟩, ⟨#[107, 49]⟩] ∈ lyNm := by
  have := someV_in L p [k, ⟨#[]⟩, ⟨#[107, 49]⟩] (by simp)
  simp only [List.mem_cons, List.not_mem_nil, or_false] at this
  rcases this with e | e | e
  · rw [e]; exact h
  · rw [e]; simp [lyNm]
  · rw [e]; simp [lyNm, lyNames]
end Go.Proofs.YtbdlhiogjnbhjaaGreat

namespace Go.Proofs.YtbdlhiogjnbhjaaGreat
set_option linter.unusedVariables false
set_option linter.unusedSimpArgs false
open Abs

theorem row_lit {N : List ByteArray} {rows : List (List V)} {i : Nat} {k : List V → Prop} (h : rows = N.map encS) (hi : i < N.length) (hk : k (encS (N.getD i ⟨#[]⟩))) : RowG rows i k := by
  subst h
  refine .mk _ (List.getElem?_eq_getElem (by simpa using hi)) ?_
  rw [List.getElem_map]
  rw [List.getD_eq_getElem?_getD, List.getElem?_eq_getElem hi] at hk
  exact hk
structure Gq (α : Type) where
  l : List α
  q : Int
def duKeys : List ByteArray := [⟨#[100, 49]⟩, ⟨#[100, 50]⟩, ⟨#[100, 51]⟩, ⟨#[100, 52]⟩, ⟨#[100, 53]⟩, ⟨#[100, 54]⟩]
def duSites : List ByteArray := [⟨#[97]⟩, ⟨#[98]⟩, ⟨#[99]⟩, ⟨#[101]⟩]
def duOne (L : List Int) (k : Nat) (q : Int) : Du :=
  ⟨duKeys.getD k ⟨#[]⟩, duSites.getD (nextV L (q + 1) 4).toNat ⟨#[]⟩, duSites.getD ((IntKind.i64.wrap (nextV L (q + 1) 4 + rangeV L (q + 1 + 1) 1 3)).tmod 4).toNat ⟨#[]⟩, pickV L (q + 1 + 1 + 1) [10, 10, 20, 30], pickV L (q + 1 + 1 + 1 + 1) [100, 100, 50, 30]⟩
def duStp (L : List Int) (k : Nat) (b : Gq Du) : Gq Du := if nextV L b.q 4 = 0 then ⟨b.l, b.q + 1⟩ else ⟨b.l ++ [duOne L k b.q], b.q + 1 + 1 + 1 + 1 + 1⟩
def duIt (L : List Int) (p : Int) (k : Nat) : Gq Du := iterN (duStp L) k ⟨[], p⟩
theorem duIt_bd (L : List Int) (p : Int) : ∀ k, (duIt L p k).l.length ≤ k ∧ p ≤ (duIt L p k).q ∧ (duIt L p k).q ≤ p + 6 * k
  | 0 => by simp [duIt, iterN]
  | k + 1 => by
    have ih := duIt_bd L p k
    have e : duIt L p (k + 1) = duStp L k (duIt L p k) := rfl
    rw [e]
    generalize duIt L p k = a at *
    unfold duStp
    split <;> simp only [List.length_append, List.length_singleton] <;> omega
def duPos (L : List Int) (d : List Du) (q : Int) : Nat := (nextV L (q + 1) ((d.map encDu).length : Nat)).toNat
def duBad (L : List Int) (x : Du) (q : Int) : Du :=
  ⟨someV L (q + 1 + 1) [x.key, x.key, ⟨#[]⟩, ⟨#[100, 49]⟩], someV L (q + 1 + 1 + 1) [x.a, ⟨#[65]⟩, x.b], someV L (q + 1 + 1 + 1 + 1) [x.b, x.b, ⟨#[]⟩], pickV L (q + 1 + 1 + 1 + 1 + 1) [x.long, 0, 200001], pickV L (q + 1 + 1 + 1 + 1 + 1 + 1) [x.inner, 0, 1001]⟩
def duEnd (L : List Int) (b : Gq Du) : List Du × Int :=
  if 0 < b.l.length then
    if nextV L b.q 12 = 0 then (b.l.set (duPos L b.l b.q) (duBad L (b.l.getD (duPos L b.l b.q) du0) b.q), b.q + 1 + 1 + 1 + 1 + 1 + 1 + 1)
    else (b.l, b.q + 1)
  else (b.l, b.q)
def dcV (L : List Int) (p : Int) : List Du × Int := duEnd L (duIt L p 6)
theorem dcV_bd (L : List Int) (p : Int) : (dcV L p).1.length ≤ 6 ∧ p ≤ (dcV L p).2 ∧ (dcV L p).2 ≤ p + 100 := by
  have h := duIt_bd L p 6
  unfold dcV
  generalize duIt L p 6 = b at *
  unfold duEnd
  (repeat' split) <;> simp only [List.length_set] <;> omega
set_option maxRecDepth 100000 in
set_option maxHeartbeats 4000000 in
theorem rDuctsF_pc {L : List Int} {p : Int} (hst : StOk L p) (hp : p ≤ 800000000) :
    PCp 14 [.c (.ptr 0 0)] [stO L p] (.c (.lst 5 ((dcV L p).1.map encDu))) [stO L (dcV L p).2] := by
  have hS : ∀ x : Int, p ≤ x → x ≤ p + 100 → StOk L x := fun x h3 h4 => ⟨hst.1, by have := hst.2.1; omega, by omega⟩
  have hV : dcV L p = duEnd L (duIt L p 6) := rfl
  rw [hV]
  clear hV
  have hB := duIt_bd L p
  refine fn_sound (mt := mts) tab_fits tab_mixed Tryz.func14 (by rfl) (by kernel_rfl) (by kernel_rfl) Tryz.results14 (Nat.le_of_ble_eq_true (by kernel_rfl)) ?_
  conv => whnf
  refine loop_for (6) [.sl 3 43 5] [0, 3, 8, 9, 10] (fun k (_ : Unit) => [(10, .c (.int .i64 (k : Int)))]) (fun k (_ : Unit) => [(0, stO L (duIt L p k).q), (1, .row 43 5 ((duIt L p k).l.map encDu))]) (fun k (_ : Unit) => True) (()) ?_
  conv => whnf
  refine ⟨(by first | rfl | (simp; done) | (simp; rfl)), (by trivial), ?_, ?_⟩
  · intro k _ hk _
    have hbk := hB k
    have e : duIt L p (k + 1) = duStp L k (duIt L p k) := rfl
    generalize duIt L p k = a at *
    obtain ⟨d, q⟩ := a
    simp only at hbk ⊢
    obtain ⟨h1, h2, h3⟩ := hbk
    have hlm : (d.map encDu).length = d.length := List.length_map ..
    have hQ : ∀ x : Int, q ≤ x → x ≤ q + 14 → StOk L x := fun x h3 h4 => hS x (by omega) (by omega)
    have n4 := nextV_lt L (q + 1) 4 (by omega)
    have r3 := rangeV_in L (q + 1 + 1) 1 3 (by omega)
    have w1 : IntKind.i64.wrap (nextV L (q + 1) 4 + rangeV L (q + 1 + 1) 1 3) = nextV L (q + 1) 4 + rangeV L (q + 1 + 1) 1 3 := wrap_in (by omega) (by omega)
    have t1 := Int.tmod_nonneg 4 (show 0 ≤ nextV L (q + 1) 4 + rangeV L (q + 1 + 1) 1 3 by omega)
    have t2 := Int.tmod_lt_of_pos (nextV L (q + 1) 4 + rangeV L (q + 1 + 1) 1 3) (show (0 : Int) < 4 by omega)
    rw [← w1] at t1 t2
    have hkN : k < duKeys.length := hk
    have hs4 : duSites.length = 4 := rfl
    conv => whnf
    repeat' (first | (refine CondG.mk (fun h => ?_) (fun h => ?_) <;> (try simp only [decide_eq_true_eq, decide_eq_false_iff_not, Bool.not_eq_true', Bool.not_eq_false', beq_iff_eq, beq_eq_false_iff_ne, bne_iff_ne, bne_eq_false_iff_eq] at h) <;> (first | (exfalso; first | omega | exact h trivial | (simp [cutRows] at h; done) | (simp [cutRows] at h; omega)) | (conv => whnf))) | (refine  CallX.mk _ _ (by first | exact flip_ok (hQ _ (by omega) (by omega)) _ (by omega) | exact next_ok (hQ _ (by omega) (by omega)) _ (by omega)) ?_; conv => whnf) | (refine CallG.mk _ _ (by first | exact range_ok (hQ _ (by omega) (by omega)) _ _ (by omega) (small_lit (by omega)) (small_lit (by omega)) | exact pick_ok (hQ _ (by omega) (by omega)) [_, _, _, _] (by simp) (by simp)) ?_; conv => whnf) | (refine .mk (by first | omega | (unfold roomOK; simp [cutRows]; done) | (unfold roomOK; simp [cutRows]; omega) | (simp [cutRows]; done) | (simp [cutRows]; omega)) ?_; conv => whnf) | (refine row_lit (N := duKeys) (by rfl) (by first | assumption | (simp; omega) | decide) ?_; conv => whnf) | ((refine row_lit (N := duSites) (by rfl) (by first | omega | (simp; omega)) ?_); conv => whnf) | fail)
    · exact count_next () hk (by rw [wrap_succ hk (by omega), e]; unfold duStp; rw [if_pos (by assumption)]; rfl) trivial
    · exact count_next () hk (by rw [wrap_succ hk (by omega), e]; unfold duStp; rw [if_neg (by assumption)]; simp only [List.map_append]; rfl) trivial
  · intro _ _
    have hbk := hB 6
    generalize duIt L p 6 = a at *
    obtain ⟨d, q⟩ := a
    simp only at hbk ⊢
    obtain ⟨h1, h2, h3⟩ := hbk
    have hlm : (d.map encDu).length = d.length := List.length_map ..
    have hQ : ∀ x : Int, q ≤ x → x ≤ q + 14 → StOk L x := fun x h3 h4 => hS x (by omega) (by omega)
    have ni : 0 < (((d.map encDu).length : Nat) : Int) → 0 ≤ nextV L (q + 1) ((d.map encDu).length : Nat) ∧ nextV L (q + 1) ((d.map encDu).length : Nat) < ((d.map encDu).length : Nat) := fun h => nextV_lt _ _ _ (by omega)
    conv => whnf
    repeat' (first | (refine .mk (fun h => ?_) (fun h => ?_) <;> (try simp only [decide_eq_true_eq, decide_eq_false_iff_not, Bool.not_eq_true', Bool.not_eq_false', beq_iff_eq, beq_eq_false_iff_ne, bne_iff_ne, bne_eq_false_iff_eq] at h) <;> (first | (exfalso; first | omega | exact h trivial | (simp [cutRows] at h; done) | (simp [cutRows] at h; omega)) | (conv => whnf))) | (refine  CallX.mk _ _ (by first | exact flip_ok (hQ _ (by omega) (by omega)) _ (by omega) | exact next_ok (hQ _ (by omega) (by omega)) _ (by omega)) ?_; conv => whnf) | (refine CallG.mk _ _ (by first | exact pick_ok (hQ _ (by omega) (by omega)) [_, _, _] (by simp) (by simp) | exact some_ok (hQ _ (by omega) (by omega)) [_, _, _] (by simp) (by simp) | exact some_ok (hQ _ (by omega) (by omega)) [_, _, _, _] (by simp) (by simp)) ?_; conv => whnf) | (refine .mk (by first | omega | (unfold roomOK; simp [cutRows]; done) | (unfold roomOK; simp [cutRows]; omega) | (simp [cutRows]; done) | (simp [cutRows]; omega)) ?_; conv => whnf) | ((with_reducible refine row_map (by first | assumption | omega) ?_); conv => whnf) | ((with_reducible refine row_set (by first | assumption | omega | (simp only [List.length_set]; omega) | (simp; omega)) ?_); conv => whnf) | fail)
    · have hp0 : 0 < d.length := by omega
      have hi : duPos L d q < d.length := by have := ni (by omega); unfold duPos; omega
      have hgd : d.getD (duPos L d q) du0 = d[duPos L d q] := by simp [hi]
      have e : duEnd L ⟨d, q⟩ = (d.set (duPos L d q) (duBad L (d[duPos L d q]) q), q + 1 + 1 + 1 + 1 + 1 + 1 + 1) := by
        unfold duEnd; simp only [hgd]; rw [if_pos hp0, if_pos (by assumption)]
      rw [e]
      simp only [List.set_set]
      exact .frz 1 _ _ _ rfl (.weak [_] (.fro 1 _ _ (by rw [List.map_set]; rfl)) rfl (Nat.le_refl _))
    · have e : duEnd L ⟨d, q⟩ = (d, q + 1) := by
        unfold duEnd; rw [if_pos (show 0 < d.length by omega), if_neg (by assumption)]
      rw [e]
      exact .frz 1 _ _ _ rfl (.weak [_] (.fro 1 _ _ rfl) rfl (Nat.le_refl _))
    · have e : duEnd L ⟨d, q⟩ = (d, q) := by
        unfold duEnd; rw [if_neg (show ¬ 0 < d.length by omega)]
      rw [e]
      exact .frz 1 _ _ _ rfl (.weak [_] (.fro 1 _ _ rfl) rfl (Nat.le_refl _))
end Go.Proofs.YtbdlhiogjnbhjaaGreat

namespace Go.Proofs.YtbdlhiogjnbhjaaGreat
set_option linter.unusedVariables false
set_option linter.unusedSimpArgs false
open Abs

def flS (N : List ByteArray) (f : Int) (L : List Int) (k : Nat) (a : Gq ByteArray) : Gq ByteArray := if nextV L a.q f = 0 then ⟨a.l ++ [N.getD k ⟨#[]⟩], a.q + 1⟩ else ⟨a.l, a.q + 1⟩
def flI (N : List ByteArray) (f : Int) (L : List Int) (q : Int) (k : Nat) : Gq ByteArray := iterN (flS N f L) k ⟨[], q⟩
theorem flI_bd (N : List ByteArray) (f : Int) (L : List Int) (q : Int) : ∀ k, (flI N f L q k).l.length ≤ k ∧ (flI N f L q k).q = q + k
  | 0 => by simp [flI, iterN]
  | k + 1 => by
    have ih := flI_bd N f L q k
    have e : flI N f L q (k + 1) = flS N f L k (flI N f L q k) := rfl
    rw [e]
    generalize flI N f L q k = a at *
    unfold flS
    split <;> simp only [List.length_append, List.length_singleton] <;> omega
abbrev ly0 : Ly := ⟨⟨#[]⟩, 0, []⟩
def lyI (L : List Int) (d : List Du) (q : Int) : Gq ByteArray := flI (d.map Du.key) 3 L (q + 1 + 1) d.length
def lyOne (L : List Int) (d : List Du) (k : Nat) (q : Int) : Ly := ⟨lyNames.getD k ⟨#[]⟩, pickV L (q + 1) [20, 30, 39, 50, 72], if (lyI L d q).l.length = 0 then [(d.getD 0 du0).key] else (lyI L d q).l⟩
def lyStp (L : List Int) (d : List Du) (k : Nat) (b : Gq Ly) : Gq Ly := if nextV L b.q 2 = 0 ∨ d.length = 0 then ⟨b.l, b.q + 1⟩ else ⟨b.l ++ [lyOne L d k b.q], (lyI L d b.q).q⟩
def lyIt (L : List Int) (d : List Du) (p : Int) (k : Nat) : Gq Ly := iterN (lyStp L d) k ⟨[], p⟩
theorem lyOne_bd (L : List Int) (d : List Du) (hd : d.length ≤ 6) (k : Nat) (q : Int) : (lyOne L d k q).ducts.length ≤ 6 ∧ (lyI L d q).q = q + 2 + d.length := by
  have := flI_bd (d.map Du.key) 3 L (q + 1 + 1) d.length
  unfold lyOne lyI
  generalize flI (d.map Du.key) 3 L (q + 1 + 1) d.length = a at *
  refine ⟨?_, by omega⟩
  split <;> simp only [List.length_singleton] <;> omega
theorem lyIt_bd (L : List Int) (d : List Du) (hd : d.length ≤ 6) (p : Int) : ∀ k, k ≤ 4 → (lyIt L d p k).l.length ≤ k ∧ (∀ x ∈ (lyIt L d p k).l, x.ducts.length ≤ 6 ∧ x.cable ∈ lyNm) ∧ p ≤ (lyIt L d p k).q ∧ (lyIt L d p k).q ≤ p + 8 * k
  | 0, _ => by simp [lyIt, iterN]
  | k + 1, hk => by
    have ih := lyIt_bd L d hd p k (by omega)
    have e : lyIt L d p (k + 1) = lyStp L d k (lyIt L d p k) := rfl
    rw [e]
    generalize lyIt L d p k = a at *
    have ho := lyOne_bd L d hd k a.q
    unfold lyStp
    split
    · exact ⟨by simp only; omega, ih.2.1, by simp only; omega, by simp only; omega⟩
    · refine ⟨by simp only [List.length_append, List.length_singleton]; omega, fun x hx => ?_, by simp only; omega, by simp only; omega⟩
      rcases List.mem_append.1 hx with hx | hx
      · exact ih.2.1 x hx
      · rw [List.mem_singleton] at hx; subst hx
        refine ⟨ho.1, ?_⟩
        show lyNames.getD k ⟨#[]⟩ ∈ lyNm
        match k, hk with
        | 0, _ => simp [lyNm, lyNames]
        | 1, _ => simp [lyNm, lyNames]
        | 2, _ => simp [lyNm, lyNames]
        | 3, _ => simp [lyNm, lyNames]
def lyPos (L : List Int) (l : List Ly) (q : Int) : Nat := (nextV L (q + 1) ((l.map encLy).length : Nat)).toNat
def lyBad (L : List Int) (x : Ly) (q : Int) : Ly × Int :=
  if nextV L (q + 1 + 1) 3 = 0 then (⟨someV L (q + 1 + 1 + 1) [x.cable, ⟨#[]⟩, ⟨#[107, 49]⟩], pickV L (q + 1 + 1 + 1 + 1) [x.outer, 0, 1001], x.ducts⟩, q + 1 + 1 + 1 + 1 + 1)
  else if nextV L (q + 1 + 1) 3 = 1 then (⟨x.cable, x.outer, []⟩, q + 1 + 1 + 1)
  else (⟨x.cable, x.outer, x.ducts ++ [someV L (q + 1 + 1 + 1) [⟨#[100, 49]⟩, ⟨#[122, 122]⟩, ⟨#[100, 54]⟩]]⟩, q + 1 + 1 + 1 + 1)
def lyEnd (L : List Int) (b : Gq Ly) : List Ly × Int :=
  if 0 < b.l.length then
    if nextV L b.q 12 = 0 then (b.l.set (lyPos L b.l b.q) (lyBad L (b.l.getD (lyPos L b.l b.q) ly0) b.q).1, (lyBad L (b.l.getD (lyPos L b.l b.q) ly0) b.q).2)
    else (b.l, b.q + 1)
  else (b.l, b.q)
def lyV (L : List Int) (d : List Du) (p : Int) : List Ly × Int := lyEnd L (lyIt L d p 4)
theorem lyV_bd (L : List Int) (d : List Du) (hd : d.length ≤ 6) (p : Int) : (lyV L d p).1.length ≤ 4 ∧ (∀ x ∈ (lyV L d p).1, x.ducts.length ≤ 7 ∧ x.cable ∈ lyNm) ∧ p ≤ (lyV L d p).2 ∧ (lyV L d p).2 ≤ p + 100 := by
  have h := lyIt_bd L d hd p 4 (Nat.le_refl _)
  unfold lyV
  generalize lyIt L d p 4 = b at *
  have hset : ∀ (i : Nat) (y : Ly), y.ducts.length ≤ 7 ∧ y.cable ∈ lyNm → ∀ x ∈ b.l.set i y, x.ducts.length ≤ 7 ∧ x.cable ∈ lyNm := by
    intro i y hy x hx
    rcases List.mem_or_eq_of_mem_set hx with hx | rfl
    · have := h.2.1 x hx; exact ⟨by omega, this.2⟩
    · exact hy
  have hg : ∀ i, (b.l.getD i ly0).ducts.length ≤ 6 ∧ (b.l.getD i ly0).cable ∈ lyNm := by
    intro i
    by_cases hi : i < b.l.length
    · rw [List.getD_eq_getElem?_getD, List.getElem?_eq_getElem hi]; exact h.2.1 _ (List.getElem_mem hi)
    · rw [List.getD_eq_getElem?_getD, List.getElem?_eq_none (by omega)]; simp [ly0, lyNm]
  have hga := hg (lyPos L b.l b.q)
  unfold lyEnd
  split
  · split
    · generalize b.l.getD (lyPos L b.l b.q) ly0 = x at *
      refine ⟨by simp only [List.length_set]; omega, ?_, ?_, ?_⟩
      · simp only
        refine hset _ _ ?_
        unfold lyBad
        (repeat' split)
        · exact ⟨by simp only; omega, some_nm hga.2⟩
        · exact ⟨by simp, hga.2⟩
        · exact ⟨by simp only [List.length_append, List.length_singleton]; omega, hga.2⟩
      · simp only; unfold lyBad; (repeat' split) <;> simp only <;> omega
      · simp only; unfold lyBad; (repeat' split) <;> simp only <;> omega
    · exact ⟨by simp only; omega, fun x hx => ⟨Nat.le_trans (h.2.1 x hx).1 (by decide), (h.2.1 x hx).2⟩, by simp only; omega, by simp only; omega⟩
  · exact ⟨by simp only; omega, fun x hx => ⟨Nat.le_trans (h.2.1 x hx).1 (by decide), (h.2.1 x hx).2⟩, by simp only; omega, by simp only; omega⟩
set_option maxRecDepth 100000 in
set_option maxHeartbeats 4000000 in
theorem rLyInF_pc {L : List Int} {p : Int} (hst : StOk L p) (hp : p ≤ 800000000) (d : List Du) (hd : d.length ≤ 6) :
    PCp 15 [.c (.ptr 0 0), .c (.lst 5 (d.map encDu))] [stO L p] (.c (.lst 3 ((lyV L d p).1.map encLy))) [stO L (lyV L d p).2] := by
  have hS : ∀ x : Int, p ≤ x → x ≤ p + 100 → StOk L x := fun x h3 h4 => ⟨hst.1, by have := hst.2.1; omega, by omega⟩
  have hdm : (d.map encDu).length = d.length := List.length_map ..
  have hV : lyV L d p = lyEnd L (lyIt L d p 4) := rfl
  rw [hV]
  clear hV
  have hB := lyIt_bd L d hd p
  refine fn_sound (mt := mts) tab_fits tab_mixed Tryz.func15 (by rfl) (by kernel_rfl) (by kernel_rfl) Tryz.results15 (Nat.le_of_ble_eq_true (by kernel_rfl)) ?_
  conv => whnf
  refine loop_for (4) [.sl 5 36 3] [0, 1, 5, 12, 13, 14] (fun k (_ : Unit) => [(14, .c (.int .i64 (k : Int)))]) (fun k (_ : Unit) => [(0, stO L (lyIt L d p k).q), (1, .row 36 3 ((lyIt L d p k).l.map encLy))]) (fun k (_ : Unit) => True) (()) ?_
  conv => whnf
  refine ⟨(by first | rfl | (simp; done) | (simp; rfl)), (by trivial), ?_, ?_⟩
  · intro k _ hk _
    have hbk := hB k (by omega)
    have e : lyIt L d p (k + 1) = lyStp L d k (lyIt L d p k) := rfl
    generalize lyIt L d p k = a at *
    obtain ⟨l, q⟩ := a
    simp only at hbk ⊢
    obtain ⟨h1, h2, h3, h4⟩ := hbk
    have hlm : (l.map encLy).length = l.length := List.length_map ..
    have hQ : ∀ x : Int, q ≤ x → x ≤ q + 14 → StOk L x := fun x h3 h4 => hS x (by omega) (by omega)
    have hkN : k < lyNames.length := hk
    have hIb := flI_bd (d.map Du.key) 3 L (q + 1 + 1)
    have hI6 : lyI L d q = flI (d.map Du.key) 3 L (q + 1 + 1) d.length := rfl
    conv => whnf
    repeat' (first | (refine .mk (fun h => ?_) (fun h => ?_) <;> (try simp only [decide_eq_true_eq, decide_eq_false_iff_not, Bool.not_eq_true', Bool.not_eq_false', beq_iff_eq, beq_eq_false_iff_ne, bne_iff_ne, bne_eq_false_iff_eq] at h) <;> (first | (exfalso; first | omega | exact h trivial | (simp [cutRows] at h; done) | (simp [cutRows] at h; omega)) | (conv => whnf))) | (refine  CallX.mk _ _ (by first | exact flip_ok (hQ _ (by omega) (by omega)) _ (by omega) | exact pick_ok (hQ _ (by omega) (by omega)) [_, _, _, _, _] (by simp) (by simp)) ?_; conv => whnf) | (refine .mk (by first | omega | (unfold roomOK; simp [cutRows]; done) | (unfold roomOK; simp [cutRows]; omega) | (simp [cutRows]; done) | (simp [cutRows]; omega)) ?_; conv => whnf) | (refine row_lit (N := lyNames) (by rfl) (by first | assumption | (simp; omega) | decide) ?_; conv => whnf) | fail)
    · exact count_next () hk (by rw [wrap_succ hk (by omega), e]; unfold lyStp; rw [if_pos (.inl (by assumption))]; rfl) trivial
    · exact count_next () hk (by rw [wrap_succ hk (by omega), e]; unfold lyStp; rw [if_pos (.inr (by omega))]; rfl) trivial
    have e2 : lyStp L d k ⟨l, q⟩ = ⟨l ++ [lyOne L d k q], (lyI L d q).q⟩ := if_neg (by rintro (q | q); exact absurd q (by assumption); omega)
    rw [e2] at e
    refine loop_for (d.length) [.bx 8 2 9 1] [0, 1, 5, 8, 12, 13, 14, 30, 31, 32] (fun j (_ : Unit) => [(32, .c (.int .i64 (j : Int)))]) (fun j (_ : Unit) => [(0, stO L (flI (d.map Du.key) 3 L (q + 1 + 1) j).q), (3, .row 9 1 ((flI (d.map Du.key) 3 L (q + 1 + 1) j).l.map encS))]) (fun j (_ : Unit) => True) (()) ?_
    conv => whnf
    refine ⟨(by first | rfl | (simp; done) | (simp; rfl)), (by trivial), ?_, ?_⟩
    · intro j _ hj _
      have hbj := hIb j
      have ej : flI (d.map Du.key) 3 L (q + 1 + 1) (j + 1) = flS (d.map Du.key) 3 L j (flI (d.map Du.key) 3 L (q + 1 + 1) j) := rfl
      have egd : (d.map Du.key).getD j ⟨#[]⟩ = d[j].key := by simp [List.getD_eq_getElem?_getD, hj]
      unfold flS at ej
      rw [egd] at ej
      generalize flI (d.map Du.key) 3 L (q + 1 + 1) j = a at *
      obtain ⟨ks, q'⟩ := a
      simp only at hbj ej ⊢
      have hkm : (ks.map encS).length = ks.length := List.length_map ..
      conv => whnf
      repeat' (first | (refine CondG.mk (fun h => ?_) (fun h => ?_) <;> (try simp only [decide_eq_true_eq, decide_eq_false_iff_not, Bool.not_eq_true', Bool.not_eq_false', beq_iff_eq, beq_eq_false_iff_ne, bne_iff_ne, bne_eq_false_iff_eq] at h) <;> (first | (exfalso; first | omega | exact h trivial | (simp [cutRows] at h; done) | (simp [cutRows] at h; omega)) | (conv => whnf))) | (refine  CallX.mk _ _ (by exact flip_ok (hQ _ (by omega) (by omega)) _ (by omega)) ?_; conv => whnf) | (refine AppG.mk (by first | omega | (unfold roomOK; simp [cutRows]; done) | (unfold roomOK; simp [cutRows]; omega) | (simp [cutRows]; done) | (simp [cutRows]; omega)) ?_; conv => whnf) | (refine idx_at _ (by with_reducible rfl) (by first | assumption | omega) ?_; conv => whnf) | fail)
      · exact count_next () hj (by rw [wrap_succ hj (by omega), ej, if_pos (by assumption)]; simp only [List.map_append]; rfl) trivial
      · exact count_next () hj (by rw [wrap_succ hj (by omega), ej, if_neg (by assumption)]; rfl) trivial
    · intro _ _
      have hbj := hIb d.length
      rw [← hI6] at *
      have hOne : lyOne L d k q = ⟨lyNames.getD k ⟨#[]⟩, pickV L (q + 1) [20, 30, 39, 50, 72], if (lyI L d q).l.length = 0 then [(d.getD 0 du0).key] else (lyI L d q).l⟩ := rfl
      have hd0 : 0 < d.length := by omega
      have egd : (d.getD 0 du0) = d[0] := by simp [List.getD_eq_getElem?_getD, hd0]
      rw [egd] at hOne
      generalize lyI L d q = a at *
      obtain ⟨ks, q'⟩ := a
      simp only at hbj hOne ⊢
      have hkm : (ks.map encS).length = ks.length := List.length_map ..
      conv => whnf
      repeat' (first | (refine CondG.mk (fun h => ?_) (fun h => ?_) <;> (try simp only [decide_eq_true_eq, decide_eq_false_iff_not, Bool.not_eq_true', Bool.not_eq_false', beq_iff_eq, beq_eq_false_iff_ne, bne_iff_ne, bne_eq_false_iff_eq] at h) <;> (first | (exfalso; first | omega | exact h trivial | (simp [cutRows] at h; done) | (simp [cutRows] at h; omega)) | (conv => whnf))) | (refine AppG.mk (by first | omega | (unfold roomOK; simp [cutRows]; done) | (unfold roomOK; simp [cutRows]; omega) | (simp [cutRows]; done) | (simp [cutRows]; omega)) ?_; conv => whnf) | (refine HookG.no ?_; conv => whnf) | fail)
      · refine idx_map 0 (by omega) rfl ?_
        conv => whnf
        repeat' (first | (refine AppG.mk (by first | omega | (unfold roomOK; simp [cutRows]; done) | (unfold roomOK; simp [cutRows]; omega) | (simp [cutRows]; done) | (simp [cutRows]; omega)) ?_; conv => whnf) | (refine HookG.no ?_; conv => whnf) | fail)
        rw [if_pos (by omega)] at hOne
        exact count_next () hk (by rw [wrap_succ hk (by omega), e, hOne]; simp only [List.map_append]; rfl) trivial
      · rw [if_neg (by omega)] at hOne
        exact count_next () hk (by rw [wrap_succ hk (by omega), e, hOne]; simp only [List.map_append]; rfl) trivial
  · intro _ _
    have hbk := hB 4 (Nat.le_refl _)
    generalize lyIt L d p 4 = a at *
    obtain ⟨l, q⟩ := a
    simp only at hbk ⊢
    obtain ⟨h1, h2, h3, h4⟩ := hbk
    have hlm : (l.map encLy).length = l.length := List.length_map ..
    have hQ : ∀ x : Int, q ≤ x → x ≤ q + 14 → StOk L x := fun x h3 h4 => hS x (by omega) (by omega)
    have ni : 0 < (((l.map encLy).length : Nat) : Int) → 0 ≤ nextV L (q + 1) ((l.map encLy).length : Nat) ∧ nextV L (q + 1) ((l.map encLy).length : Nat) < ((l.map encLy).length : Nat) := fun h => nextV_lt _ _ _ (by omega)
    have h2' : ∀ x ∈ l, x.ducts.length ≤ 6 := fun x hx => (h2 x hx).1
    have hpos : 0 < l.length → lyPos L l q < l.length ∧ l.getD (lyPos L l q) ly0 = l.getD (lyPos L l q) ly0 := fun h => ⟨by have := ni (by omega); unfold lyPos; omega, rfl⟩
    have hE : ∀ (h0 : 0 < l.length), nextV L q 12 = 0 → lyEnd L ⟨l, q⟩ = (l.set (lyPos L l q) (lyBad L (l[lyPos L l q]'((hpos h0).1)) q).1, (lyBad L (l[lyPos L l q]'((hpos h0).1)) q).2) := by
      intro h0 hn
      have hgd : l.getD (lyPos L l q) ly0 = l[lyPos L l q]'((hpos h0).1) := by simp [(hpos h0).1]
      unfold lyEnd; simp only [hgd]; rw [if_pos h0, if_pos hn]
    conv => whnf
    repeat' (first | (refine .mk (fun h => ?_) (fun h => ?_) <;> (try simp only [decide_eq_true_eq, decide_eq_false_iff_not, Bool.not_eq_true', Bool.not_eq_false', beq_iff_eq, beq_eq_false_iff_ne, bne_iff_ne, bne_eq_false_iff_eq] at h) <;> (first | (exfalso; first | omega | exact h trivial | (simp [cutRows] at h; done) | (simp [cutRows] at h; omega)) | (conv => whnf))) | (refine  CallX.mk _ _ (by first | exact flip_ok (hQ _ (by omega) (by omega)) _ (by omega) | exact next_ok (hQ _ (by omega) (by omega)) _ (by omega) | exact some_ok (hQ _ (by omega) (by omega)) [_, _, _] (by simp) (by simp) | exact cloneS_pc _ (Nat.le_trans (h2' _ (List.getElem_mem _)) (by decide))) ?_; conv => whnf) | (refine CallG.mk _ _ (by first | exact pick_ok (hQ _ (by omega) (by omega)) [_, _, _] (by simp) (by simp) | exact some_ok (hQ _ (by omega) (by omega)) [_, _, _] (by simp) (by simp)) ?_; conv => whnf) | (refine .mk (by first | omega | (unfold roomOK; simp [cutRows]; done) | (unfold roomOK; simp [cutRows]; omega) | (simp [cutRows]; done) | (simp [cutRows]; omega)) ?_; conv => whnf) | ((with_reducible refine row_map (by first | assumption | omega) ?_); conv => whnf) | ((with_reducible refine row_set (by first | assumption | omega | (simp only [List.length_set]; omega) | (simp; omega)) ?_); conv => whnf) | ((refine .mk (room_small (Nat.le_trans (Nat.add_le_add (show _ ≤ 10 by rw [List.length_map]; exact Nat.le_trans (h2' _ (List.getElem_mem _)) (by decide)) (show _ ≤ 1 from Nat.le_refl _)) (by decide)) (by decide)) ?_); conv => whnf) | fail)
    · rw [hE (by omega) (by assumption)]
      unfold lyBad
      rw [if_pos (by assumption)]
      simp only [List.set_set]
      exact .frz 1 _ _ _ rfl (.weak [_] (.fro 1 _ _ (by rw [List.map_set]; rfl)) rfl (Nat.le_refl _))
    · rw [hE (by omega) (by assumption)]
      unfold lyBad
      rw [if_neg (by assumption), if_pos (by assumption)]
      refine .frz 1 _ _ _ rfl (.weak [_] (.deep 1 _ _ _ rfl (dw_rows ?_)) rfl (Nat.le_refl _))
      rw [List.map_set]
      exact p2_set (p2_refl .refl) (P2.cons (.refl _) (P2.cons (.refl _) (P2.cons (.nils 1) P2.nil))) _
    · rw [hE (by omega) (by assumption)]
      unfold lyBad
      rw [if_neg (by assumption), if_neg (by assumption)]
      exact .frz 1 _ _ _ rfl (.weak [_] (.fro 1 _ _ (by rw [List.map_set]; simp only [encLy, List.map_append]; rfl)) rfl (Nat.le_refl _))
    · have e : lyEnd L ⟨l, q⟩ = (l, q + 1) := by
        unfold lyEnd; rw [if_pos (show 0 < l.length by omega), if_neg (by assumption)]
      rw [e]
      exact .frz 1 _ _ _ rfl (.weak [_] (.fro 1 _ _ rfl) rfl (Nat.le_refl _))
    · have e : lyEnd L ⟨l, q⟩ = (l, q) := by
        unfold lyEnd; rw [if_neg (show ¬ 0 < l.length by omega)]
      rw [e]
      exact .frz 1 _ _ _ rfl (.weak [_] (.fro 1 _ _ rfl) rfl (Nat.le_refl _))
structure DL where
  d : List Du
  l : List Ly
  q : Int
def rightDL (L : List Int) : Nat → Int → DL
  | 0, p => ⟨[], [], p⟩
  | k + 1, p => if lyFault (dcV L p).1 (lyV L (dcV L p).1 (dcV L p).2).1 = 0 then ⟨(dcV L p).1, (lyV L (dcV L p).1 (dcV L p).2).1, (lyV L (dcV L p).1 (dcV L p).2).2⟩ else rightDL L k (lyV L (dcV L p).1 (dcV L p).2).2
theorem rightDL_bd (L : List Int) : ∀ (k : Nat) (p : Int), lyFault (rightDL L k p).d (rightDL L k p).l = 0 ∧ (rightDL L k p).d.length ≤ 6 ∧ (rightDL L k p).l.length ≤ 4 ∧ (∀ x ∈ (rightDL L k p).l, x.ducts.length ≤ 7 ∧ x.cable ∈ lyNm) ∧ p ≤ (rightDL L k p).q ∧ (rightDL L k p).q ≤ p + 200 * k
  | 0, p => ⟨show lyFault [] [] = 0 by decide, by simp [rightDL], by simp [rightDL], by simp [rightDL], Int.le_refl _, by simp [rightDL]⟩
  | k + 1, p => by
    have b := dcV_bd L p
    have b2 := lyV_bd L (dcV L p).1 b.1 (dcV L p).2
    have ih := rightDL_bd L k (lyV L (dcV L p).1 (dcV L p).2).2
    rw [rightDL]
    split
    · rename_i h; exact ⟨h, b.1, b2.1, b2.2.1, by simp only; omega, by simp only; omega⟩
    · exact ⟨ih.1, ih.2.1, ih.2.2.1, ih.2.2.2.1, by omega, by omega⟩
set_option maxRecDepth 100000 in
set_option maxHeartbeats 4000000 in
theorem rRightDF_pc {L : List Int} {p : Int} (hst : StOk L p) (hp : p ≤ 700000000) :
    PCp 4 [.c (.ptr 0 0)] [stO L p] (.tup [.c (.lst 5 ((rightDL L 6 p).d.map encDu)), .c (.lst 3 ((rightDL L 6 p).l.map encLy))]) [stO L (rightDL L 6 p).q] := by
  have hS : ∀ x : Int, p ≤ x → x ≤ p + 3000 → StOk L x := fun x h3 h4 => ⟨hst.1, by have := hst.2.1; omega, by omega⟩
  refine fn_sound (mt := mts) tab_fits tab_mixed Tryz.func4 (by rfl) (by kernel_rfl) (by kernel_rfl) Tryz.results4 (Nat.le_of_ble_eq_true (by kernel_rfl)) ?_
  conv => whnf
  refine loop_for (6) [] [0, 6] (fun k (q : Int) => [(6, .c (.int .i64 (k : Int)))]) (fun k (q : Int) => [(0, stO L q)]) (fun k (q : Int) => (p ≤ q ∧ q ≤ p + 200 * k) ∧ rightDL L (6 - k) q = rightDL L 6 p) (p) ?_
  conv => whnf
  refine ⟨(by first | rfl | (simp; done) | (simp; rfl)), ?_, ?_, ?_⟩
  · exact ⟨⟨by omega, by omega⟩, rfl⟩
  · intro k q hk ⟨⟨h1, h2⟩, hi⟩
    have b := dcV_bd L q
    have b2 := lyV_bd L (dcV L q).1 b.1 (dcV L q).2
    rw [show 6 - k = (6 - (k + 1)) + 1 by omega, rightDL] at hi
    have c1 := rDuctsF_pc (hS q (by omega) (by omega)) (by omega)
    have c2 := rLyInF_pc (hS (dcV L q).2 (by omega) (by omega)) (by omega) (dcV L q).1 b.1
    have c3 := rLyingFault_pc (dcV L q).1 (lyV L (dcV L q).1 (dcV L q).2).1 (fun x hx => Nat.le_trans (b2.2.1 x hx).1 (by decide))
    conv => whnf
    repeat' (first | (refine CondG.mk (fun h => ?_) (fun h => ?_) <;> (try simp only [decide_eq_true_eq, decide_eq_false_iff_not, Bool.not_eq_true', Bool.not_eq_false', beq_iff_eq, beq_eq_false_iff_ne, bne_iff_ne, bne_eq_false_iff_eq] at h) <;> (first | (exfalso; first | omega | exact h trivial) | (conv => whnf))) | (refine  CallX.mk _ _ (by first | exact c1 | exact c2 | exact c3) ?_; conv => whnf) | fail)
    · rw [if_pos (by assumption)] at hi
      rw [← hi]
      exact .mk ⟨rfl, rfl⟩
    · rw [if_neg (by assumption)] at hi
      exact count_next (lyV L (dcV L q).1 (dcV L q).2).2 hk (by rw [wrap_succ hk (by omega)]; rfl) ⟨⟨by omega, by omega⟩, hi⟩
  · intro q ⟨_, hi⟩
    rw [Nat.sub_self, rightDL] at hi
    rw [← hi]
    conv => whnf
    repeat' (first | (refine CondG.mk (fun h => ?_) (fun h => ?_) <;> (try simp only [decide_eq_true_eq, decide_eq_false_iff_not, Bool.not_eq_true', Bool.not_eq_false', beq_iff_eq, beq_eq_false_iff_ne, bne_iff_ne, bne_eq_false_iff_eq] at h) <;> (first | (exfalso; first | omega | exact h trivial) | (conv => whnf))) | fail)
    refine .weak [] (.tup _ _ rfl ?_) rfl (Nat.le_refl _)
    intro i a b ha hb
    match i with
    | 0 => cases ha; cases hb; exact .nil 5
    | 1 => cases ha; cases hb; exact .nil 3
end Go.Proofs.YtbdlhiogjnbhjaaGreat

namespace Go.Proofs.YtbdlhiogjnbhjaaGreat
set_option linter.unusedVariables false
set_option linter.unusedSimpArgs false
open Abs

def Du.at (x : Du) (s : ByteArray) : Prop := x.a = s ∨ x.b = s
instance (x : Du) (s : ByteArray) : Decidable (x.at s) := by unfold Du.at; infer_instance
def atL (ds : List Du) (k : Nat) (s : ByteArray) : List Nat := (List.range k).filter fun i => decide ((ds.getD i du0).at s)
theorem atL_mem {ds : List Du} {k i : Nat} {s : ByteArray} : i ∈ atL ds k s ↔ i < k ∧ (ds.getD i du0).at s := by simp [atL]
theorem atL_nd (ds : List Du) (k : Nat) (s : ByteArray) : (atL ds k s).Nodup := List.Nodup.sublist List.filter_sublist List.nodup_range
theorem atL_succ (ds : List Du) (k : Nat) (s : ByteArray) : atL ds (k + 1) s = atL ds k s ++ (if (ds.getD k du0).at s then [k] else []) := by
  unfold atL
  rw [List.range_succ, List.filter_append]
  congr 1
  by_cases h : (ds.getD k du0).at s
  · rw [if_pos h]; exact List.filter_cons_of_pos (by simpa using h)
  · rw [if_neg h]; exact List.filter_cons_of_neg (by simpa using h)
structure PathOf (ds : List Du) (s : Nat → ByteArray) (ix : Nat → Nat) : Prop where
  pos : 0 < ds.length
  ixl : ∀ j, j < ds.length → ix j < ds.length
  ixi : ∀ i j, i < ds.length → j < ds.length → ix i = ix j → i = j
  si : ∀ i j, i ≤ ds.length → j ≤ ds.length → s i = s j → i = j
  ends : ∀ j, j < ds.length → ((ds.getD (ix j) du0).a = s j ∧ (ds.getD (ix j) du0).b = s (j + 1)) ∨ ((ds.getD (ix j) du0).a = s (j + 1) ∧ (ds.getD (ix j) du0).b = s j)
section
variable {ds : List Du} {s : Nat → ByteArray} {ix : Nat → Nat}
theorem PathOf.onto (h : PathOf ds s ix) {i : Nat} (hi : i < ds.length) : ∃ j, j < ds.length ∧ ix j = i := by
  refine Classical.byContradiction fun hc => ?_
  have hnd : (i :: (List.range ds.length).map ix).Nodup := by
    rw [List.nodup_cons]
    refine ⟨fun hm => ?_, ?_⟩
    · obtain ⟨j, hj, e⟩ := List.mem_map.1 hm
      exact hc ⟨j, List.mem_range.1 hj, e⟩
    · rw [List.nodup_iff_pairwise_ne, List.pairwise_map]
      refine List.Pairwise.imp_of_mem ?_ List.nodup_range
      intro a b ha hb hne e
      exact hne (h.ixi a b (List.mem_range.1 ha) (List.mem_range.1 hb) e)
  have := nodup_sub_len (m := List.range ds.length) hnd (fun x hx => by
    rcases List.mem_cons.1 hx with rfl | hx
    · exact List.mem_range.2 hi
    · obtain ⟨j, hj, rfl⟩ := List.mem_map.1 hx
      exact List.mem_range.2 (h.ixl j (List.mem_range.1 hj)))
  simp at this
  omega
theorem PathOf.rev (h : PathOf ds s ix) : PathOf ds (fun j => s (ds.length - j)) (fun j => ix (ds.length - 1 - j)) where
  pos := h.pos
  ixl j hj := h.ixl _ (by omega)
  ixi i j hi hj e := by have := h.ixi _ _ (by omega) (by omega) e; omega
  si i j hi hj e := by have := h.si _ _ (by omega) (by omega) e; omega
  ends j hj := by
    have := h.ends (ds.length - 1 - j) (by omega)
    rw [show ds.length - 1 - j + 1 = ds.length - j by omega] at this
    rw [show ds.length - (j + 1) = ds.length - 1 - j by omega]
    exact this.symm
theorem PathOf.at_iff (h : PathOf ds s ix) {i j : Nat} (hj : j ≤ ds.length) (hi : i < ds.length) : (ds.getD (ix i) du0).at (s j) ↔ i = j ∨ i + 1 = j := by
  have he := h.ends i hi
  unfold Du.at
  constructor
  · intro hat
    rcases he with ⟨e1, e2⟩ | ⟨e1, e2⟩
    · rw [e1, e2] at hat
      rcases hat with q | q
      · exact .inl (h.si _ _ (by omega) hj q)
      · exact .inr (h.si _ _ (by omega) hj q)
    · rw [e1, e2] at hat
      rcases hat with q | q
      · exact .inr (h.si _ _ (by omega) hj q)
      · exact .inl (h.si _ _ (by omega) hj q)
  · rintro (rfl | rfl)
    · rcases he with ⟨e1, e2⟩ | ⟨e1, e2⟩
      · exact .inl e1
      · exact .inr e2
    · rcases he with ⟨e1, e2⟩ | ⟨e1, e2⟩
      · exact .inr e2
      · exact .inl e1
theorem PathOf.site (h : PathOf ds s ix) {t : ByteArray} (ht : atL ds ds.length t ≠ []) : ∃ j, j ≤ ds.length ∧ s j = t := by
  obtain ⟨i, hi⟩ := List.exists_mem_of_ne_nil _ ht
  obtain ⟨hi, hat⟩ := atL_mem.1 hi
  obtain ⟨j, hj, rfl⟩ := h.onto hi
  rcases h.ends j hj with ⟨e1, e2⟩ | ⟨e1, e2⟩ <;> rcases hat with q | q
  · exact ⟨j, by omega, e1.symm.trans q⟩
  · exact ⟨j + 1, by omega, e2.symm.trans q⟩
  · exact ⟨j + 1, by omega, e1.symm.trans q⟩
  · exact ⟨j, by omega, e2.symm.trans q⟩
theorem PathOf.one (h : PathOf ds s ix) {j : Nat} (hj : j ≤ ds.length) : (atL ds ds.length (s j)).length = 1 ↔ j = 0 ∨ j = ds.length := by
  have hp := h.pos
  constructor
  · intro h1
    refine Classical.byContradiction fun hc => ?_
    have hnd : [ix j, ix (j - 1)].Nodup := by
      simp only [List.nodup_cons, List.mem_singleton, List.not_mem_nil, not_false_eq_true, List.nodup_nil, and_true]
      intro e
      have := h.ixi _ _ (by omega) (by omega) e
      omega
    have := nodup_sub_len (m := atL ds ds.length (s j)) hnd (fun x hx => by
      simp only [List.mem_cons, List.not_mem_nil, or_false] at hx
      rcases hx with rfl | rfl
      · exact atL_mem.2 ⟨h.ixl _ (by omega), (h.at_iff hj (by omega)).2 (.inl rfl)⟩
      · exact atL_mem.2 ⟨h.ixl _ (by omega), (h.at_iff hj (by omega)).2 (.inr (by omega))⟩)
    simp at this
    omega
  · intro h1
    have hle : (atL ds ds.length (s j)).length ≤ 1 := by
      refine nodup_sub_len (m := [ix (if j = 0 then 0 else j - 1)]) (atL_nd _ _ _) fun x hx => ?_
      obtain ⟨hx, hat⟩ := atL_mem.1 hx
      obtain ⟨i, hi, rfl⟩ := h.onto hx
      have := (h.at_iff hj hi).1 hat
      simp only [List.mem_singleton]
      congr 1
      split <;> omega
    have hge : ix (if j = 0 then 0 else j - 1) ∈ atL ds ds.length (s j) := by
      refine atL_mem.2 ⟨h.ixl _ (by split <;> omega), (h.at_iff hj (by split <;> omega)).2 ?_⟩
      split <;> omega
    have := List.length_pos_iff.2 (List.ne_nil_of_mem hge)
    omega
theorem PathOf.ne (h : PathOf ds s ix) {j : Nat} (hj : j ≤ ds.length) : atL ds ds.length (s j) ≠ [] := by
  have hp := h.pos
  have hge : ix (if j = 0 then 0 else j - 1) ∈ atL ds ds.length (s j) := by
    refine atL_mem.2 ⟨h.ixl _ (by split <;> omega), (h.at_iff hj (by split <;> omega)).2 ?_⟩
    split <;> omega
  exact List.ne_nil_of_mem hge
theorem PathOf.sites (h : PathOf ds s ix) {l : List ByteArray} (hl : l.Nodup) (hm : ∀ t, t ∈ l ↔ atL ds ds.length t ≠ []) : l.length = ds.length + 1 := by
  have h1 : l.length ≤ ((List.range (ds.length + 1)).map s).length := nodup_sub_len hl fun t ht => by
    obtain ⟨j, hj, rfl⟩ := h.site ((hm t).1 ht)
    exact List.mem_map.2 ⟨j, List.mem_range.2 (by omega), rfl⟩
  have hnd : ((List.range (ds.length + 1)).map s).Nodup := by
    rw [List.nodup_iff_pairwise_ne, List.pairwise_map]
    refine List.Pairwise.imp_of_mem ?_ List.nodup_range
    intro a b ha hb hne e
    rw [List.mem_range] at ha hb
    exact hne (h.si a b (by omega) (by omega) e)
  have h2 := nodup_sub_len (m := l) hnd fun t ht => by
    obtain ⟨j, hj, rfl⟩ := List.mem_map.1 ht
    rw [List.mem_range] at hj
    exact (hm _).2 (h.ne (by omega))
  simp at h1 h2
  omega
end
inductive PV where
  | no
  | inn (i : Nat) (c : Value)
  | row (q : Nat)
structure AtInv (ds : List Du) (k : Nat) (M : SM ByteArray PV) (ins : List (Value × Option (List (List V)))) : Prop where
  ok : M.ok
  has : ∀ s, (M.get s).isSome ↔ atL ds k s ≠ []
  ent : ∀ s v, M.get s = some v → ∃ i c, v = .inn i c ∧ ins[i]? = some (c, some ((atL ds k s).map fun j => [.int .i64 (j : Int)]))
  inj : ∀ s s' i c c', M.get s = some (.inn i c) → M.get s' = some (.inn i c') → s = s'
theorem AtInv.begin (ds : List Du) : AtInv ds 0 SM.nil [] where
  ok := SM.ok_nil
  has s := by simp [SM.get_nil, atL]
  ent s v h := by rw [SM.get_nil] at h; cases h
  inj s s' i c c' h := by rw [SM.get_nil] at h; cases h
end Go.Proofs.YtbdlhiogjnbhjaaGreat

namespace Go.Proofs.YtbdlhiogjnbhjaaGreat
set_option linter.unusedVariables false
set_option linter.unusedSimpArgs false
open Abs

structure Trail (ds : List Du) (a site : ByteArray) (m : Nat) (s : Nat → ByteArray) (ix : Nat → Nat) : Prop where
  s0 : s 0 = a
  sm : s m = site
  ixl : ∀ j, j < m → ix j < ds.length
  ixi : ∀ i j, i < m → j < m → ix i = ix j → i = j
  ends : ∀ j, j < m → ((ds.getD (ix j) du0).a = s j ∧ (ds.getD (ix j) du0).b = s (j + 1)) ∨ ((ds.getD (ix j) du0).a = s (j + 1) ∧ (ds.getD (ix j) du0).b = s j)
section
variable {ds : List Du} {a site : ByteArray} {m : Nat} {s : Nat → ByteArray} {ix : Nat → Nat}
theorem Trail.begin (ds : List Du) (a : ByteArray) : Trail ds a a 0 (fun _ => a) (fun _ => 0) :=
  ⟨rfl, rfl, fun j h => by omega, fun i j h => by omega, fun j h => by omega⟩
theorem Trail.step (h : Trail ds a site m s ix) {k : Nat} (hk : k < ds.length) (hu : ∀ j, j < m → ix j ≠ k) (hat : (ds.getD k du0).at site) {site' : ByteArray} (hs : site' = if (ds.getD k du0).a = site then (ds.getD k du0).b else (ds.getD k du0).a) :
    Trail ds a site' (m + 1) (fun j => if j = m + 1 then site' else s j) (fun j => if j = m then k else ix j) where
  s0 := by rw [if_neg (by omega)]; exact h.s0
  sm := by simp
  ixl j hj := by
    split
    · exact hk
    · exact h.ixl j (by omega)
  ixi i j hi hj e := by
    split at e <;> split at e
    · omega
    · exact absurd e.symm (hu j (by omega))
    · exact absurd e (hu i (by omega))
    · exact h.ixi i j (by omega) (by omega) e
  ends j hj := by
    rw [if_neg (show ¬ j = m + 1 by omega)]
    by_cases q : j = m
    · subst q
      rw [if_pos rfl, if_pos rfl, h.sm, hs]
      by_cases w : (ds.getD k du0).a = site
      · rw [if_pos w]; exact .inl ⟨w, rfl⟩
      · rw [if_neg w]; exact .inr ⟨rfl, hat.resolve_left w⟩
    · rw [if_neg q, if_neg (show ¬ j + 1 = m + 1 by omega)]
      exact h.ends j (by omega)
structure WalkT (ds : List Du) (a site : ByteArray) (seen : SM Int Unit) : Prop where
  ok : seen.ok
  tr : ∃ m s ix, Trail ds a site m s ix ∧ ∀ x, (seen.get x).isSome ↔ ∃ j, j < m ∧ x = ((ix j : Nat) : Int)
theorem WalkT.begin (ds : List Du) (a : ByteArray) : WalkT ds a a SM.nil where
  ok := SM.ok_nil
  tr := ⟨0, _, _, Trail.begin ds a, fun x => by rw [SM.get_nil]; simp⟩
theorem WalkT.step {seen : SM Int Unit} (h : WalkT ds a site seen) {k : Nat} (hk : k ∈ atL ds ds.length site) (hu : (seen.get (k : Int)).isSome = false) {site' : ByteArray} (hs' : site' = if (ds.getD k du0).a = site then (ds.getD k du0).b else (ds.getD k du0).a) : WalkT ds a site' (seen.put (k : Int) ()) where
  ok := h.ok.put _ _
  tr := by
    obtain ⟨m, s, ix, ht, hs⟩ := h.tr
    obtain ⟨hkl, hat⟩ := atL_mem.1 hk
    have hun : ∀ j, j < m → ix j ≠ k := fun j hj e => by
      have := (hs (k : Int)).2 ⟨j, hj, by rw [e]⟩
      rw [hu] at this; cases this
    refine ⟨m + 1, _, _, ht.step hkl hun hat hs', fun x => ?_⟩
    rw [SM.get_put]
    by_cases q : (k : Int) = x
    · rw [if_pos q]
      exact ⟨fun _ => ⟨m, by omega, by rw [if_pos rfl]; exact q.symm⟩, fun _ => rfl⟩
    · rw [if_neg q, hs x]
      constructor
      · rintro ⟨j, hj, e⟩
        exact ⟨j, by omega, by rw [if_neg (by omega)]; exact e⟩
      · rintro ⟨j, hj, e⟩
        by_cases w : j = m
        · subst w; rw [if_pos rfl] at e; exact absurd e.symm q
        · rw [if_neg w] at e; exact ⟨j, by omega, e⟩
theorem WalkT.len {seen : SM Int Unit} (h : WalkT ds a site seen) : ∃ s ix, Trail ds a site seen.es.length s ix := by
  obtain ⟨m, s, ix, ht, hs⟩ := h.tr
  have hnd : ((List.range m).map fun j => ((ix j : Nat) : Int)).Nodup := by
    rw [List.nodup_iff_pairwise_ne, List.pairwise_map]
    refine List.Pairwise.imp_of_mem ?_ List.nodup_range
    intro i j hi hj hne e
    exact hne (ht.ixi i j (List.mem_range.1 hi) (List.mem_range.1 hj) (by omega))
  have h1 := nodup_sub_len (m := seen.es.map (·.2.1)) hnd (fun x hx => by
    obtain ⟨j, hj, rfl⟩ := List.mem_map.1 hx
    obtain ⟨v, hv⟩ := Option.isSome_iff_exists.1 ((hs _).2 ⟨j, List.mem_range.1 hj, rfl⟩)
    obtain ⟨n, hn⟩ := SM.mem_of hv
    exact List.mem_map.2 ⟨_, hn, rfl⟩)
  have h2 := nodup_sub_len (m := (List.range m).map fun j => ((ix j : Nat) : Int)) (SM.keys_nd h.ok) (fun x hx => by
    obtain ⟨e, he, rfl⟩ := List.mem_map.1 hx
    obtain ⟨j, hj, e2⟩ := (hs e.2.1).1 (by rw [SM.get_of h.ok he]; rfl)
    exact List.mem_map.2 ⟨j, List.mem_range.2 hj, e2.symm⟩)
  simp at h1 h2
  have : seen.es.length = m := by omega
  rw [this]
  exact ⟨s, ix, ht⟩
end
end Go.Proofs.YtbdlhiogjnbhjaaGreat

namespace Go.Proofs.YtbdlhiogjnbhjaaGreat
set_option linter.unusedVariables false
set_option linter.unusedSimpArgs false
open Abs

abbrev evP (p : Nat) : PV → S
  | .no => .c .nils
  | .inn i c => .c (.inn p i c)
  | .row q => .c (.row q)
def ixR (l : List Nat) : List (List V) := l.map fun (j : Nat) => [V.int .i64 (j : Int)]
def Rl {κ β : Type} (x : κ) (y z : β) (es1 es2 : List (Nat × κ × β)) : Prop := es1.length = es2.length ∧ ∀ (j : Nat) (e : Nat × κ × β), es1[j]? = some e → es2[j]? = some e ∨ (e.2 = (x, y) ∧ es2[j]? = some (e.1, x, z))
theorem Rl.put {κ β : Type} [DecidableEq κ] {x b : κ} {y z v : β} {cl : Nat} (hb : x ≠ b) : ∀ {es1 es2 : List (Nat × κ × β)}, Rl x y z es1 es2 → Rl x y z (eput cl es1 b v) (eput cl es2 b v)
  | [], [], _ => ⟨rfl, fun j e h => .inl h⟩
  | [], _ :: _, h => by have := h.1; simp at this
  | _ :: _, [], h => by have := h.1; simp at this
  | f :: r, g :: t, h => by
    have hr : Rl x y z r t := ⟨by have := h.1; simpa using this, fun j e he => by have := h.2 (j + 1) e (by simpa using he); simpa using this⟩
    have h0 := h.2 0 f rfl
    simp only [List.getElem?_cons_zero, Option.some.injEq] at h0
    have ih := Rl.put (v := v) (cl := cl) hb hr
    have hk : g.2.1 = f.2.1 := by
      rcases h0 with e | ⟨e1, e2⟩
      · rw [e]
      · rw [e2, e1]
    by_cases q : f.2.1 = b
    · have q2 : g.2.1 = b := hk.trans q
      have hfg : g = f := by
        rcases h0 with e | ⟨e1, e2⟩
        · exact e
        · rw [e1] at q; exact absurd q hb
      refine ⟨by simp [eput, q, q2]; exact hr.1, fun j e he => ?_⟩
      cases j with
      | zero => simp [eput, q, q2, hfg] at he ⊢; exact .inl he
      | succ j => simp [eput, q, q2] at he ⊢; exact hr.2 j e he
    · have q2 : ¬ g.2.1 = b := fun e => q (hk.symm.trans e)
      refine ⟨by simp [eput, q, q2]; exact ih.1, fun j e he => ?_⟩
      cases j with
      | zero =>
        simp [eput, q, q2] at he ⊢
        subst he
        rcases h0 with e | ⟨e1, e2⟩
        · exact .inl e
        · exact .inr ⟨e1, e2⟩
      | succ j => simp [eput, q, q2] at he ⊢; exact ih.2 j e he
section
variable {ds : List Du} {k : Nat} {M : SM ByteArray PV} {ins : List (Value × Option (List (List V)))}
theorem AtInv.lt (h : AtInv ds k M ins) {s : ByteArray} {i : Nat} {c : Value} (hg : M.get s = some (.inn i c)) : i < ins.length ∧ ins[i]? = some (c, some (ixR (atL ds k s))) := by
  obtain ⟨i', c', e, hi⟩ := h.ent s _ hg
  cases e
  exact ⟨(List.getElem?_eq_some_iff.1 hi).1, hi⟩
theorem AtInv.next (h : AtInv ds k M ins) (hk : k < ds.length) {A B : ByteArray} (hA : ds[k].a = A) (hB : ds[k].b = B) (hne : A ≠ B) {iA iB : Nat} {c c2 : Value} {ins2 : List (Value × Option (List (List V)))}
    (h1 : (∃ c0, M.get A = some (.inn iA c0)) ∨ (M.get A = none ∧ ins.length ≤ iA)) (h2 : (∃ c0, M.get B = some (.inn iB c0)) ∨ (M.get B = none ∧ ins.length ≤ iB)) (hab : iA ≠ iB)
    (hins : ∀ i, ins2[i]? = if i = iB then some (c2, some (ixR (atL ds (k + 1) B))) else if i = iA then some (c, some (ixR (atL ds (k + 1) A))) else ins[i]?) :
    AtInv ds (k + 1) ((M.put A (.inn iA c)).put B (.inn iB c2)) ins2 := by
  have hkd : ds.getD k du0 = ds[k] := by simp [hk]
  have hs : ∀ s, s ≠ A → s ≠ B → atL ds (k + 1) s = atL ds k s := fun s q1 q2 => by
    rw [atL_succ, hkd, if_neg (fun q => by
      rcases q with q | q
      · exact q1 (q.symm.trans hA)
      · exact q2 (q.symm.trans hB)), List.append_nil]
  have hAn : atL ds (k + 1) A ≠ [] := by rw [atL_succ, hkd, if_pos (.inl hA)]; simp
  have hBn : atL ds (k + 1) B ≠ [] := by rw [atL_succ, hkd, if_pos (.inr hB)]; simp
  have hfr : ∀ s i c0, s ≠ A → s ≠ B → M.get s = some (.inn i c0) → i ≠ iA ∧ i ≠ iB := fun s i c0 q1 q2 hg => by
    have := (h.lt hg).1
    refine ⟨fun e => ?_, fun e => ?_⟩
    · subst e
      rcases h1 with ⟨c1, hg2⟩ | ⟨_, e⟩
      · exact q1 (h.inj _ _ _ _ _ hg hg2)
      · omega
    · subst e
      rcases h2 with ⟨c1, hg2⟩ | ⟨_, e⟩
      · exact q2 (h.inj _ _ _ _ _ hg hg2)
      · omega
  have hget : ∀ s, ((M.put A (.inn iA c)).put B (.inn iB c2)).get s = if B = s then some (.inn iB c2) else if A = s then some (.inn iA c) else M.get s := fun s => by rw [SM.get_put, SM.get_put]
  refine ⟨(h.ok.put _ _).put _ _, fun s => ?_, fun s v hg => ?_, fun s s' i c1 c1' g1 g2 => ?_⟩
  · rw [hget]
    by_cases q2 : B = s
    · subst q2; simp [hBn]
    · by_cases q1 : A = s
      · subst q1; simp [q2, hAn]
      · rw [if_neg q2, if_neg q1, hs s (Ne.symm q1) (Ne.symm q2)]; exact h.has s
  · rw [hget] at hg
    by_cases q2 : B = s
    · subst q2
      rw [if_pos rfl] at hg
      cases hg
      exact ⟨iB, c2, rfl, by rw [hins, if_pos rfl]; rfl⟩
    · by_cases q1 : A = s
      · subst q1
        rw [if_neg q2, if_pos rfl] at hg
        cases hg
        exact ⟨iA, c, rfl, by rw [hins, if_neg hab, if_pos rfl]; rfl⟩
      · rw [if_neg q2, if_neg q1] at hg
        obtain ⟨i, c0, rfl, hi⟩ := h.ent s v hg
        obtain ⟨f1, f2⟩ := hfr s i c0 (Ne.symm q1) (Ne.symm q2) hg
        exact ⟨i, c0, rfl, by rw [hins, if_neg f2, if_neg f1, hs s (Ne.symm q1) (Ne.symm q2)]; exact hi⟩
  · rw [hget] at g1 g2
    by_cases q2 : B = s
    · by_cases q2' : B = s'
      · exact q2.symm.trans q2'
      · rw [if_pos q2] at g1
        cases g1
        rw [if_neg q2'] at g2
        by_cases q1' : A = s'
        · rw [if_pos q1'] at g2; cases g2; exact absurd rfl hab
        · rw [if_neg q1'] at g2; exact absurd rfl (hfr s' _ _ (Ne.symm q1') (Ne.symm q2') g2).2
    · rw [if_neg q2] at g1
      by_cases q1 : A = s
      · rw [if_pos q1] at g1
        cases g1
        by_cases q2' : B = s'
        · rw [if_pos q2'] at g2; cases g2; exact absurd rfl hab
        · rw [if_neg q2'] at g2
          by_cases q1' : A = s'
          · exact q1.symm.trans q1'
          · rw [if_neg q1'] at g2; exact absurd rfl (hfr s' _ _ (Ne.symm q1') (Ne.symm q2') g2).1
      · rw [if_neg q1] at g1
        by_cases q2' : B = s'
        · rw [if_pos q2'] at g2; cases g2; exact absurd rfl (hfr s _ _ (Ne.symm q1) (Ne.symm q2) g1).2
        · rw [if_neg q2'] at g2
          by_cases q1' : A = s'
          · rw [if_pos q1'] at g2; cases g2; exact absurd rfl (hfr s _ _ (Ne.symm q1) (Ne.symm q2) g1).1
          · rw [if_neg q1'] at g2; exact h.inj s s' i c1 c1' g1 g2
theorem AtInv.inn (h : AtInv ds k M ins) {p : Nat} : ∀ x ∈ smE ekS (evP p) M.es, innS x.2.2 := by
  intro x hx
  obtain ⟨e, he, rfl⟩ := List.mem_map.1 hx
  obtain ⟨i, c, hv, _⟩ := h.ent _ _ (SM.get_of h.ok he)
  show innS (evP p e.2.2)
  rw [hv]; trivial
end
def toL (ds : List Du) (M : SM ByteArray PV) : SM ByteArray (List Nat) := ⟨M.clock, M.es.map fun e => (e.1, e.2.1, atL ds ds.length e.2.1)⟩
theorem toL_get (ds : List Du) (M : SM ByteArray PV) (s : ByteArray) : (toL ds M).get s = if (M.get s).isSome then some (atL ds ds.length s) else none := by
  unfold SM.get SM.m toL
  simp only
  generalize M.es = es
  induction es with
  | nil => rfl
  | cons e r ih =>
    unfold mget at *
    simp only [List.map_cons, List.find?_cons]
    by_cases q : e.2.1 = s
    · subst q; simp
    · simp only [q, decide_false]; exact ih
theorem toL_mem {ds : List Du} {M : SM ByteArray PV} {ins : List (Value × Option (List (List V)))} (h : AtInv ds ds.length M ins) {e : Nat × ByteArray × List Nat} (he : e ∈ (toL ds M).es) : e.2.2 = atL ds ds.length e.2.1 ∧ e.2.2 ≠ [] := by
  obtain ⟨f, hf, rfl⟩ := List.mem_map.1 he
  refine ⟨rfl, (h.has _).1 ?_⟩
  rw [SM.get_of h.ok hf]; rfl
def StI (a : ByteArray) (vis : List (Nat × ByteArray × List Nat)) : Prop := (∀ e ∈ vis, e.2.2.length ≤ 2) ∧ ((a = ⟨#[]⟩ ∧ ∀ e ∈ vis, e.2.2.length ≠ 1) ∨ ∃ e ∈ vis, e.2.1 = a ∧ e.2.2.length = 1)
theorem StI.fin {ds : List Du} {M : SM ByteArray PV} {ins : List (Value × Option (List (List V)))} (h : AtInv ds ds.length M ins) {a : ByteArray} {vis : List (Nat × ByteArray × List Nat)} (hs : StI a vis) (hp : vis.Perm (toL ds M).es) {s : Nat → ByteArray} {ix : Nat → Nat} (hP : PathOf ds s ix) : ∃ s' ix', PathOf ds s' ix' ∧ s' 0 = a := by
  rcases hs.2 with ⟨_, hs⟩ | ⟨e, he, rfl, h1⟩
  · exfalso
    have h0 : ((toL ds M).get (s 0)) = some (atL ds ds.length (s 0)) := by
      rw [toL_get, if_pos ((h.has _).2 (hP.ne (Nat.zero_le _)))]
    obtain ⟨n, hn⟩ := SM.mem_of h0
    exact hs _ (hp.mem_iff.2 hn) ((hP.one (Nat.zero_le _)).2 (.inl rfl))
  · obtain ⟨e1, e2⟩ := toL_mem h (hp.mem_iff.1 he)
    rw [e1] at h1 e2
    obtain ⟨j, hj, e3⟩ := hP.site e2
    rw [← e3] at h1 ⊢
    rcases (hP.one hj).1 h1 with rfl | rfl
    · exact ⟨s, ix, hP, rfl⟩
    · exact ⟨_, _, hP.rev, rfl⟩
structure WalkI (ds : List Du) (a site : ByteArray) (seen : SM Int Unit) : Prop where
  ok : seen.ok
  dom : ∀ x, (seen.get x).isSome → ∃ k : Nat, x = (k : Int) ∧ k < ds.length
  way : ∀ s ix, PathOf ds s ix → s 0 = a → ∃ m, m ≤ ds.length ∧ site = s m ∧ ∀ k : Nat, (seen.get (k : Int)).isSome ↔ ∃ j, j < m ∧ ix j = k
theorem WalkI.begin (ds : List Du) (a : ByteArray) : WalkI ds a a SM.nil where
  ok := SM.ok_nil
  dom x h := by rw [SM.get_nil] at h; cases h
  way s ix hP h := ⟨0, Nat.zero_le _, h.symm, fun k => by rw [SM.get_nil]; simp⟩
section
variable {ds : List Du} {a site : ByteArray} {seen : SM Int Unit}
theorem seen_keys (h : seen.ok) {L : List Int} (hL : ∀ x, (seen.get x).isSome → x ∈ L) : seen.es.length ≤ L.length := by
  have := nodup_sub_len (SM.keys_nd h) (m := L) (fun x hx => by
    obtain ⟨e, he, rfl⟩ := List.mem_map.1 hx
    exact hL _ (by rw [SM.get_of h he]; rfl))
  rwa [List.length_map] at this
theorem WalkI.len (h : WalkI ds a site seen) : seen.es.length ≤ ds.length := by
  have := seen_keys h.ok (L := (List.range ds.length).map fun (k : Nat) => (k : Int)) (fun x hx => by
    obtain ⟨k, rfl, hk⟩ := h.dom x hx
    exact List.mem_map.2 ⟨k, List.mem_range.2 hk, rfl⟩)
  simpa using this
theorem WalkI.over (h : WalkI ds a site seen) (hu : ∀ k ∈ atL ds ds.length site, (seen.get (k : Int)).isSome = true) {s : Nat → ByteArray} {ix : Nat → Nat} (hP : PathOf ds s ix) (h0 : s 0 = a) : seen.es.length = ds.length := by
  obtain ⟨m, hm, rfl, hs⟩ := h.way s ix hP h0
  have hmn : m = ds.length := by
    refine Classical.byContradiction fun q => ?_
    have hlt : m < ds.length := by omega
    have h1 := hu (ix m) (atL_mem.2 ⟨hP.ixl _ hlt, (hP.at_iff hm hlt).2 (.inl rfl)⟩)
    obtain ⟨j, hj, e⟩ := (hs (ix m)).1 h1
    have := hP.ixi _ _ (by omega) hlt e
    omega
  subst hmn
  have h1 := h.len
  have h2 := nodup_sub_len (l := (List.range ds.length).map fun (k : Nat) => (k : Int)) (m := seen.es.map (·.2.1)) (by
    rw [List.nodup_iff_pairwise_ne, List.pairwise_map]
    exact List.Pairwise.imp (fun hne e => hne (by omega)) List.nodup_range) (fun x hx => by
    obtain ⟨k, hk, rfl⟩ := List.mem_map.1 hx
    obtain ⟨j, hj, e⟩ := hP.onto (List.mem_range.1 hk)
    obtain ⟨v, hv⟩ := Option.isSome_iff_exists.1 ((hs k).2 ⟨j, hj, e⟩)
    obtain ⟨n, hn⟩ := SM.mem_of hv
    exact List.mem_map.2 ⟨_, hn, rfl⟩)
  simp at h2
  omega
theorem WalkI.step (h : WalkI ds a site seen) {k : Nat} (hk : k ∈ atL ds ds.length site) (hu : (seen.get (k : Int)).isSome = false) {site' : ByteArray} (hs' : site' = if (ds.getD k du0).a = site then (ds.getD k du0).b else (ds.getD k du0).a) :
    WalkI ds a site' (seen.put (k : Int) ()) := by
  obtain ⟨hkl, hat⟩ := atL_mem.1 hk
  refine ⟨h.ok.put _ _, fun x hx => ?_, fun s ix hP h0 => ?_⟩
  · rw [SM.get_put] at hx
    by_cases q : (k : Int) = x
    · exact ⟨k, q.symm, hkl⟩
    · rw [if_neg q] at hx; exact h.dom x hx
  · obtain ⟨m, hm, rfl, hs⟩ := h.way s ix hP h0
    obtain ⟨j, hj, rfl⟩ := hP.onto hkl
    have hjm : j = m := by
      rcases (hP.at_iff hm hj).1 hat with e | e
      · exact e
      · have h1 := (hs (ix j)).2 ⟨j, by omega, rfl⟩
        rw [hu] at h1; cases h1
    subst hjm
    refine ⟨j + 1, by omega, ?_, fun k => ?_⟩
    · rw [hs']
      rcases hP.ends j hj with ⟨e1, e2⟩ | ⟨e1, e2⟩
      · rw [if_pos e1, e2]
      · rw [if_neg (fun q => by
          have := hP.si _ _ (by omega) hm (e1.symm.trans q)
          omega), e1]
    · rw [SM.get_put]
      by_cases q : ((ix j : Nat) : Int) = (k : Int)
      · rw [if_pos q]
        exact ⟨fun _ => ⟨j, by omega, by omega⟩, fun _ => rfl⟩
      · rw [if_neg q, hs k]
        constructor
        · rintro ⟨i, hi, e⟩; exact ⟨i, by omega, e⟩
        · rintro ⟨i, hi, e⟩
          refine ⟨i, ?_, e⟩
          rcases Nat.lt_succ_iff_lt_or_eq.1 hi with w | w
          · exact w
          · subst w; exact absurd (by rw [e]) q
end
end Go.Proofs.YtbdlhiogjnbhjaaGreat

namespace Go.Proofs.YtbdlhiogjnbhjaaGreat
set_option linter.unusedVariables false
set_option linter.unusedSimpArgs false
namespace Abs
end Abs
end Go.Proofs.YtbdlhiogjnbhjaaGreat

namespace Go.Proofs.YtbdlhiogjnbhjaaGreat
set_option linter.unusedVariables false
set_option linter.unusedSimpArgs false
open Abs

end Go.Proofs.YtbdlhiogjnbhjaaGreat

namespace Go.Proofs.YtbdlhiogjnbhjaaGreat
set_option linter.unusedVariables false
set_option linter.unusedSimpArgs false
open Abs

structure Ed where
  key : ByteArray
  a : ByteArray
  b : ByteArray
  long : Int
  cap : Int
def encEd (e : Ed) : List V := [.str e.key, .str e.a, .str e.b, .int .i64 e.long, .int .i64 e.cap]
def Ed.at (e : Ed) (s : ByteArray) : Prop := e.a = s ∨ e.b = s
def Ed.oth (e : Ed) (s : ByteArray) : ByteArray := if e.a = s then e.b else e.a
abbrev Co := Int × Int
def coLt (c d : Co) : Prop := c.1 < d.1 ∨ c.1 = d.1 ∧ c.2 < d.2
instance (c d : Co) : Decidable (coLt c d) := by unfold coLt; infer_instance
def coP (c : Co) (e : Ed) : Co := (c.1 + e.long, c.2 + 1)
theorem coLt_irr (c : Co) : ¬ coLt c c := by unfold coLt; omega
theorem coLt_tr {a b c : Co} (h : coLt a b) (h2 : coLt b c) : coLt a c := by unfold coLt at *; omega
theorem coLe_tr {a b c : Co} (h : ¬ coLt b a) (h2 : ¬ coLt c b) : ¬ coLt c a := by unfold coLt at *; omega
theorem coP_lt (c : Co) (e : Ed) (h : 1 ≤ e.long) : coLt c (coP c e) := by unfold coLt coP; simp only; omega
abbrev CM := SM ByteArray Co
def EdsOk (E : List Ed) : Prop := ∀ e ∈ E, e.a ≠ e.b ∧ 1 ≤ e.long ∧ e.long ≤ 200000
theorem oth_at {e : Ed} {s : ByteArray} (h : e.at s) : e.at (e.oth s) := by
  unfold Ed.oth
  split
  · exact .inr rfl
  · exact .inl rfl
theorem oth_oth {e : Ed} {s : ByteArray} (h : e.at s) (hne : e.a ≠ e.b) : e.oth (e.oth s) = s := by
  unfold Ed.at at h
  unfold Ed.oth
  by_cases h1 : e.a = s
  · rw [if_pos h1, if_neg hne]; exact h1
  · rw [if_neg h1, if_pos rfl]
    rcases h with h | h
    · exact absurd h h1
    · exact h
structure Dij (E : List Ed) (to : ByteArray) (S : List ByteArray) (done open_ : CM) : Prop where
  dok : done.ok
  ook : open_.ok
  apart : ∀ s, (done.get s).isSome → open_.get s = none
  start : done.get to = some (0, 0) ∨ (open_.get to = some (0, 0) ∧ done.es = [])
  first : ∀ s c, done.get s = some c ∨ open_.get s = some c → s ≠ to → ∃ e ∈ E, e.at s ∧ ∃ c', done.get (e.oth s) = some c' ∧ c = coP c' e
  low : ∀ s c t d, done.get s = some c → open_.get t = some d → ¬ coLt d c
  relax : ∀ s c, done.get s = some c → ∀ e ∈ E, e.at s → ∃ d, (done.get (e.oth s) = some d ∨ open_.get (e.oth s) = some d) ∧ ¬ coLt (coP c e) d
  bound : ∀ s c, done.get s = some c ∨ open_.get s = some c → 0 ≤ c.1 ∧ c.1 ≤ 200000 * (done.es.length : Int) ∧ 0 ≤ c.2 ∧ c.2 ≤ done.es.length
  inS : ∀ s, (done.get s).isSome ∨ (open_.get s).isSome → s ∈ S
structure DijE (E : List Ed) (to : ByteArray) (S : List ByteArray) (at_ : ByteArray) (now : Co) (k : Nat) (done open_ : CM) : Prop where
  dok : done.ok
  ook : open_.ok
  apart : ∀ s, (done.get s).isSome → open_.get s = none
  start : done.get to = some (0, 0)
  here : done.get at_ = some now
  first : ∀ s c, done.get s = some c ∨ open_.get s = some c → s ≠ to → ∃ e ∈ E, e.at s ∧ ∃ c', done.get (e.oth s) = some c' ∧ c = coP c' e
  top : ∀ s c, done.get s = some c → ¬ coLt now c
  low : ∀ t d, open_.get t = some d → ¬ coLt d now
  relax : ∀ s c, done.get s = some c → s ≠ at_ → ∀ e ∈ E, e.at s → ∃ d, (done.get (e.oth s) = some d ∨ open_.get (e.oth s) = some d) ∧ ¬ coLt (coP c e) d
  now_ : ∀ i (h : i < E.length), i < k → E[i].at at_ → ∃ d, (done.get (E[i].oth at_) = some d ∨ open_.get (E[i].oth at_) = some d) ∧ ¬ coLt (coP now E[i]) d
  bound : ∀ s c, done.get s = some c ∨ open_.get s = some c → 0 ≤ c.1 ∧ c.1 ≤ 200000 * (done.es.length : Int) ∧ 0 ≤ c.2 ∧ c.2 ≤ done.es.length
  bnow : now.1 ≤ 200000 * ((done.es.length : Int) - 1) ∧ now.2 ≤ (done.es.length : Int) - 1
  inS : ∀ s, (done.get s).isSome ∨ (open_.get s).isSome → s ∈ S
theorem get_put_s {m : CM} {x y : ByteArray} {c d : Co} : (m.put x c).get y = some d ↔ (x = y ∧ c = d) ∨ (x ≠ y ∧ m.get y = some d) := by
  rw [SM.get_put]
  by_cases h : x = y
  · simp [h]
  · simp [h]
theorem get_del_s {m : CM} (hm : m.ok) {x y : ByteArray} {d : Co} : (m.del x).get y = some d ↔ x ≠ y ∧ m.get y = some d := by
  rw [SM.get_del hm]
  by_cases h : x = y
  · simp [h]
  · simp [h]
theorem put_new_len {m : CM} {x : ByteArray} {c : Co} (h : m.get x = none) : (m.put x c).es.length = m.es.length + 1 := by
  have := eput_born (c := m.clock) (es := m.es) (x := x) (y := c)
  rw [if_neg (by show ¬ ((m.get x).isSome = true); rw [h]; simp)] at this
  have := congrArg List.length this
  simpa [SM.put] using this
theorem Dij.begin (E : List Ed) (to : ByteArray) (S : List ByteArray) (hS : to ∈ S) : Dij E to S SM.nil (SM.nil.put to (0, 0)) where
  dok := SM.ok_nil
  ook := SM.ok_nil.put _ _
  apart s h := by rw [SM.get_nil] at h; cases h
  start := .inr ⟨by rw [get_put_s]; exact .inl ⟨rfl, rfl⟩, rfl⟩
  first s c h hne := by
    rcases h with h | h
    · rw [SM.get_nil] at h; cases h
    · rw [get_put_s] at h
      rcases h with ⟨h, _⟩ | ⟨_, h⟩
      · exact absurd h.symm hne
      · rw [SM.get_nil] at h; cases h
  low s c t d h := by rw [SM.get_nil] at h; cases h
  relax s c h := by rw [SM.get_nil] at h; cases h
  bound s c h := by
    rcases h with h | h
    · rw [SM.get_nil] at h; cases h
    · rw [get_put_s] at h
      rcases h with ⟨_, h⟩ | ⟨_, h⟩
      · subst h; simp [SM.nil]
      · rw [SM.get_nil] at h; cases h
  inS s h := by
    rcases h with h | h
    · rw [SM.get_nil] at h; cases h
    · obtain ⟨d, hd⟩ := Option.isSome_iff_exists.1 h
      rw [get_put_s] at hd
      rcases hd with ⟨h, _⟩ | ⟨_, h⟩
      · rw [← h]; exact hS
      · rw [SM.get_nil] at h; cases h
theorem Dij.take {E : List Ed} {to : ByteArray} {S : List ByteArray} {done open_ : CM} (h : Dij E to S done open_) {at_ : ByteArray} {now : Co} (ha : open_.get at_ = some now) (hmin : ∀ t d, open_.get t = some d → ¬ coLt d now) :
    DijE E to S at_ now 0 (done.put at_ now) (open_.del at_) := by
  have hn : done.get at_ = none := by
    cases e : done.get at_ with
    | none => rfl
    | some c => have := h.apart at_ (by rw [e]; rfl); rw [ha] at this; cases this
  have hl := put_new_len (c := now) hn
  have both : ∀ s c, (done.put at_ now).get s = some c ∨ (open_.del at_).get s = some c → done.get s = some c ∨ open_.get s = some c := by
    intro s c hs
    rw [get_put_s, get_del_s h.ook] at hs
    rcases hs with (⟨e, e2⟩ | ⟨_, e⟩) | ⟨_, e⟩
    · subst e e2; exact .inr ha
    · exact .inl e
    · exact .inr e
  have keep : ∀ s c, done.get s = some c → (done.put at_ now).get s = some c := by
    intro s c hs
    rw [get_put_s]
    right
    exact ⟨fun e => (by rw [← e, hn] at hs; cases hs), hs⟩
  have keep2 : ∀ s d, (done.get s = some d ∨ open_.get s = some d) → ((done.put at_ now).get s = some d ∨ (open_.del at_).get s = some d) := by
    intro s d hs
    rcases hs with hs | hs
    · exact .inl (keep s d hs)
    · by_cases e : at_ = s
      · subst e
        rw [ha] at hs; cases hs
        exact .inl (get_put_s.2 (.inl ⟨rfl, rfl⟩))
      · exact .inr ((get_del_s h.ook).2 ⟨e, hs⟩)
  refine ⟨h.dok.put _ _, h.ook.del _, ?_, ?_, get_put_s.2 (.inl ⟨rfl, rfl⟩), ?_, ?_, ?_, ?_, ?_, ?_, ?_, ?_⟩
  · intro s hs
    obtain ⟨c, hc⟩ := Option.isSome_iff_exists.1 hs
    rw [get_put_s] at hc
    rw [SM.get_del h.ook]
    rcases hc with ⟨e, _⟩ | ⟨e, e2⟩
    · rw [if_pos e]
    · rw [if_neg e]; exact h.apart s (by rw [e2]; rfl)
  · rcases h.start with e | ⟨e, e2⟩
    · exact keep _ _ e
    · have : at_ = to := by
        by_cases q : at_ = to
        · exact q
        · exfalso
          obtain ⟨e', _, _, c', hc', _⟩ := h.first at_ now (.inr ha) q
          have : done.get (e'.oth at_) = none := by unfold SM.get SM.m; rw [e2]; rfl
          rw [this] at hc'; cases hc'
      subst this
      rw [ha] at e; cases e
      exact get_put_s.2 (.inl ⟨rfl, rfl⟩)
  · intro s c hs hne
    obtain ⟨e, he, h1, c', h2, h3⟩ := h.first s c (both s c hs) hne
    exact ⟨e, he, h1, c', keep _ _ h2, h3⟩
  · intro s c hs
    rw [get_put_s] at hs
    rcases hs with ⟨_, e⟩ | ⟨_, e⟩
    · subst e; exact coLt_irr _
    · exact h.low s c at_ now e ha
  · intro t d ht
    rw [get_del_s h.ook] at ht
    exact hmin t d ht.2
  · intro s c hs hne e he hes
    rw [get_put_s] at hs
    rcases hs with ⟨e1, _⟩ | ⟨_, e1⟩
    · exact absurd e1.symm hne
    · obtain ⟨d, hd, hd2⟩ := h.relax s c e1 e he hes
      exact ⟨d, keep2 _ _ hd, hd2⟩
  · intro i hi hk; omega
  · intro s c hs
    have := h.bound s c (both s c hs)
    rw [hl]
    push_cast
    omega
  · have := h.bound at_ now (.inr ha)
    rw [hl]
    push_cast
    omega
  · intro s hs
    have : (done.get s).isSome ∨ (open_.get s).isSome := by
      rcases hs with hs | hs
      · obtain ⟨c, hc⟩ := Option.isSome_iff_exists.1 hs
        rcases both s c (.inl hc) with e | e
        · exact .inl (by rw [e]; rfl)
        · exact .inr (by rw [e]; rfl)
      · obtain ⟨c, hc⟩ := Option.isSome_iff_exists.1 hs
        rcases both s c (.inr hc) with e | e
        · exact .inl (by rw [e]; rfl)
        · exact .inr (by rw [e]; rfl)
    exact h.inS s this
theorem DijE.skip {E : List Ed} {to : ByteArray} {S : List ByteArray} {at_ : ByteArray} {now : Co} {k : Nat} {done open_ : CM} (h : DijE E to S at_ now k done open_) (hE : EdsOk E) (hk : k < E.length)
    (hs : E[k].at at_ → (done.get (E[k].oth at_)).isSome ∨ ∃ d, open_.get (E[k].oth at_) = some d ∧ ¬ coLt (coP now E[k]) d) : DijE E to S at_ now (k + 1) done open_ := by
  refine { h with now_ := fun i hi hik hat => ?_ }
  by_cases e : i = k
  · subst e
    rcases hs hat with g | ⟨d, g1, g2⟩
    · obtain ⟨c, hc⟩ := Option.isSome_iff_exists.1 g
      exact ⟨c, .inl hc, fun q => h.top _ _ hc (coLt_tr (coP_lt now E[i] (hE _ (List.getElem_mem hk)).2.1) q)⟩
    · exact ⟨d, .inr g1, g2⟩
  · exact h.now_ i hi (by omega) hat
theorem DijE.more {E : List Ed} {to : ByteArray} {S : List ByteArray} {at_ : ByteArray} {now : Co} {k : Nat} {done open_ : CM} (h : DijE E to S at_ now k done open_) (hE : EdsOk E) (hS : ∀ e ∈ E, e.a ∈ S ∧ e.b ∈ S) (hk : k < E.length)
    (hat : E[k].at at_) (hd : done.get (E[k].oth at_) = none) (ho : ∀ d, open_.get (E[k].oth at_) = some d → coLt (coP now E[k]) d) : DijE E to S at_ now (k + 1) done (open_.put (E[k].oth at_) (coP now E[k])) := by
  have hem := List.getElem_mem hk
  have hlt := coP_lt now E[k] (hE _ hem).2.1
  have step : ∀ t d, open_.get t = some d → ∃ d', (open_.put (E[k].oth at_) (coP now E[k])).get t = some d' ∧ ¬ coLt d d' := by
    intro t d ht
    by_cases e : E[k].oth at_ = t
    · refine ⟨coP now E[k], get_put_s.2 (.inl ⟨e, rfl⟩), ?_⟩
      have := ho d (by rw [e]; exact ht)
      intro q
      exact coLt_irr _ (coLt_tr this q)
    · exact ⟨d, get_put_s.2 (.inr ⟨e, ht⟩), coLt_irr _⟩
  have step2 : ∀ t d, (done.get t = some d ∨ open_.get t = some d) → ∃ d', (done.get t = some d' ∨ (open_.put (E[k].oth at_) (coP now E[k])).get t = some d') ∧ ¬ coLt d d' := by
    intro t d ht
    rcases ht with ht | ht
    · exact ⟨d, .inl ht, coLt_irr _⟩
    · obtain ⟨d', h1, h2⟩ := step t d ht
      exact ⟨d', .inr h1, h2⟩
  refine ⟨h.dok, h.ook.put _ _, ?_, h.start, h.here, ?_, h.top, ?_, ?_, ?_, ?_, h.bnow, ?_⟩
  · intro s hs
    rw [SM.get_put, if_neg (fun e => by rw [← e, hd] at hs; cases hs)]
    exact h.apart s hs
  · intro s c hs hne
    rw [get_put_s] at hs
    rcases hs with hs | ⟨e, e2⟩ | ⟨_, hs⟩
    · exact h.first s c (.inl hs) hne
    · subst e e2
      exact ⟨E[k], hem, oth_at hat, now, by rw [oth_oth hat (hE _ hem).1]; exact h.here, rfl⟩
    · exact h.first s c (.inr hs) hne
  · intro t d ht
    rw [get_put_s] at ht
    rcases ht with ⟨_, e⟩ | ⟨_, e⟩
    · subst e; exact fun q => coLt_irr _ (coLt_tr hlt q)
    · exact h.low t d e
  · intro s c hs hne e he hes
    obtain ⟨d, g1, g2⟩ := h.relax s c hs hne e he hes
    obtain ⟨d', g3, g4⟩ := step2 _ d g1
    exact ⟨d', g3, coLe_tr g4 g2⟩
  · intro i hi hik hia
    by_cases e : i = k
    · subst e
      exact ⟨_, .inr (get_put_s.2 (.inl ⟨rfl, rfl⟩)), coLt_irr _⟩
    · obtain ⟨d, g1, g2⟩ := h.now_ i hi (by omega) hia
      obtain ⟨d', g3, g4⟩ := step2 _ d g1
      exact ⟨d', g3, coLe_tr g4 g2⟩
  · intro s c hs
    rw [get_put_s] at hs
    rcases hs with hs | ⟨_, e2⟩ | ⟨_, hs⟩
    · exact h.bound s c (.inl hs)
    · subst e2
      have h1 := h.bound at_ now (.inl h.here)
      have h2 := h.bnow
      have h3 := (hE _ hem).2
      unfold coP
      simp only
      omega
    · exact h.bound s c (.inr hs)
  · intro s hs
    rcases hs with hs | hs
    · exact h.inS s (.inl hs)
    · obtain ⟨d, hd2⟩ := Option.isSome_iff_exists.1 hs
      rw [get_put_s] at hd2
      rcases hd2 with ⟨e, _⟩ | ⟨_, e⟩
      · rw [← e]
        have := hS _ hem
        unfold Ed.oth
        split
        · exact this.2
        · exact this.1
      · exact h.inS s (.inr (by rw [e]; rfl))
theorem DijE.over {E : List Ed} {to : ByteArray} {S : List ByteArray} {at_ : ByteArray} {now : Co} {done open_ : CM} (h : DijE E to S at_ now E.length done open_) : Dij E to S done open_ := by
  refine ⟨h.dok, h.ook, h.apart, .inl h.start, h.first, fun s c t d hs ht => coLe_tr (h.top s c hs) (h.low t d ht), ?_, h.bound, h.inS⟩
  intro s c hs e he hes
  by_cases q : s = at_
  · subst q
    rw [h.here] at hs; cases hs
    obtain ⟨i, hi, rfl⟩ := List.mem_iff_getElem.1 he
    exact h.now_ i hi hi hes
  · exact h.relax s c hs q e he hes
structure Costs (E : List Ed) (to : ByteArray) (S : List ByteArray) (g : CM) : Prop where
  ok : g.ok
  start : g.get to = some (0, 0)
  first : ∀ s c, g.get s = some c → s ≠ to → ∃ e ∈ E, e.at s ∧ ∃ c', g.get (e.oth s) = some c' ∧ c = coP c' e
  relax : ∀ s c, g.get s = some c → ∀ e ∈ E, e.at s → ∃ d, g.get (e.oth s) = some d ∧ ¬ coLt (coP c e) d
  bound : ∀ s c, g.get s = some c → 0 ≤ c.1 ∧ c.1 ≤ 200000 * (g.es.length : Int) ∧ 0 ≤ c.2 ∧ c.2 ≤ g.es.length
  inS : ∀ s, (g.get s).isSome → s ∈ S
theorem keys_ok {m : CM} (h : m.ok) : (m.es.map (·.2.1)).Nodup := by
  have := h.kn
  simpa [SM.m, List.map_map, Function.comp_def] using this
theorem mem_get {m : CM} (hm : m.ok) {n : Nat} {x : ByteArray} {c : Co} (h : (n, x, c) ∈ m.es) : m.get x = some c := by
  have hk := keys_ok hm
  unfold SM.get SM.m mget
  generalize m.es = es at *
  clear hm
  induction es with
  | nil => cases h
  | cons e r ih =>
    rw [List.map_cons, List.nodup_cons] at hk
    rcases List.mem_cons.1 h with e1 | e1
    · subst e1; simp
    · have : e.2.1 ≠ x := fun q => hk.1 (by rw [q]; exact List.mem_map.2 ⟨_, e1, rfl⟩)
      rw [List.map_cons, List.find?_cons]
      simp only [beq_iff_eq, this, decide_false, Bool.false_eq_true, ↓reduceIte]
      simpa [this] using ih e1 hk.2
theorem get_mem {m : CM} {x : ByteArray} {c : Co} (h : m.get x = some c) : ∃ n, (n, x, c) ∈ m.es := by
  unfold SM.get SM.m mget at h
  cases hf : (m.es.map (·.2)).find? (fun p => decide (p.1 = x)) with
  | none => simp [hf] at h
  | some p =>
    have h1 := List.mem_of_find?_eq_some hf
    have h2 := List.find?_some hf
    obtain ⟨q, hq, rfl⟩ := List.mem_map.1 h1
    simp only [hf, Option.map_some, Option.some.injEq] at h
    refine ⟨q.1, ?_⟩
    have h3 : q.2.1 = x := by simpa using h2
    rw [← h3, ← h]; exact hq
theorem map_len {m : CM} (hm : m.ok) {S : List ByteArray} (h : ∀ s, (m.get s).isSome → s ∈ S) : m.es.length ≤ S.length := by
  have := nodup_sub_len (keys_ok hm) (m := S) (fun x hx => by
    obtain ⟨e, he, rfl⟩ := List.mem_map.1 hx
    exact h _ (by rw [mem_get hm (n := e.1) (c := e.2.2) he]; rfl))
  simpa using this
theorem Dij.over {E : List Ed} {to : ByteArray} {S : List ByteArray} {done open_ : CM} (h : Dij E to S done open_) (ho : open_.es = []) : Costs E to S done := by
  have hn : ∀ s, open_.get s = none := fun s => by unfold SM.get SM.m; rw [ho]; rfl
  refine ⟨h.dok, ?_, fun s c hs => h.first s c (.inl hs), ?_, fun s c hs => h.bound s c (.inl hs), fun s hs => h.inS s (.inl hs)⟩
  · rcases h.start with e | ⟨e, _⟩
    · exact e
    · rw [hn] at e; cases e
  · intro s c hs e he hes
    obtain ⟨d, g1 | g1, g2⟩ := h.relax s c hs e he hes
    · exact ⟨d, g1, g2⟩
    · rw [hn] at g1; cases g1
theorem Dij.len {E : List Ed} {to : ByteArray} {S : List ByteArray} {done open_ : CM} (h : Dij E to S done open_) : done.es.length ≤ S.length := map_len h.dok fun s hs => h.inS s (.inl hs)
end Go.Proofs.YtbdlhiogjnbhjaaGreat

namespace Go.Proofs.YtbdlhiogjnbhjaaGreat
set_option linter.unusedVariables false
set_option linter.unusedSimpArgs false
open Abs

def nbE (g : CM) (s : ByteArray) (now : Co) (e : Ed) : Bool := decide (e.a = s ∨ e.b = s) && (match g.get (e.oth s) with | some c => decide (coP c e = now) | none => false)
theorem nbE_iff {g : CM} {s : ByteArray} {now : Co} {e : Ed} : nbE g s now e = true ↔ e.at s ∧ ∃ c, g.get (e.oth s) = some c ∧ coP c e = now := by
  unfold nbE Ed.at
  cases h : g.get (e.oth s) with
  | none => simp
  | some c => simp
inductive FW (E : List Ed) (g : CM) (to fr : ByteArray) : ByteArray → Co → List Ed → Prop
  | nil {c : Co} : g.get fr = some c → FW E g to fr fr c []
  | snoc {s : ByteArray} {c c' : Co} {P : List Ed} (i : Nat) (h : i < E.length) : FW E g to fr s c P → s ≠ to → nbE g s c E[i] = true → (∀ j (hj : j < E.length), j < i → nbE g s c E[j] = false) → g.get (E[i].oth s) = some c' → FW E g to fr (E[i].oth s) c' (P ++ [E[i]])
def sumLg : List Ed → Int
  | [] => 0
  | e :: r => e.long + sumLg r
theorem sumLg_app : ∀ a b : List Ed, sumLg (a ++ b) = sumLg a + sumLg b
  | [], b => by simp [sumLg]
  | e :: r, b => by simp only [List.cons_append, sumLg, sumLg_app r b]; omega
section
variable {E : List Ed} {g : CM} {to fr : ByteArray}
theorem FW.get {s : ByteArray} {c : Co} {P : List Ed} (h : FW E g to fr s c P) : g.get s = some c := by
  cases h with
  | nil h => exact h
  | snoc i h _ _ _ _ h2 => exact h2
theorem FW.sub {s : ByteArray} {c : Co} {P : List Ed} (h : FW E g to fr s c P) : ∀ e ∈ P, e ∈ E := by
  induction h with
  | nil => intro e he; cases he
  | snoc i hi _ _ _ _ _ ih =>
    intro e he
    rcases List.mem_append.1 he with h | h
    · exact ih e h
    · rw [List.mem_singleton] at h; subst h; exact List.getElem_mem hi
theorem FW.sum {s : ByteArray} {c : Co} {P : List Ed} (h : FW E g to fr s c P) : ∃ c0, g.get fr = some c0 ∧ c0.1 = sumLg P + c.1 ∧ c0.2 = (P.length : Int) + c.2 := by
  induction h with
  | nil h => exact ⟨_, h, by simp [sumLg], by simp⟩
  | @snoc s c c' P i hi _ _ hn _ hg ih =>
    obtain ⟨c0, h1, h2, h3⟩ := ih
    obtain ⟨_, d, hd, hd2⟩ := nbE_iff.1 hn
    rw [hg] at hd; cases hd
    refine ⟨c0, h1, ?_, ?_⟩
    · rw [sumLg_app, h2, ← hd2]
      simp only [sumLg, coP]; omega
    · rw [h3, ← hd2]
      simp only [coP, List.length_append, List.length_cons, List.length_nil]
      push_cast; omega
theorem Costs.next {S : List ByteArray} (h : Costs E to S g) {s : ByteArray} {c : Co} (hs : g.get s = some c) (hne : s ≠ to) : ∃ i, ∃ hi : i < E.length, nbE g s c E[i] = true ∧ (∀ j (hj : j < E.length), j < i → nbE g s c E[j] = false) ∧ ∃ c', g.get (E[i].oth s) = some c' ∧ c = coP c' E[i] := by
  obtain ⟨e, he, h1, c', h2, h3⟩ := h.first s c hs hne
  obtain ⟨k, hk, rfl⟩ := List.mem_iff_getElem.1 he
  have hex : ∃ i, ∃ hi : i < E.length, nbE g s c E[i] = true := ⟨k, hk, nbE_iff.2 ⟨h1, c', h2, h3.symm⟩⟩
  have hmin : ∀ n, (∃ i, i < n ∧ ∃ hi : i < E.length, nbE g s c E[i] = true) → ∃ i, ∃ hi : i < E.length, nbE g s c E[i] = true ∧ ∀ j (hj : j < E.length), j < i → nbE g s c E[j] = false := by
    intro n
    induction n with
    | zero => rintro ⟨i, h, _⟩; omega
    | succ n ih =>
      rintro ⟨i, h, hi, hb⟩
      by_cases q : ∃ i, i < n ∧ ∃ hi : i < E.length, nbE g s c E[i] = true
      · exact ih q
      · have : i = n := by
          rcases Nat.lt_or_ge i n with e | e
          · exact absurd ⟨i, e, hi, hb⟩ q
          · omega
        subst this
        refine ⟨i, hi, hb, fun j hj hji => ?_⟩
        cases e : nbE g s c E[j] with
        | false => rfl
        | true => exact absurd ⟨j, hji, hj, e⟩ q
  obtain ⟨i, hi, hb, hf⟩ := hmin (k + 1) ⟨k, by omega, hk, nbE_iff.2 ⟨h1, c', h2, h3.symm⟩⟩
  obtain ⟨_, c2, g1, g2⟩ := nbE_iff.1 hb
  exact ⟨i, hi, hb, hf, c2, g1, g2.symm⟩
theorem Costs.len {S : List ByteArray} (h : Costs E to S g) : g.es.length ≤ S.length := map_len h.ok h.inS
theorem FW.few {S : List ByteArray} (h : Costs E to S g) {s : ByteArray} {c : Co} {P : List Ed} (hf : FW E g to fr s c P) : P.length ≤ S.length := by
  obtain ⟨c0, h1, _, h3⟩ := hf.sum
  have h4 := h.bound fr c0 h1
  have h5 := h.bound s c hf.get
  have h6 := h.len
  omega
inductive Sites : List Ed → ByteArray → ByteArray → List ByteArray → Prop
  | nil (s : ByteArray) : Sites [] s s [s]
  | snoc {P : List Ed} {fr s : ByteArray} {L : List ByteArray} {e : Ed} : Sites P fr s L → e.at s → Sites (P ++ [e]) fr (e.oth s) (e.oth s :: L)
theorem FW.sites (hE : EdsOk E) {s : ByteArray} {c : Co} {P : List Ed} (h : FW E g to fr s c P) : ∃ L, Sites P fr s L ∧ L.Nodup ∧ (∀ x ∈ L, ∃ d, g.get x = some d ∧ ¬ coLt d c) ∧ L.length = P.length + 1 := by
  induction h with
  | nil h => exact ⟨_, .nil _, by simp, fun x hx => by rw [List.mem_singleton] at hx; subst hx; exact ⟨_, h, coLt_irr _⟩, rfl⟩
  | @snoc s c c' P i hi _ _ hn _ hg ih =>
    obtain ⟨L, h1, h2, h3, h4⟩ := ih
    obtain ⟨hat, d, hd, hd2⟩ := nbE_iff.1 hn
    rw [hg] at hd; cases hd
    have hlt : coLt c' c := by rw [← hd2]; exact coP_lt c' E[i] (hE _ (List.getElem_mem hi)).2.1
    refine ⟨_, .snoc h1 hat, List.nodup_cons.2 ⟨fun hm => ?_, h2⟩, ?_, by simp [h4]⟩
    · obtain ⟨d, q1, q2⟩ := h3 _ hm
      rw [hg] at q1; cases q1
      exact q2 hlt
    · intro x hx
      rcases List.mem_cons.1 hx with e | e
      · subst e; exact ⟨_, hg, coLt_irr _⟩
      · obtain ⟨d, q1, q2⟩ := h3 x e
        exact ⟨d, q1, fun q => q2 (coLt_tr q hlt)⟩
end
end Go.Proofs.YtbdlhiogjnbhjaaGreat

namespace Go.Proofs.YtbdlhiogjnbhjaaGreat
set_option linter.unusedVariables false
set_option linter.unusedSimpArgs false
open Abs

theorem strEqW {a b : ByteArray} : a.toList = b.toList ↔ a = b := ⟨toList_inj, fun h => by rw [h]⟩
abbrev evCo : Co → S := fun c => .agg [.int .i64 c.1, .int .i64 c.2]
abbrev gphS (E : List Ed) (pf : Nat) : S := .agg [.lst 5 (E.map encEd), .fn pf []]
set_option maxRecDepth 100000 in
set_option maxHeartbeats 4000000 in
theorem other_pc (e : Ed) (s : ByteArray) : PCp 97 [.agg (encEd e), .c (.str s)] [] (.c (.str (e.oth s))) [] := by
  refine fn_sound (mt := mts) tab_fits tab_mixed Tryz.func97 (by rfl) (by kernel_rfl) (by kernel_rfl) Tryz.results97 (Nat.le_of_ble_eq_true (by kernel_rfl)) ?_
  conv => whnf
  repeat' (first | (refine CondG.mk (fun h => ?_) (fun h => ?_) <;> (try simp only [decide_eq_true_eq, decide_eq_false_iff_not, Bool.not_eq_true', Bool.not_eq_false', beq_iff_eq, beq_eq_false_iff_ne, bne_iff_ne, bne_eq_false_iff_eq] at h) <;> (first | (exfalso; first | omega | exact h trivial) | (conv => whnf))) | fail)
  · rw [Ed.oth, if_pos (strEqW.1 h)]; exact .mk ⟨rfl, rfl⟩
  · rw [Ed.oth, if_neg (fun q => h (strEqW.2 q))]; exact .mk ⟨rfl, rfl⟩
set_option maxRecDepth 100000 in
set_option maxHeartbeats 4000000 in
theorem coLess_pc (a b : Co) : PCp 146 [evCo a, evCo b] [] (.c (.bool (decide (coLt a b)))) [] := by
  refine fn_sound (mt := mts) tab_fits tab_mixed Tryz.func146 (by rfl) (by kernel_rfl) (by kernel_rfl) Tryz.results146 (Nat.le_of_ble_eq_true (by kernel_rfl)) ?_
  conv => whnf
  repeat' (first | (refine Split.mk (fun h => ?_) (fun h => ?_) <;> (try simp only [decide_eq_true_eq, decide_eq_false_iff_not, Bool.not_eq_true', Bool.not_eq_false', beq_iff_eq, beq_eq_false_iff_ne, bne_iff_ne, bne_eq_false_iff_eq] at h) <;> (first | (exfalso; first | omega | exact h trivial) | (conv => whnf))) | fail)
  all_goals first | exact finb (decide_eq_true (by unfold coLt; omega)).symm | exact finb (decide_eq_false (by unfold coLt; omega)).symm | exact finb (by rw [decide_eq_decide]; unfold coLt; omega)
set_option maxRecDepth 100000 in
set_option maxHeartbeats 4000000 in
theorem coPlus_pc (c : Co) (e : Ed) (h1 : 0 ≤ c.1 ∧ c.1 ≤ 1000000000000) (h2 : 0 ≤ c.2 ∧ c.2 ≤ 1000000000000) (h3 : 1 ≤ e.long ∧ e.long ≤ 200000) : PCp 98 [evCo c, .agg (encEd e), .c (.bool true)] [] (evCo (coP c e)) [] := by
  have w1 : IntKind.i64.wrap (c.1 + e.long) = c.1 + e.long := wrap_in (by omega) (by omega)
  have w2 : IntKind.i64.wrap (c.2 + 1) = c.2 + 1 := wrap_in (by omega) (by omega)
  refine fn_sound (mt := mts) tab_fits tab_mixed Tryz.func98 (by rfl) (by kernel_rfl) (by kernel_rfl) Tryz.results98 (Nat.le_of_ble_eq_true (by kernel_rfl)) ?_
  conv => whnf
  repeat' (first | (refine CondG.mk (fun h => ?_) (fun h => ?_) <;> (try simp only [decide_eq_true_eq, decide_eq_false_iff_not, Bool.not_eq_true', Bool.not_eq_false', beq_iff_eq, beq_eq_false_iff_ne, bne_iff_ne, bne_eq_false_iff_eq] at h) <;> (first | (exfalso; first | omega | exact h trivial | contradiction | (simp_all [eqRes]; done)) | (conv => whnf))) | fail)
  exact .mk ⟨by rw [w1, w2]; rfl, rfl⟩
def sitesE (E : List Ed) (to : ByteArray) : List ByteArray := to :: E.flatMap fun e => [e.a, e.b]
theorem sitesE_mem {E : List Ed} {to : ByteArray} : ∀ e ∈ E, e.a ∈ sitesE E to ∧ e.b ∈ sitesE E to := fun e he =>
  ⟨List.mem_cons_of_mem _ (List.mem_flatMap.2 ⟨e, he, by simp⟩), List.mem_cons_of_mem _ (List.mem_flatMap.2 ⟨e, he, by simp⟩)⟩
theorem sitesE_len (E : List Ed) (to : ByteArray) : (sitesE E to).length = 2 * E.length + 1 := by
  have : ∀ E : List Ed, (E.flatMap fun e => [e.a, e.b]).length = 2 * E.length := by
    intro E
    induction E with
    | nil => rfl
    | cons e r ih => simp only [List.flatMap_cons, List.length_append, List.length_cons, List.length_nil, ih]; omega
  simp only [sitesE, List.length_cons, this]
def LeastV (open_ : CM) (vis : List (Nat × ByteArray × Co)) (at_ : ByteArray) : Prop :=
  (vis = [] ∧ at_ = ⟨#[]⟩) ∨ (at_.size ≠ 0 ∧ ∃ c, open_.get at_ = some c ∧ ∀ e ∈ vis, ¬ coLt e.2.2 c)
theorem least_take {op : CM} {vis : List (Nat × ByteArray × Co)} {a : ByteArray} {e : Nat × ByteArray × Co} (hop : op.ok) (h : LeastV op vis a) (he : e ∈ op.es) (hs : e.2.1.size ≠ 0) (hlt : a = ⟨#[]⟩ ∨ ¬ coLt ((op.get a).getD (0, 0)) e.2.2) : LeastV op (e :: vis) e.2.1 := by
  refine .inr ⟨hs, e.2.2, mem_get hop (n := e.1) he, fun x hx => ?_⟩
  rcases List.mem_cons.1 hx with q | q
  · subst q; exact coLt_irr _
  · rcases h with ⟨rfl, _⟩ | ⟨h1, c, h2, h3⟩
    · cases q
    · have h4 := hlt.resolve_left (fun e => h1 (by rw [e]; rfl))
      rw [h2] at h4
      exact coLe_tr h4 (h3 x q)
theorem least_keep {op : CM} {vis : List (Nat × ByteArray × Co)} {a : ByteArray} {e : Nat × ByteArray × Co} (h : LeastV op vis a) (ha : a ≠ ⟨#[]⟩) (hlt : ¬ coLt e.2.2 ((op.get a).getD (0, 0))) : LeastV op (e :: vis) a := by
  rcases h with ⟨_, h⟩ | ⟨h1, c, h2, h3⟩
  · exact absurd h ha
  · refine .inr ⟨h1, c, h2, fun x hx => ?_⟩
    rcases List.mem_cons.1 hx with q | q
    · subst q; rw [h2] at hlt; exact hlt
    · exact h3 x q
set_option maxRecDepth 100000 in
set_option maxHeartbeats 4000000 in
theorem gCosts_pc (E : List Ed) (to : ByteArray) (pf : Nat) (hpf : ∀ s : ByteArray, PCp pf [.c (.str s)] [] (.c (.bool true)) []) (hE : EdsOk E) (hne : ∀ e ∈ E, e.a.size ≠ 0 ∧ e.b.size ≠ 0) (hto : to.size ≠ 0) (hl : E.length ≤ 1000) :
    PCq 91 [gphS E pf, .c (.str to), .c (.bool true)] [] fun r os => ∃ g : CM, Costs E to (sitesE E to) g ∧ r = .c (.mp 0) ∧ os = [smO ekS evCo g] := by
  have hSl := sitesE_len E to
  have hEm : (E.map encEd).length = E.length := List.length_map ..
  have hSn : ∀ s ∈ sitesE E to, s.size ≠ 0 := by
    intro s hs
    rcases List.mem_cons.1 hs with rfl | hs
    · exact hto
    · obtain ⟨e, he, h⟩ := List.mem_flatMap.1 hs
      simp only [List.mem_cons, List.not_mem_nil, or_false] at h
      rcases h with rfl | rfl
      · exact (hne e he).1
      · exact (hne e he).2
  have hb := Dij.begin E to (sitesE E to) (by simp [sitesE])
  refine fn_soundX (mt := mts) tab_fits tab_mixed Tryz.func91 (by rfl) (by kernel_rfl) (by kernel_rfl) Tryz.results91 (Nat.le_of_ble_eq_true (by kernel_rfl)) ?_
  conv => whnf
  skip
  refine sm_upd (ek := ekS) (ev := evCo) keyStr SM.nil to (0, 0) ?_
  conv => whnf
  refine loop_while2 (fun (dn : CM) (op : CM) => (sitesE E to).length - dn.es.length) [] [1, 2, 3, 7, 8] (fun (dn : CM) (op : CM) => []) (fun (dn : CM) (op : CM) => [(1, smO ekS evCo dn), (2, smO ekS evCo op)]) (fun (dn : CM) (op : CM) => Dij E to (sitesE E to) dn op) (SM.nil) (SM.nil.put to (0, 0)) ?_
  conv => whnf
  refine ⟨?_, ?_, ?_⟩
  · rfl
  · exact hb
  · intro dn op hD
    conv => whnf
    refine .mk (fun h => ?_) (fun h => ?_) <;> simp only [decide_eq_true_eq, decide_eq_false_iff_not] at h <;> (conv => whnf)
    · have hpos : 0 < op.es.length := by unfold smE at h; rw [List.length_map] at h; omega
      refine loop_while2 (fun (a : ByteArray) (vis : List (Nat × ByteArray × Co)) => op.es.length - vis.length) [] [1, 2, 3, 7, 8, 9, 30] (fun (a : ByteArray) (vis : List (Nat × ByteArray × Co)) => [(9, .c (.str a))]) (fun (a : ByteArray) (vis : List (Nat × ByteArray × Co)) => [(3, .iter 2 op.clock (vis.map (·.1)))]) (fun (a : ByteArray) (vis : List (Nat × ByteArray × Co)) => Vis op vis ∧ LeastV op vis a) (⟨#[]⟩) ([]) ?_
      conv => whnf
      refine ⟨?_, ?_, ?_⟩
      · rfl
      · exact ⟨Vis.nil _, .inl ⟨rfl, rfl⟩⟩
      · intro a vis ⟨hv, hls⟩
        have hvl := hv.len
        conv => whnf
        refine .mk rfl ?_
        conv => whnf
        refine sm_next hD.ook hv (fun hp => ?_) (fun e he hn hv' hlt => ?_)
        · have hmin : ∃ now, op.get a = some now ∧ ∀ t d, op.get t = some d → ¬ coLt d now := by
            rcases hls with ⟨rfl, _⟩ | ⟨_, c, h2, h3⟩
            · have := hp.length_eq; simp at this; omega
            · refine ⟨c, h2, fun t d ht => ?_⟩
              obtain ⟨n, hn⟩ := get_mem ht
              exact h3 _ (hp.mem_iff.2 hn)
          obtain ⟨now, ha, hmn⟩ := hmin
          have hT := hD.take ha hmn
          have hT0 := trivial
          have hga : (op.get a).getD (0, 0) = now := by rw [ha]; rfl
          have hln : dn.get a = none := by
            cases q : dn.get a with
            | none => rfl
            | some c => have := hD.apart a (by rw [q]; rfl); rw [ha] at this; cases this
          have hlen := put_new_len (c := now) hln
          conv => whnf
          refine sm_look (ek := ekS) (ev := evCo) keyStr op a ((0, 0) : Co) rfl ?_
          rw [hga]
          conv => whnf
          repeat' (first | (refine .mk (fun h => ?_) (fun h => ?_) <;> (try simp only [decide_eq_true_eq, decide_eq_false_iff_not, Bool.not_eq_true', Bool.not_eq_false', beq_iff_eq, beq_eq_false_iff_ne, bne_iff_ne, bne_eq_false_iff_eq] at h) <;> (first | (exfalso; first | omega | exact h trivial | contradiction | (simp_all [eqRes]; done)) | (conv => whnf))) | (refine  CallX.mk _ _ (by exact hpf _) ?_; conv => whnf) | ((refine sm_upd (ek := ekS) (ev := evCo) keyStr dn a now ?_); conv => whnf) | ((refine sm_del (ek := ekS) (ev := evCo) keyStr op a ?_); conv => whnf) | fail)
          all_goals clear hv hls hp hvl hmn ha hga hD hb hT0
          all_goals
            refine loop_for (E.length) [] [1, 2, 3, 7, 8, 9, 12, 77, 78, 79] (fun k (oq : CM) => [(79, .c (.int .i64 (k : Int)))]) (fun k (oq : CM) => [(2, smO ekS evCo oq)]) (fun k (oq : CM) => DijE E to (sitesE E to) a now k (dn.put a now) oq) (op.del a) ?_
            conv => whnf
            refine ⟨?_, ?_, ?_, ?_⟩
            · rfl
            · exact hT
            · intro k oq hk hDE
              have hbd := hDE.bound a now (.inl hDE.here)
              have hln2 := map_len hDE.dok (fun s hs => hDE.inS s (.inl hs))
              have hEk := (hE _ (List.getElem_mem hk)).2
              have hso := hDE.skip hE hk
              have hmo := hDE.more hE sitesE_mem hk
              have cP := coPlus_pc now E[k] (by omega) (by omega) hEk
              conv => whnf
              repeat' (first | (refine .mk (fun h => ?_) (fun h => ?_) <;> (try simp only [decide_eq_true_eq, decide_eq_false_iff_not, Bool.not_eq_true', Bool.not_eq_false', beq_iff_eq, beq_eq_false_iff_ne, bne_iff_ne, bne_eq_false_iff_eq] at h) <;> (first | (exfalso; first | omega | exact h trivial) | (conv => whnf))) | (refine  CallX.mk _ _ (by first | exact cP | exact coLess_pc _ _) ?_; conv => whnf) | (refine CallG.mk _ _ (by first | exact other_pc _ _ | exact cP) ?_; conv => whnf) | (refine idx_at _ (by with_reducible rfl) (by first | assumption | omega) ?_; conv => whnf) | ((refine sm_look (ek := ekS) (ev := evCo) keyStr (dn.put a now) (E[k].oth a) ((0, 0) : Co) rfl ?_); conv => whnf) | ((refine sm_look (ek := ekS) (ev := evCo) keyStr oq (E[k].oth a) ((0, 0) : Co) rfl ?_); conv => whnf) | ((refine sm_upd (ek := ekS) (ev := evCo) keyStr oq (E[k].oth a) (coP now E[k]) ?_); conv => whnf) | fail)
              · exact count_next oq hk (by rw [wrap_succ hk (by omega)]; rfl) (hso (fun q => by
                  rcases q with q | q
                  · exact absurd (strEqW.2 q) (by assumption)
                  · exact absurd (strEqW.2 q) (by assumption)))
              · have hat : E[k].at a := .inr (strEqW.1 (by assumption))
                have h7 : ((dn.put a now).get (E[k].oth a)).isSome = false := by assumption
                have h8 : (oq.get (E[k].oth a)).isSome = false := by assumption
                exact count_next (oq.put (E[k].oth a) (coP now E[k])) hk (by rw [wrap_succ hk (by omega)]; rfl) (hmo hat (Option.isSome_eq_false_iff.1 h7 |> Option.isNone_iff_eq_none.1) (fun d hd => by rw [hd] at h8; cases h8))
              · have hat : E[k].at a := .inr (strEqW.1 (by assumption))
                have h7 : ((dn.put a now).get (E[k].oth a)).isSome = false := by assumption
                have h8 : coLt (coP now E[k]) ((oq.get (E[k].oth a)).getD (0, 0)) := by assumption
                exact count_next (oq.put (E[k].oth a) (coP now E[k])) hk (by rw [wrap_succ hk (by omega)]; rfl) (hmo hat (Option.isSome_eq_false_iff.1 h7 |> Option.isNone_iff_eq_none.1) (fun d hd => by rw [hd] at h8; exact h8))
              · have h7 : (oq.get (E[k].oth a)).isSome = true := by assumption
                have h8 : ¬ coLt (coP now E[k]) ((oq.get (E[k].oth a)).getD (0, 0)) := by assumption
                obtain ⟨d, hd⟩ := Option.isSome_iff_exists.1 h7
                rw [hd] at h8
                exact count_next oq hk (by rw [wrap_succ hk (by omega)]; rfl) (hso (fun _ => .inr ⟨d, hd, h8⟩))
              · exact count_next oq hk (by rw [wrap_succ hk (by omega)]; rfl) (hso (fun _ => .inl (by assumption)))
              · have hat : E[k].at a := .inl (strEqW.1 (by assumption))
                have h7 : ((dn.put a now).get (E[k].oth a)).isSome = false := by assumption
                have h8 : (oq.get (E[k].oth a)).isSome = false := by assumption
                exact count_next (oq.put (E[k].oth a) (coP now E[k])) hk (by rw [wrap_succ hk (by omega)]; rfl) (hmo hat (Option.isSome_eq_false_iff.1 h7 |> Option.isNone_iff_eq_none.1) (fun d hd => by rw [hd] at h8; cases h8))
              · have hat : E[k].at a := .inl (strEqW.1 (by assumption))
                have h7 : ((dn.put a now).get (E[k].oth a)).isSome = false := by assumption
                have h8 : coLt (coP now E[k]) ((oq.get (E[k].oth a)).getD (0, 0)) := by assumption
                exact count_next (oq.put (E[k].oth a) (coP now E[k])) hk (by rw [wrap_succ hk (by omega)]; rfl) (hmo hat (Option.isSome_eq_false_iff.1 h7 |> Option.isNone_iff_eq_none.1) (fun d hd => by rw [hd] at h8; exact h8))
              · have h7 : (oq.get (E[k].oth a)).isSome = true := by assumption
                have h8 : ¬ coLt (coP now E[k]) ((oq.get (E[k].oth a)).getD (0, 0)) := by assumption
                obtain ⟨d, hd⟩ := Option.isSome_iff_exists.1 h7
                rw [hd] at h8
                exact count_next oq hk (by rw [wrap_succ hk (by omega)]; rfl) (hso (fun _ => .inr ⟨d, hd, h8⟩))
              · exact count_next oq hk (by rw [wrap_succ hk (by omega)]; rfl) (hso (fun _ => .inl (by assumption)))
            · intro oq hDE
              have hov := hDE.over
              have hlen3 := hov.len
              conv => whnf
              repeat' (first | (refine CondG.mk (fun h => ?_) (fun h => ?_) <;> (try simp only [decide_eq_true_eq, decide_eq_false_iff_not, Bool.not_eq_true', Bool.not_eq_false', beq_iff_eq, beq_eq_false_iff_ne, bne_iff_ne, bne_eq_false_iff_eq] at h) <;> (first | (exfalso; first | omega | exact h trivial) | (conv => whnf))) | fail)
              exact meas_next (dn.put a now, oq) (by show (sitesE E to).length - (dn.put a now).es.length < (sitesE E to).length - dn.es.length; omega) rfl hov
        · conv => whnf
          refine .mk rfl ?_
          conv => whnf
          refine sm_at hD.ook he ?_
          conv => whnf
          have hes : e.2.1.size ≠ 0 := hSn _ (hD.inS _ (.inr (by rw [mem_get hD.ook (n := e.1) (c := e.2.2) he]; rfl)))
          have t1 := least_take hD.ook hls he hes
          have t2 := least_keep (e := e) hls
          repeat' (first | (refine .mk (fun h => ?_) (fun h => ?_) <;> (try simp only [decide_eq_true_eq, decide_eq_false_iff_not, Bool.not_eq_true', Bool.not_eq_false', beq_iff_eq, beq_eq_false_iff_ne, bne_iff_ne, bne_eq_false_iff_eq] at h) <;> (first | (exfalso; first | omega | exact h trivial) | (conv => whnf))) | (refine  CallX.mk _ _ (by exact coLess_pc _ _) ?_; conv => whnf) | ((with_reducible refine sm_look (ek := ekS) (ev := evCo) keyStr op a ((0, 0) : Co) ?_ ?_); exact rfl; conv => whnf) | fail)
          · exact meas_next (e.2.1, e :: vis) (by simp only [List.length_cons]; omega) rfl ⟨hv', t1 (.inl (strEqW.1 (by assumption)))⟩
          · have h9 : coLt e.2.2 ((op.get a).getD (0, 0)) := by assumption
            exact meas_next (e.2.1, e :: vis) (by simp only [List.length_cons]; omega) rfl ⟨hv', t1 (.inr (fun q => coLt_irr _ (coLt_tr q h9)))⟩
          · have h9 : (e.2.2.1 == ((op.get a).getD (0, 0)).1 && e.2.2.2 == ((op.get a).getD (0, 0)).2) = true := by assumption
            rw [Bool.and_eq_true, beq_iff_eq, beq_iff_eq] at h9
            exact meas_next (e.2.1, e :: vis) (by simp only [List.length_cons]; omega) rfl ⟨hv', t1 (.inr (by unfold coLt; omega))⟩
          all_goals
            have h8 : a.toList ≠ (⟨#[]⟩ : ByteArray).toList := by assumption
            have h9 : ¬ coLt e.2.2 ((op.get a).getD (0, 0)) := by assumption
            exact meas_next (a, e :: vis) (by simp only [List.length_cons]; omega) rfl ⟨hv', t2 (fun q => h8 (strEqW.2 q)) h9⟩
    · have ho : op.es = [] := by
        unfold smE at h; rw [List.length_map] at h
        exact List.length_eq_zero_iff.1 (by omega)
      conv => whnf
      exact .mk _ _ ⟨dn, hD.over ho, rfl, rfl⟩ (.mk ⟨rfl, rfl⟩)
end Go.Proofs.YtbdlhiogjnbhjaaGreat

namespace Go.Proofs.YtbdlhiogjnbhjaaGreat
set_option linter.unusedVariables false
set_option linter.unusedSimpArgs false
open Abs

theorem PCx.monoW {P : Program} {f : Nat} {args : List S} {objs : List Ob} {Q Q' : S → List Ob → Prop} (h : PCx P f args objs Q) (hi : ∀ r os, Q r os → Q' r os) : PCx P f args objs Q' :=
  ⟨h.fn, fun F φ w cs a b c => (h.calls F φ w cs a b c).mono (by rintro e w' ⟨c, F', φ', r, os, hQ, rest⟩; exact ⟨c, F', φ', r, os, hi _ _ hQ, rest⟩)⟩
set_option maxRecDepth 100000 in
set_option maxHeartbeats 4000000 in
theorem cloneEd_pc (l : List Ed) (hl : l.length ≤ 1000000) : PCp 92 [.c (.lst 5 (l.map encEd))] [] (.c (.row 0)) [.row 125 5 (l.map encEd)] := by
  have hlm : (l.map encEd).length = l.length := List.length_map ..
  refine fn_sound (mt := mts) tab_fits tab_mixed Tryz.func92 (by rfl) (by kernel_rfl) (by kernel_rfl) Tryz.results92 (Nat.le_of_ble_eq_true (by kernel_rfl)) ?_
  conv => whnf
  refine .mk (fun h => ?_) ?_
  · conv => whnf
    exact .own 125 5 rfl rfl (by rw [h]; rfl)
  · conv => whnf
    repeat' (first | (refine AppG.mk (by first | omega | (unfold roomOK; simp [cutRows]; done) | (unfold roomOK; simp [cutRows]; omega)) ?_; conv => whnf) | fail)
    exact .mk ⟨rfl, rfl⟩
set_option maxRecDepth 100000 in
set_option maxHeartbeats 4000000 in
theorem best1_pc (a b : Ed) : PCp 94 [.agg (encEd a), .agg (encEd b)] [] (.c (.int .i64 (cmpS a.key b.key))) [] := by
  refine fn_sound (mt := mts) tab_fits tab_mixed Tryz.func94 (by rfl) (by kernel_rfl) (by kernel_rfl) Tryz.results94 (Nat.le_of_ble_eq_true (by kernel_rfl)) ?_
  conv => whnf
  repeat' (first | (refine  CallX.mk _ _ (by exact sCompare_pc _ _) ?_; conv => whnf) | fail)
  exact fini rfl
set_option maxRecDepth 100000 in
theorem sortEd_pc (l : List Ed) (hl : l.length ≤ 1000000) (hr : Rise Ed.key l) :
    PCp 93 [.c (.row 0), .c (.fn 94 [])] [.row 125 5 (l.map encEd)] (.tup []) [.row 125 5 (l.map encEd)] := by
  have h := sort_pcx layEdge (encA := encEd) (c := fun a b : Ed => cmpS a.key b.key) (by decide) (fun w => (tab_fits 125 _ rfl).isAgg w) (fun w => (tab_fits 125 _ rfl).sizeOf w) (fun x => rfl) (swo_key Ed.key) best1_pc 125 l (by omega)
  refine PCx.monoW h ?_
  rintro r os ⟨l', hs, h1, h2⟩
  have : l' = l := rise_one hs.1 (rise_of hs.2 ((hs.1.map _).nodup_iff.2 (rise_nodup hr))) hr
  subst this
  exact ⟨h1, h2⟩
set_option maxRecDepth 100000 in
set_option maxHeartbeats 4000000 in
theorem ixEd_pc (E : List Ed) (pf : Nat) (gm : CM) (at_ to : ByteArray) (now : Co) (g : Nat) (p : Ed → Bool) (l : List Ed) (hl : l.length ≤ 1000000) (hg : ∀ x ∈ l, PCp g [.agg (encEd x), .c (.ptr 0 0), .c (.ptr 1 0), .c (.ptr 3 0), .c (.ptr 4 0), .c (.ptr 5 0), .c (.ptr 6 0)] [.box [.str at_], .box [.mp 2], smO ekS evCo gm, .box [.str to], .box [.lst 5 (E.map encEd), .fn pf []], .box [.bool true], .box [.int .i64 now.1, .int .i64 now.2]] (.c (.bool (p x))) [.box [.str at_], .box [.mp 2], smO ekS evCo gm, .box [.str to], .box [.lst 5 (E.map encEd), .fn pf []], .box [.bool true], .box [.int .i64 now.1, .int .i64 now.2]]) : PCp 95 [.c (.row 0), .c (.fn g [.ptr 1 0, .ptr 2 0, .ptr 4 0, .ptr 5 0, .ptr 6 0, .ptr 7 0])] [.row 125 5 (l.map encEd), .box [.str at_], .box [.mp 3], smO ekS evCo gm, .box [.str to], .box [.lst 5 (E.map encEd), .fn pf []], .box [.bool true], .box [.int .i64 now.1, .int .i64 now.2]] (.c (.int .i64 (idxP p l))) [.row 125 5 (l.map encEd), .box [.str at_], .box [.mp 3], smO ekS evCo gm, .box [.str to], .box [.lst 5 (E.map encEd), .fn pf []], .box [.bool true], .box [.int .i64 now.1, .int .i64 now.2]] := by
  have hlm : (l.map encEd).length = l.length := List.length_map ..
  refine fn_sound (mt := mts) tab_fits tab_mixed Tryz.func95 (by rfl) (by kernel_rfl) (by kernel_rfl) Tryz.results95 (Nat.le_of_ble_eq_true (by kernel_rfl)) ?_
  conv => whnf
  refine loop_for (l.length) [] [0, 1, 7, 8] (fun k (_ : Unit) => [(8, .c (.int .i64 (k : Int)))]) (fun k (_ : Unit) => []) (fun k (_ : Unit) => ∀ i (hi : i < l.length), i < k → p l[i] = false) (()) ?_
  conv => whnf
  refine ⟨(by first | rfl | (simp; done) | (simp; rfl)), ?_, ?_, ?_⟩
  · intro i hi h; omega
  · intro k _ hk hi
    conv => whnf
    repeat' (first | (refine CondG.mk (fun h => ?_) (fun h => ?_) <;> (try simp only [decide_eq_true_eq, decide_eq_false_iff_not, Bool.not_eq_true', Bool.not_eq_false', beq_iff_eq, beq_eq_false_iff_ne, bne_iff_ne, bne_eq_false_iff_eq] at h) <;> (first | (exfalso; first | omega | exact h trivial) | (conv => whnf))) | (refine  CallX.mk _ _ (by exact hg l[k] (List.getElem_mem hk)) ?_; conv => whnf) | (refine .mk (by first | omega | (unfold roomOK; simp [cutRows]; done) | (unfold roomOK; simp [cutRows]; omega) | (simp [cutRows]; done) | (simp [cutRows]; omega)) ?_; conv => whnf) | ((with_reducible refine row_map (by first | assumption | omega) ?_); conv => whnf) | fail)
    · exact .mk ⟨by rw [idxP_hit hk (fun i hi' => hi i (by omega) hi') h]; rfl, rfl⟩
    · refine count_next () hk (by rw [wrap_succ hk (by omega)]; rfl) ?_
      exact all_succ' hi h
  · intro _ hi
    conv => whnf
    repeat' (first | (refine CondG.mk (fun h => ?_) (fun h => ?_) <;> (try simp only [decide_eq_true_eq, decide_eq_false_iff_not, Bool.not_eq_true', Bool.not_eq_false', beq_iff_eq, beq_eq_false_iff_ne] at h) <;> (first | (exfalso; first | omega | exact h trivial) | (conv => whnf))) | fail)
    exact .mk ⟨by rw [idxP_miss (fun i h => hi i h h)]; rfl, rfl⟩
set_option maxRecDepth 100000 in
set_option maxHeartbeats 4000000 in
theorem best2_pc (E : List Ed) (pf : Nat) (g : CM) (at_ to : ByteArray) (now : Co) (hpf : ∀ s : ByteArray, PCp pf [.c (.str s)] [] (.c (.bool true)) []) (e : Ed) (h3 : 1 ≤ e.long ∧ e.long ≤ 200000) (hg : ∀ s c, g.get s = some c → 0 ≤ c.1 ∧ c.1 ≤ 1000000000 ∧ 0 ≤ c.2 ∧ c.2 ≤ 1000000000) :
    PCp 96 [.agg (encEd e), .c (.ptr 0 0), .c (.ptr 1 0), .c (.ptr 3 0), .c (.ptr 4 0), .c (.ptr 5 0), .c (.ptr 6 0)] [.box [.str at_], .box [.mp 2], smO ekS evCo g, .box [.str to], .box [.lst 5 (E.map encEd), .fn pf []], .box [.bool true], .box [.int .i64 now.1, .int .i64 now.2]] (.c (.bool (nbE g at_ now e)))
      [.box [.str at_], .box [.mp 2], smO ekS evCo g, .box [.str to], .box [.lst 5 (E.map encEd), .fn pf []], .box [.bool true], .box [.int .i64 now.1, .int .i64 now.2]] := by
  have hgd : 0 ≤ ((g.get (e.oth at_)).getD (0, 0)).1 ∧ ((g.get (e.oth at_)).getD (0, 0)).1 ≤ 1000000000000 ∧ 0 ≤ ((g.get (e.oth at_)).getD (0, 0)).2 ∧ ((g.get (e.oth at_)).getD (0, 0)).2 ≤ 1000000000000 := by
    cases q : g.get (e.oth at_) with
    | none => simp
    | some c => have := hg _ c q; simp only [Option.getD_some]; omega
  have cP := coPlus_pc ((g.get (e.oth at_)).getD (0, 0)) e (by omega) (by omega) h3
  have n1 : ¬ e.at at_ → nbE g at_ now e = false := fun h => by
    cases q : nbE g at_ now e with
    | false => rfl
    | true => exact absurd (nbE_iff.1 q).1 h
  have n2 : (g.get (e.oth at_)).isSome = false → nbE g at_ now e = false := fun h => by
    cases q : nbE g at_ now e with
    | false => rfl
    | true => obtain ⟨_, c, h2, _⟩ := nbE_iff.1 q; rw [h2] at h; cases h
  have n3 : e.at at_ → (g.get (e.oth at_)).isSome = true → nbE g at_ now e = ((coP ((g.get (e.oth at_)).getD (0, 0)) e).1 == now.1 && (coP ((g.get (e.oth at_)).getD (0, 0)) e).2 == now.2) := fun h1 h2 => by
    obtain ⟨c, hc⟩ := Option.isSome_iff_exists.1 h2
    rw [Bool.eq_iff_iff, nbE_iff, hc, Option.getD_some, Bool.and_eq_true, beq_iff_eq, beq_iff_eq]
    constructor
    · rintro ⟨_, c', h3, h4⟩
      cases h3
      rw [h4]; exact ⟨rfl, rfl⟩
    · rintro ⟨h3, h4⟩
      exact ⟨h1, c, rfl, Prod.ext h3 h4⟩
  refine fn_sound (mt := mts) tab_fits tab_mixed Tryz.func96 (by rfl) (by kernel_rfl) (by kernel_rfl) Tryz.results96 (Nat.le_of_ble_eq_true (by kernel_rfl)) ?_
  conv => whnf
  repeat' (first | (refine .mk (fun h => ?_) (fun h => ?_) <;> (try simp only [decide_eq_true_eq, decide_eq_false_iff_not, Bool.not_eq_true', Bool.not_eq_false', beq_iff_eq, beq_eq_false_iff_ne, bne_iff_ne, bne_eq_false_iff_eq] at h) <;> (first | (exfalso; first | omega | exact h trivial | contradiction | (simp_all [eqRes]; done)) | (conv => whnf))) | (refine  CallX.mk _ _ (by first | exact other_pc _ _ | exact cP) ?_; conv => whnf) | (refine CallG.mk _ _ (by first | exact hpf _ | exact cP) ?_; conv => whnf) | ((refine sm_look (ek := ekS) (ev := evCo) keyStr g (e.oth at_) ((0, 0) : Co) rfl ?_); conv => whnf) | fail)
  · have hh := n1 (fun q => by
      rcases q with q | q
      · exact absurd (strEqW.2 q) (by assumption)
      · exact absurd (strEqW.2 q) (by assumption))
    exact .mk ⟨by rw [hh]; rfl, rfl⟩
  · have hh := n3 (.inr (strEqW.1 (by assumption))) (by assumption)
    exact .mk ⟨by rw [hh]; rfl, rfl⟩
  · have hh := n3 (.inr (strEqW.1 (by assumption))) (by assumption)
    exact .mk ⟨by rw [hh]; rfl, rfl⟩
  · have hh := n2 (by assumption)
    exact .mk ⟨by rw [hh]; rfl, rfl⟩
  · have hh := n3 (.inl (strEqW.1 (by assumption))) (by assumption)
    exact .mk ⟨by rw [hh]; rfl, rfl⟩
  · have hh := n3 (.inl (strEqW.1 (by assumption))) (by assumption)
    exact .mk ⟨by rw [hh]; rfl, rfl⟩
  · have hh := n2 (by assumption)
    exact .mk ⟨by rw [hh]; rfl, rfl⟩
set_option maxRecDepth 100000 in
set_option maxHeartbeats 4000000 in
theorem gBest_pc (E : List Ed) (fr to : ByteArray) (pf : Nat) (hpf : ∀ s : ByteArray, PCp pf [.c (.str s)] [] (.c (.bool true)) []) (hE : EdsOk E) (hne : ∀ e ∈ E, e.a.size ≠ 0 ∧ e.b.size ≠ 0) (hto : to.size ≠ 0) (hl : E.length ≤ 1000) (hr : Rise Ed.key E) :
    PCq 59 [gphS E pf, .c (.str fr), .c (.str to), .c (.bool true)] [] fun r os => ∃ g : CM, Costs E to (sitesE E to) g ∧ os = [] ∧ ((g.get fr = none ∧ r = .tup [.c (.lst 5 []), .c (.bool false)]) ∨ ∃ c P, FW E g to fr to c P ∧ r = .tup [.c (.lst 5 (P.map encEd)), .c (.bool true)]) := by
  have hSl := sitesE_len E to
  have hEm : (E.map encEd).length = E.length := List.length_map ..
  refine fn_soundX (mt := mts) tab_fits tab_mixed Tryz.func59 (by rfl) (by kernel_rfl) (by kernel_rfl) Tryz.results59 (Nat.le_of_ble_eq_true (by kernel_rfl)) ?_
  conv => whnf
  skip
  refine .ex _ (gCosts_pc E to pf hpf hE hne hto hl) ?_
  rintro _ _ ⟨g, hC, rfl, rfl⟩
  conv => whnf
  refine sm_look (ek := ekS) (ev := evCo) keyStr g fr ((0, 0) : Co) rfl ?_
  conv => whnf
  refine .mk (fun h => ?_) (fun h => ?_) <;> (conv => whnf)
  · have hn : g.get fr = none := by
      cases q : g.get fr with
      | none => rfl
      | some c => rw [q] at h; simp at h
    refine .mk _ _ ⟨g, hC, rfl, .inl ⟨hn, rfl⟩⟩ (.weak [] (.tup _ _ rfl ?_) rfl (Nat.le_refl _))
    intro i x y hx hy
    match i with
    | 0 => cases hx; cases hy; exact .nil 5
    | 1 => cases hx; cases hy; exact .refl _
    | n + 2 => cases hx
  · have hs : (g.get fr).isSome = true := by cases q : (g.get fr).isSome <;> simp_all
    obtain ⟨c0, hc0⟩ := Option.isSome_iff_exists.1 hs
    have hgl := hC.len
    have hgb : ∀ s c, g.get s = some c → 0 ≤ c.1 ∧ c.1 ≤ 1000000000 ∧ 0 ≤ c.2 ∧ c.2 ≤ 1000000000 := fun s c h => by have := hC.bound s c h; omega
    rw [hc0, Option.getD_some]
    repeat' (first | (refine  CallX.mk _ _ (by first | exact cloneEd_pc E (by omega) | exact sortEd_pc E (by omega) hr) ?_; conv => whnf) | fail)
    refine loop_while3 (fun (s : ByteArray) (c : Co) (P : List Ed) => c.2.toNat) [.sl 14 125 5] [4, 6, 7, 10, 11, 13, 14, 15] (fun (s : ByteArray) (c : Co) (P : List Ed) => []) (fun (s : ByteArray) (c : Co) (P : List Ed) => [(5, .box [.int .i64 c.1, .int .i64 c.2]), (7, .row 125 5 (P.map encEd)), (8, .box [.str s])]) (fun (s : ByteArray) (c : Co) (P : List Ed) => FW E g to fr s c P) (fr) (c0) ([]) ?_
    conv => whnf
    refine ⟨?_, ?_, ?_⟩
    · rfl
    · exact .nil hc0
    · intro s c P hF
      have hsc := hF.get
      have hb := hgb s c hsc
      have cI := ixEd_pc E pf g s to c 96 (nbE g s c) E (by omega) (fun e he => best2_pc E pf g s to c hpf e (hE e he).2 hgb)
      conv => whnf
      repeat' (first | (refine CondG.mk (fun h => ?_) (fun h => ?_) <;> (try simp only [decide_eq_true_eq, decide_eq_false_iff_not, Bool.not_eq_true', Bool.not_eq_false', beq_iff_eq, beq_eq_false_iff_ne, bne_iff_ne, bne_eq_false_iff_eq] at h) <;> (first | (exfalso; first | omega | exact h trivial) | (conv => whnf))) | fail)
      · have hne2 : s ≠ to := fun q => absurd (strEqW.2 q) (by assumption)
        obtain ⟨i, hi, hb1, hb2, c', hc', he⟩ := hC.next hsc hne2
        have hix : idxP (nbE g s c) E = (i : Int) := idxP_hit hi (fun j hj => hb2 j (by omega) hj) hb1
        rw [hix] at cI
        have hF2 := FW.snoc i hi hF hne2 hb1 hb2 hc'
        have hPm := hF.few hC
        have hPl : (P.map encEd).length = P.length := List.length_map ..
        have hcd : (g.get (E[i].oth s)).getD (0, 0) = c' := by rw [hc']; rfl
        repeat' (first | (refine  CallX.mk _ _ (by first | exact cI | exact other_pc _ _) ?_; conv => whnf) | (refine .mk (by first | omega | (unfold roomOK; simp [cutRows]; done) | (unfold roomOK; simp [cutRows]; omega) | (simp [cutRows]; done) | (simp [cutRows]; omega)) ?_; conv => whnf) | ((with_reducible refine row_map (by first | assumption | omega) ?_); conv => whnf) | ((refine sm_look (ek := ekS) (ev := evCo) keyStr g (E[i].oth s) ((0, 0) : Co) rfl ?_); conv => whnf) | fail)
        have hb2' := hgb _ c' hc'
        have hc2 : c.2 = c'.2 + 1 := by rw [he]; rfl
        exact meas_next (E[i].oth s, c', P ++ [E[i]]) (by show c'.2.toNat < c.2.toNat; omega) (by rw [hcd, List.map_append]; rfl) hF2
      · have hst : s = to := strEqW.1 (by assumption)
        subst hst
        refine .mk _ _ ⟨g, hC, rfl, .inr ⟨c, P, hF, rfl⟩⟩ (.frz 0 _ _ _ rfl (.weak [_] (.tup _ _ rfl ?_) rfl (Nat.le_refl _)))
        intro i x y hx hy
        match i with
        | 0 => cases hx; cases hy; exact .fro 0 _ _ rfl
        | 1 => cases hx; cases hy; exact .refl _
        | n + 2 => cases hx
end Go.Proofs.YtbdlhiogjnbhjaaGreat

namespace Go.Proofs.YtbdlhiogjnbhjaaGreat
set_option linter.unusedVariables false
set_option linter.unusedSimpArgs false
open Abs

def roomE (e : Ed) (f : Int) (s : ByteArray) : Int := if e.a = s then e.cap - f else e.cap + f
abbrev St2 := Int × ByteArray
abbrev SMt := SM ByteArray St2
structure Bfs (E : List Ed) (f : List Int) (fr : ByteArray) (Q : List ByteArray) (came : SMt) : Prop where
  ok : came.ok
  nd : Q.Nodup
  hd : Q[0]? = some fr
  mem : ∀ s, (came.get s).isSome ↔ s ∈ Q
  step : ∀ j (hj : j < Q.length), 0 < j → ∃ (i : Nat) (hi : i < E.length) (q : Nat) (hq : q < j), came.get Q[j] = some ((i : Int), Q[q]'(by omega)) ∧ E[i].at (Q[q]'(by omega)) ∧ E[i].oth (Q[q]'(by omega)) = Q[j] ∧ roomE E[i] (f.getD i 0) (Q[q]'(by omega)) ≠ 0
theorem Bfs.begin (E : List Ed) (f : List Int) (fr : ByteArray) (z : St2) : Bfs E f fr [fr] (SM.nil.put fr z) where
  ok := SM.ok_nil.put _ _
  nd := by simp
  hd := rfl
  mem s := by
    rw [SM.get_put, SM.get_nil, List.mem_singleton]
    by_cases h : fr = s
    · simp [h]
    · simp [h]; exact fun e => h e.symm
  step j hj h := by simp at hj; omega
theorem Bfs.more {E : List Ed} {f : List Int} {fr : ByteArray} {Q : List ByteArray} {came : SMt} (h : Bfs E f fr Q came) {p i : Nat} (hp : p < Q.length) (hi : i < E.length) (hat : E[i].at Q[p]) (hr : roomE E[i] (f.getD i 0) Q[p] ≠ 0) (hn : E[i].oth Q[p] ∉ Q) :
    Bfs E f fr (Q ++ [E[i].oth Q[p]]) (came.put (E[i].oth Q[p]) ((i : Int), Q[p])) where
  ok := h.ok.put _ _
  nd := by
    rw [List.nodup_append]
    refine ⟨h.nd, by simp, ?_⟩
    intro x hx y hy e
    rw [List.mem_singleton] at hy
    subst hy; subst e
    exact hn hx
  hd := by
    rw [List.getElem?_append_left (by omega)]; exact h.hd
  mem s := by
    rw [SM.get_put, List.mem_append, List.mem_singleton]
    by_cases e : E[i].oth Q[p] = s
    · simp [e]
    · rw [if_neg e, h.mem s]
      constructor
      · exact .inl
      · rintro (q | q)
        · exact q
        · exact absurd q.symm e
  step j hj h0 := by
    rw [List.length_append, List.length_singleton] at hj
    by_cases e : j = Q.length
    · subst e
      refine ⟨i, hi, p, hp, ?_⟩
      simp only [List.getElem_append_left hp]
      rw [List.getElem_append_right (Nat.le_refl _)]
      simp only [Nat.sub_self, List.getElem_cons_zero]
      exact ⟨by rw [SM.get_put, if_pos rfl], hat, trivial, hr⟩
    · have hj' : j < Q.length := by omega
      obtain ⟨i', hi', q, hq, g1, g2, g3, g4⟩ := h.step j hj' h0
      refine ⟨i', hi', q, hq, ?_⟩
      simp only [List.getElem_append_left hj', List.getElem_append_left (show q < Q.length by omega)]
      refine ⟨?_, g2, g3, g4⟩
      rw [SM.get_put, if_neg (fun e2 => hn (by rw [e2]; exact List.getElem_mem hj'))]
      exact g1
inductive Bk (came : SMt) (fr : ByteArray) : ByteArray → List St2 → Prop
  | nil : Bk came fr fr []
  | cons {t : ByteArray} {x : St2} {P : List St2} : t ≠ fr → came.get t = some x → Bk came fr x.2 P → Bk came fr t (x :: P)
structure WayOk (E : List Ed) (f : List Int) (P : List St2) : Prop where
  valid : ∀ x ∈ P, ∃ (i : Nat) (hi : i < E.length), x.1 = (i : Int) ∧ E[i].at x.2 ∧ roomE E[i] (f.getD i 0) x.2 ≠ 0
  nd : (P.map (·.1)).Nodup
theorem ends_mem {e : Ed} {s x : ByteArray} (h : e.at s) (hx : e.at x) (hne : e.a ≠ e.b) : x = s ∨ x = e.oth s := by
  unfold Ed.at Ed.oth at *
  by_cases h1 : e.a = s
  · rw [if_pos h1]
    rcases hx with q | q
    · exact .inl (q.symm.trans h1)
    · exact .inr q.symm
  · rw [if_neg h1]
    have h2 := h.resolve_left h1
    rcases hx with q | q
    · exact .inr q.symm
    · exact .inl (q.symm.trans h2)
theorem Bfs.back {E : List Ed} {f : List Int} {fr : ByteArray} {Q : List ByteArray} {came : SMt} (h : Bfs E f fr Q came) (hE : EdsOk E) : ∀ (n j : Nat) (hj : j < Q.length), j < n → ∀ P, Bk came fr Q[j] P → WayOk E f P ∧ (∀ x ∈ P, ∀ (i : Nat) (hi : i < E.length), x.1 = (i : Int) → ∀ s, E[i].at s → ∃ k, ∃ hk : k < Q.length, k ≤ j ∧ Q[k] = s) ∧ P.length ≤ j
  | 0, j, hj, hn, _, _ => by omega
  | n + 1, j, hj, hn, P, hP => by
    have h00 : ∀ (h0 : 0 < Q.length), Q[0] = fr := fun h0 => by
      have := h.hd
      rw [List.getElem?_eq_getElem h0] at this
      exact Option.some.inj this
    generalize hq : Q[j] = t at hP
    cases hP with
    | nil => exact ⟨⟨fun x hx => (by cases hx), by simp⟩, fun x hx => (by cases hx), Nat.zero_le _⟩
    | @cons _ x P' hne hg hr =>
      have hj0 : 0 < j := by
        rcases Nat.eq_zero_or_pos j with e | e
        · subst e
          exact absurd (hq.symm.trans (h00 hj)) hne
        · exact e
      obtain ⟨i, hi, q, hql, g1, g2, g3, g4⟩ := h.step j hj hj0
      rw [hq] at g1 g3
      rw [hg] at g1; cases g1
      obtain ⟨w, hb, hlen⟩ := Bfs.back h hE n q (by omega) (by omega) P' hr
      have hne2 := (hE _ (List.getElem_mem hi)).1
      have hend : ∀ s, E[i].at s → s = Q[q] ∨ s = Q[j] := fun s hs => by
        rcases ends_mem g2 hs hne2 with e | e
        · exact .inl e
        · exact .inr (by rw [e, g3, hq])
      refine ⟨⟨?_, ?_⟩, ?_, by simp; omega⟩
      · intro y hy
        rcases List.mem_cons.1 hy with e | e
        · subst e; exact ⟨i, hi, rfl, g2, g4⟩
        · exact w.valid y e
      · rw [List.map_cons, List.nodup_cons]
        refine ⟨fun hm => ?_, w.nd⟩
        obtain ⟨y, hy, e⟩ := List.mem_map.1 hm
        obtain ⟨k, hk, hkq, e2⟩ := hb y hy i hi e Q[j] (by rw [hq, ← g3]; exact oth_at g2)
        have : k = j := (List.getElem_inj h.nd).1 e2
        omega
      · intro y hy i' hi' e s hs
        rcases List.mem_cons.1 hy with e2 | e2
        · subst e2
          have : i' = i := by have e : (i : Int) = (i' : Int) := e; omega
          subst this
          rcases hend s hs with e3 | e3
          · exact ⟨q, by omega, by omega, e3.symm⟩
          · exact ⟨j, hj, Nat.le_refl _, e3.symm⟩
        · obtain ⟨k, hk, hkq, e3⟩ := hb y e2 i' hi' e s hs
          exact ⟨k, hk, by omega, e3⟩
theorem Bfs.index {E : List Ed} {f : List Int} {fr : ByteArray} {Q : List ByteArray} {came : SMt} (h : Bfs E f fr Q came) {t : ByteArray} {x : St2} (hne : t ≠ fr) (hg : came.get t = some x) : ∃ (j q : Nat) (hj : j < Q.length) (hq : q < j), Q[j] = t ∧ Q[q]'(by omega) = x.2 := by
  obtain ⟨j, hj, e⟩ := List.mem_iff_getElem.1 ((h.mem t).1 (by rw [hg]; rfl))
  have hj0 : 0 < j := by
    rcases Nat.eq_zero_or_pos j with e2 | e2
    · subst e2
      have := h.hd
      rw [List.getElem?_eq_getElem hj, e] at this
      exact absurd (Option.some.inj this) hne
    · exact e2
  obtain ⟨i, hi, q, hq, g1, _⟩ := h.step j hj hj0
  rw [e, hg] at g1
  exact ⟨j, q, hj, hq, e, (congrArg Prod.snd (Option.some.inj g1)).symm⟩
def ind (C : ByteArray → Bool) (s : ByteArray) : Int := if C s = true then 1 else 0
def cutF (C : ByteArray → Bool) : List Ed → List Int → Int
  | e :: r, x :: t => x * (ind C e.a - ind C e.b) + cutF C r t
  | _, _ => 0
def cutC (C : ByteArray → Bool) : List Ed → Int
  | e :: r => (if C e.a = C e.b then 0 else e.cap) + cutC C r
  | [] => 0
structure Feas (E : List Ed) (fr to : ByteArray) (f : List Int) (sum : Int) : Prop where
  len : f.length = E.length
  in_ : ∀ i (hi : i < E.length) (hf : i < f.length), -E[i].cap ≤ f[i] ∧ f[i] ≤ E[i].cap
  cut : ∀ C : ByteArray → Bool, cutF C E f = sum * (ind C fr - ind C to)
theorem cutF_zero (C : ByteArray → Bool) : ∀ (E : List Ed) (n : Nat), cutF C E (List.replicate n 0) = 0
  | [], _ => by cases ‹Nat› <;> simp [cutF]
  | e :: r, 0 => by simp [cutF]
  | e :: r, n + 1 => by rw [List.replicate_succ, cutF, cutF_zero C r n]; simp
theorem Feas.begin {E : List Ed} (hc : ∀ e ∈ E, 0 ≤ e.cap) (fr to : ByteArray) : Feas E fr to (List.replicate E.length 0) 0 where
  len := by simp
  in_ i hi hf := by
    have := hc _ (List.getElem_mem hi)
    simp; omega
  cut C := by rw [cutF_zero]; simp
theorem cutF_le (C : ByteArray → Bool) : ∀ (E : List Ed) (f : List Int), (∀ i (hi : i < E.length) (hf : i < f.length), -E[i].cap ≤ f[i] ∧ f[i] ≤ E[i].cap) → (∀ e ∈ E, 0 ≤ e.cap) → cutF C E f ≤ cutC C E
  | [], f, _, _ => by cases f <;> simp [cutF, cutC]
  | e :: r, [], _, hc => by
    have : ∀ E : List Ed, (∀ e ∈ E, 0 ≤ e.cap) → 0 ≤ cutC C E := by
      intro E
      induction E with
      | nil => intro _; simp [cutC]
      | cons a t ih =>
        intro h
        have h1 := ih (fun x hx => h x (by simp [hx]))
        have h2 := h a (by simp)
        simp only [cutC]; split <;> omega
    simp only [cutF]
    exact this _ hc
  | e :: r, x :: t, h, hc => by
    have ih := cutF_le C r t (fun i hi hf => h (i + 1) (by simpa using hi) (by simpa using hf)) (fun y hy => hc y (by simp [hy]))
    have h0 := h 0 (by simp) (by simp)
    simp only [List.getElem_cons_zero] at h0
    have hce := hc e (by simp)
    simp only [cutF, cutC]
    unfold ind
    cases ha : C e.a <;> cases hb : C e.b <;> simp <;> omega
end Go.Proofs.YtbdlhiogjnbhjaaGreat

namespace Go.Proofs.YtbdlhiogjnbhjaaGreat
set_option linter.unusedVariables false
set_option linter.unusedSimpArgs false
open Abs

theorem Feas.le {E : List Ed} {fr to : ByteArray} {f : List Int} {sum : Int} (h : Feas E fr to f sum) (hc : ∀ e ∈ E, 0 ≤ e.cap) (C : ByteArray → Bool) (h1 : C fr = true) (h2 : C to = false) : sum ≤ cutC C E := by
  have h3 := cutF_le C E f (fun i hi hf => h.in_ i hi hf) hc
  rw [h.cut C] at h3
  unfold ind at h3
  rw [if_pos h1, if_neg (by rw [h2]; decide)] at h3
  omega
end Go.Proofs.YtbdlhiogjnbhjaaGreat

namespace Go.Proofs.YtbdlhiogjnbhjaaGreat
set_option linter.unusedVariables false
set_option linter.unusedSimpArgs false
open Abs

section
variable {E : List Ed} {g : CM} {to fr : ByteArray}
end
end Go.Proofs.YtbdlhiogjnbhjaaGreat

namespace Go.Proofs.YtbdlhiogjnbhjaaGreat
set_option linter.unusedVariables false
set_option linter.unusedSimpArgs false
open Abs

def edOf (cap : Du → Int) (x : Du) : Ed := ⟨x.key, x.a, x.b, x.long, cap x⟩
def netE (cap : Du → Int) (d : List Du) : List Ed := (d.filter fun x => decide (0 < cap x)).map (edOf cap)
theorem net_take (cap : Du → Int) {d : List Du} {k : Nat} (h : k < d.length) : netE cap (d.take (k + 1)) = netE cap (d.take k) ++ (if 0 < cap d[k] then [edOf cap d[k]] else []) := by
  rw [List.take_succ_eq_append_getElem h]
  unfold netE
  rw [List.filter_append, List.map_append]
  congr 1
  by_cases q : 0 < cap d[k]
  · simp [q]
  · simp [q]
theorem net_len (cap : Du → Int) (d : List Du) : (netE cap d).length ≤ d.length := by
  unfold netE; rw [List.length_map]; exact List.length_filter_le ..
theorem net_mem {cap : Du → Int} {d : List Du} {e : Ed} (h : e ∈ netE cap d) : ∃ x ∈ d, 0 < cap x ∧ e = edOf cap x := by
  unfold netE at h
  obtain ⟨x, hx, rfl⟩ := List.mem_map.1 h
  have := List.mem_filter.1 hx
  exact ⟨x, this.1, by simpa using this.2, rfl⟩
set_option maxRecDepth 100000 in
set_option maxHeartbeats 4000000 in
theorem pass_pc (s : ByteArray) : PCp 89 [.c (.str s)] [] (.c (.bool true)) [] := by
  refine fn_sound (mt := mts) tab_fits tab_mixed Tryz.func89 (by rfl) (by kernel_rfl) (by kernel_rfl) Tryz.results89 (Nat.le_of_ble_eq_true (by kernel_rfl)) ?_
  conv => whnf
  skip
  exact finb rfl
set_option maxRecDepth 100000 in
set_option maxHeartbeats 4000000 in
theorem network_pc (g : Nat) (cap : Du → Int) (d : List Du) (l : List Ly) (outer : Int) (hd : d.length ≤ 1000)
    (hg : ∀ x ∈ d, PCp g [.agg (encDu x), .c (.ptr 0 0), .c (.ptr 1 0)] [.box [.lst 3 (l.map encLy)], .box [.int .i64 outer]] (.c (.int .i64 (cap x))) [.box [.lst 3 (l.map encLy)], .box [.int .i64 outer]]) :
    PCp 56 [.c (.lst 5 (d.map encDu)), .c (.fn g [.ptr 0 0, .ptr 1 0])] [.box [.lst 3 (l.map encLy)], .box [.int .i64 outer]] (gphS (netE cap d) 89) [.box [.lst 3 (l.map encLy)], .box [.int .i64 outer]] := by
  have hdm : (d.map encDu).length = d.length := List.length_map ..
  refine fn_sound (mt := mts) tab_fits tab_mixed Tryz.func56 (by rfl) (by kernel_rfl) (by kernel_rfl) Tryz.results56 (Nat.le_of_ble_eq_true (by kernel_rfl)) ?_
  conv => whnf
  skip
  refine loop_for (d.length) [.bx 5 0 125 5] [1, 4, 5, 10, 11, 12] (fun k (_ : Unit) => [(12, .c (.int .i64 (k : Int)))]) (fun k (_ : Unit) => [(4, .row 125 5 ((netE cap (d.take k)).map encEd))]) (fun k (_ : Unit) => True) (()) ?_
  conv => whnf
  refine ⟨?_, (by trivial), ?_, ?_⟩
  · rfl
  · intro k _ hk _
    have hnt := net_take cap hk
    have hnl := net_len cap (d.take k)
    rw [List.length_take] at hnl
    have hnm : ((netE cap (d.take k)).map encEd).length = (netE cap (d.take k)).length := List.length_map ..
    have cg := hg d[k] (List.getElem_mem hk)
    conv => whnf
    repeat' (first | (refine CondG.mk (fun h => ?_) (fun h => ?_) <;> (try simp only [decide_eq_true_eq, decide_eq_false_iff_not, Bool.not_eq_true', Bool.not_eq_false', beq_iff_eq, beq_eq_false_iff_ne, bne_iff_ne, bne_eq_false_iff_eq] at h) <;> (first | (exfalso; first | omega | exact h trivial) | (conv => whnf))) | (refine  CallX.mk _ _ (by exact cg) ?_; conv => whnf) | (refine AppG.mk (by first | omega | (unfold roomOK; simp [cutRows]; done) | (unfold roomOK; simp [cutRows]; omega) | (simp [cutRows]; done) | (simp [cutRows]; omega)) ?_; conv => whnf) | (refine idx_at _ (by with_reducible rfl) (by first | assumption | omega) ?_; conv => whnf) | fail)
    · have h9 : 0 < cap d[k] := by omega
      rw [if_pos h9] at hnt
      exact count_next () hk (by rw [wrap_succ hk (by omega), hnt, List.map_append]; rfl) trivial
    · have h9 : ¬ 0 < cap d[k] := by omega
      rw [if_neg h9, List.append_nil] at hnt
      exact count_next () hk (by rw [wrap_succ hk (by omega), hnt]; rfl) trivial
  · intro _ _
    rw [List.take_length]
    conv => whnf
    repeat' (first | (refine CondG.mk (fun h => ?_) (fun h => ?_) <;> (try simp only [decide_eq_true_eq, decide_eq_false_iff_not, Bool.not_eq_true', Bool.not_eq_false', beq_iff_eq, beq_eq_false_iff_ne, bne_iff_ne, bne_eq_false_iff_eq] at h) <;> (first | (exfalso; first | omega | exact h trivial) | (conv => whnf))) | fail)
    exact .mk ⟨rfl, rfl⟩
theorem du_ends {d : List Du} (h : duFault d = 0) : ∀ x ∈ d, x.a.size ≠ 0 ∧ x.b.size ≠ 0 ∧ x.a ≠ x.b := by
  unfold duFault at h
  split at h
  · omega
  · intro x hx
    obtain ⟨f, b, h1⟩ := seqErr_all h x hx
    unfold duErr at h1
    split at h1
    · omega
    · rename_i h2
      simp only [Bool.or_eq_true, Bool.not_eq_true', not_or, Bool.not_eq_false] at h2
      split at h1
      · omega
      · rename_i h3
        have hz : ∀ s : ByteArray, keyB s = true → s.size ≠ 0 := fun s hs => by
          unfold keyB at hs
          simp only [decide_eq_true_eq] at hs
          omega
        exact ⟨hz _ h2.1.2, hz _ h2.2, fun q => h3 (by simp [q])⟩
def fitCap (l : List Ly) (outer : Int) (x : Du) : Int := if fitsV x l outer = true then 1 else 0
set_option maxRecDepth 100000 in
set_option maxHeartbeats 4000000 in
theorem way1_pc (d : List Du) (l : List Ly) (hok : LyOk d l) (outer : Int) (hq : 0 ≤ outer ∧ outer ≤ 1000) (x : Du) (hx : x ∈ d) : PCp 57 [.agg (encDu x), .c (.ptr 0 0), .c (.ptr 1 0)] [.box [.lst 3 (l.map encLy)], .box [.int .i64 outer]] (.c (.int .i64 (fitCap l outer x))) [.box [.lst 3 (l.map encLy)], .box [.int .i64 outer]] := by
  refine fn_sound (mt := mts) tab_fits tab_mixed Tryz.func57 (by rfl) (by kernel_rfl) (by kernel_rfl) Tryz.results57 (Nat.le_of_ble_eq_true (by kernel_rfl)) ?_
  conv => whnf
  repeat' (first | (refine CondG.mk (fun h => ?_) (fun h => ?_) <;> (try simp only [decide_eq_true_eq, decide_eq_false_iff_not, Bool.not_eq_true', Bool.not_eq_false', beq_iff_eq, beq_eq_false_iff_ne, bne_iff_ne, bne_eq_false_iff_eq] at h) <;> (first | (exfalso; first | omega | exact h trivial) | (conv => whnf))) | (refine  CallX.mk _ _ (by exact dFits_pc d l hok x hx outer hq) ?_; conv => whnf) | fail)
  · exact .mk ⟨by rw [fitCap, if_pos (by assumption)]; rfl, rfl⟩
  · exact .mk ⟨by rw [fitCap, if_neg (by rw [show fitsV x l outer = false by assumption]; decide)]; rfl, rfl⟩
theorem net_ok {d : List Du} (h : duFault d = 0) (cap : Du → Int) : EdsOk (netE cap d) ∧ (∀ e ∈ netE cap d, e.a.size ≠ 0 ∧ e.b.size ≠ 0) ∧ Rise Ed.key (netE cap d) := by
  have hd := duFault_ok h
  have he := du_ends h
  refine ⟨fun e hm => ?_, fun e hm => ?_, ?_⟩
  · obtain ⟨x, hx, _, rfl⟩ := net_mem hm
    have := hd.each x hx
    exact ⟨(he x hx).2.2, this.2.1, this.2.2.1⟩
  · obtain ⟨x, hx, _, rfl⟩ := net_mem hm
    exact ⟨(he x hx).1, (he x hx).2.1⟩
  · unfold Rise netE
    rw [List.pairwise_map]
    exact hd.rise.sublist List.filter_sublist
theorem sumLg_in : ∀ P : List Ed, (∀ e ∈ P, 1 ≤ e.long ∧ e.long ≤ 200000) → 0 ≤ sumLg P ∧ sumLg P ≤ 200000 * (P.length : Int)
  | [], _ => by simp [sumLg]
  | e :: r, h => by
    have ih := sumLg_in r (fun x hx => h x (by simp [hx]))
    have he := h e (by simp)
    simp only [sumLg, List.length_cons]
    push_cast
    omega
set_option maxRecDepth 100000 in
set_option maxHeartbeats 4000000 in
theorem way_pc (d : List Du) (l : List Ly) (h0 : duFault d = 0) (hok : LyOk d l) (fr to : ByteArray) (hto : to.size ≠ 0) (outer : Int) (hq : 0 ≤ outer ∧ outer ≤ 1000) :
    PCq 21 [.c (.lst 5 (d.map encDu)), .c (.lst 3 (l.map encLy)), .c (.str fr), .c (.str to), .c (.int .i64 outer)] [] fun r os => ∃ g : CM, Costs (netE (fitCap l outer) d) to (sitesE (netE (fitCap l outer) d) to) g ∧
      ((g.get fr = none ∧ r = .tup [.c (.lst 1 []), .c (.int .i64 0), .c (.bool false)] ∧ os = []) ∨ ∃ c P, FW (netE (fitCap l outer) d) g to fr to c P ∧ r = .tup [.c (.row 0), .c (.int .i64 (sumLg P)), .c (.bool true)] ∧ os = [.row 9 1 ((P.map Ed.key).map encS)]) := by
  have hd := hok.du
  obtain ⟨n1, n2, n3⟩ := net_ok h0 (fitCap l outer)
  have hnl := net_len (fitCap l outer) d
  have hdl := hd.len
  refine fn_soundX (mt := mts) tab_fits tab_mixed Tryz.func21 (by rfl) (by kernel_rfl) (by kernel_rfl) Tryz.results21 (Nat.le_of_ble_eq_true (by kernel_rfl)) ?_
  conv => whnf
  repeat' (first | (refine  CallX.mk _ _ (by exact network_pc 57 (fitCap l outer) d l outer (by omega) (fun x hx => way1_pc d l hok outer hq x hx)) ?_; conv => whnf) | fail)
  refine .ex _ (gBest_pc (netE (fitCap l outer) d) fr to 89 pass_pc n1 n2 hto (by omega) n3) ?_
  rintro _ _ ⟨g, hC, rfl, ⟨hn, rfl⟩ | ⟨c, P, hF, rfl⟩⟩
  · have hz : ([] : List (List V)).length = 0 := rfl
    conv => whnf
    skip
    refine .un 1 ?_
    conv => whnf
    repeat' (first | (refine CondG.mk (fun h => ?_) (fun h => ?_) <;> (try simp only [decide_eq_true_eq, decide_eq_false_iff_not, Bool.not_eq_true', Bool.not_eq_false', beq_iff_eq, beq_eq_false_iff_ne, bne_iff_ne, bne_eq_false_iff_eq] at h) <;> (first | (exfalso; first | omega | exact h trivial) | (conv => whnf))) | fail)
    refine .mk _ _ ⟨g, hC, .inl ⟨hn, rfl, rfl⟩⟩ (.weak [] (.tup _ _ rfl ?_) rfl (Nat.le_refl _))
    intro i x y hx hy
    match i with
    | 0 => cases hx; cases hy; exact .nil 1
    | 1 => cases hx; cases hy; exact .refl _
    | 2 => cases hx; cases hy; exact .refl _
    | n + 3 => cases hx
  · have hPl := hF.few hC
    rw [sitesE_len] at hPl
    have hPm : (P.map encEd).length = P.length := List.length_map ..
    conv => whnf
    skip
    refine loop_for (P.length) [.sl 10 9 1] [10, 11, 12, 27, 28, 29] (fun k (_ : Unit) => [(11, .c (.int .i64 (sumLg (P.take k)))), (29, .c (.int .i64 (k : Int)))]) (fun k (_ : Unit) => [(0, .row 9 1 (((P.take k).map Ed.key).map encS))]) (fun k (_ : Unit) => True) (()) ?_
    conv => whnf
    refine ⟨?_, (by trivial), ?_, ?_⟩
    · rfl
    · intro k _ hk _
      have hs1 : sumLg (P.take (k + 1)) = sumLg (P.take k) + P[k].long := by
        rw [List.take_succ_eq_append_getElem hk, sumLg_app]; simp [sumLg]
      have hk1 : (P.take (k + 1)).map Ed.key = (P.take k).map Ed.key ++ [P[k].key] := by
        rw [List.take_succ_eq_append_getElem hk, List.map_append]; rfl
      have hin := sumLg_in (P.take k) (fun e he => (n1 e (hF.sub e (List.mem_of_mem_take he))).2)
      have hek := (n1 _ (hF.sub _ (List.getElem_mem hk))).2
      have htl : (P.take k).length = k := by rw [List.length_take]; omega
      have hkl : (((P.take k).map Ed.key).map encS).length = k := by rw [List.length_map, List.length_map, htl]
      rw [htl] at hin
      conv => whnf
      repeat' (first | (refine CondG.mk (fun h => ?_) (fun h => ?_) <;> (try simp only [decide_eq_true_eq, decide_eq_false_iff_not, Bool.not_eq_true', Bool.not_eq_false', beq_iff_eq, beq_eq_false_iff_ne, bne_iff_ne, bne_eq_false_iff_eq] at h) <;> (first | (exfalso; first | omega | exact h trivial) | (conv => whnf))) | (refine AppG.mk (by first | omega | (unfold roomOK; simp [cutRows]; done) | (unfold roomOK; simp [cutRows]; omega) | (simp [cutRows]; done) | (simp [cutRows]; omega)) ?_; conv => whnf) | (refine idx_at _ (by with_reducible rfl) (by first | assumption | omega) ?_; conv => whnf) | fail)
      exact count_next () hk (by rw [wrap_succ hk (by omega), wrap_in (by omega) (by omega), hs1, hk1, List.map_append]; rfl) trivial
    · intro _ _
      rw [List.take_length]
      conv => whnf
      repeat' (first | (refine CondG.mk (fun h => ?_) (fun h => ?_) <;> (try simp only [decide_eq_true_eq, decide_eq_false_iff_not, Bool.not_eq_true', Bool.not_eq_false', beq_iff_eq, beq_eq_false_iff_ne, bne_iff_ne, bne_eq_false_iff_eq] at h) <;> (first | (exfalso; first | omega | exact h trivial) | (conv => whnf))) | fail)
      exact .mk _ _ ⟨g, hC, .inr ⟨c, P, hF, rfl, rfl⟩⟩ (.mk ⟨rfl, rfl⟩)
end Go.Proofs.YtbdlhiogjnbhjaaGreat

namespace Go.Proofs.YtbdlhiogjnbhjaaGreat
set_option linter.unusedVariables false
set_option linter.unusedSimpArgs false
open Abs

def siteB (d : List Du) (s : ByteArray) : Bool := d.any fun x => decide (x.a = s) || decide (x.b = s)
def endsErr (d : List Du) (fr to : ByteArray) (outer : Int) : Int := if siteB d fr = false ∨ siteB d to = false then 8 else if fr = to then 6 else if outer < 1 ∨ 1000 < outer then 1 else 0
set_option maxRecDepth 100000 in
set_option maxHeartbeats 4000000 in
theorem wf1_pc (x : Du) (s : ByteArray) : PCp 54 [.agg (encDu x), .c (.ptr 0 0)] [.box [.str s]] (.c (.bool (decide (x.a = s) || decide (x.b = s)))) [.box [.str s]] := by
  refine fn_sound (mt := mts) tab_fits tab_mixed Tryz.func54 (by rfl) (by kernel_rfl) (by kernel_rfl) Tryz.results54 (Nat.le_of_ble_eq_true (by kernel_rfl)) ?_
  conv => whnf
  repeat' (first | (refine Split.mk (fun h => ?_) (fun h => ?_) <;> (try simp only [decide_eq_true_eq, decide_eq_false_iff_not, Bool.not_eq_true', Bool.not_eq_false', beq_iff_eq, beq_eq_false_iff_ne, bne_iff_ne, bne_eq_false_iff_eq] at h) <;> (first | (exfalso; first | omega | exact h trivial) | (conv => whnf))) | fail)
  · exact .mk ⟨by rw [decide_eq_true (strEqW.1 h), Bool.true_or]; rfl, rfl⟩
  · exact .mk ⟨by rw [decide_eq_false (fun q => h (strEqW.2 q)), Bool.false_or, ← beqL]; rfl, rfl⟩
set_option maxRecDepth 100000 in
set_option maxHeartbeats 4000000 in
theorem waysFault_pc (d : List Du) (hd : d.length ≤ 1000) (fr to : ByteArray) (outer : Int) : PCp 20 [.c (.lst 5 (d.map encDu)), .c (.str fr), .c (.str to), .c (.int .i64 outer)] [] (.c (.int .i64 (endsErr d fr to outer))) [] := by
  have c1 := fun s => ixDuKC_pc s 54 (fun x : Du => decide (x.a = s) || decide (x.b = s)) d (by omega) (fun x _ => wf1_pc x s)
  have hs : ∀ s, (d.any fun x => decide (x.a = s) || decide (x.b = s)) = siteB d s := fun s => rfl
  simp only [hs] at c1
  have w1 : IntKind.i64.wrap (0 + 1) = 1 := rfl
  have w2 : IntKind.i64.wrap (IntKind.i64.wrap (0 + 1) + 1) = 2 := rfl
  have hL2 : ([[V.str fr], [V.str to]] : List (List V)).length = 2 := rfl
  refine fn_sound (mt := mts) tab_fits tab_mixed Tryz.func20 (by rfl) (by kernel_rfl) (by kernel_rfl) Tryz.results20 (Nat.le_of_ble_eq_true (by kernel_rfl)) ?_
  conv => whnf
  skip
  dsimp only [cutRows, takeN, dropN]
  refine .un 3 ?_
  conv => whnf
  repeat' (first | (refine CondG.mk (fun h => ?_) (fun h => ?_) <;> (try simp only [decide_eq_true_eq, decide_eq_false_iff_not, Bool.not_eq_true', Bool.not_eq_false', beq_iff_eq, beq_eq_false_iff_ne] at h) <;> (first | (exfalso; first | omega | exact h trivial) | (conv => whnf))) | (refine  CallX.mk _ _ (by first | exact c1 fr | exact c1 to | exact dOuterFault_pc _) ?_; conv => whnf) | (refine .mk (by first | omega | (unfold roomOK; simp [cutRows]; done) | (unfold roomOK; simp [cutRows]; omega)) ?_; conv => whnf) | ((refine RowG.mk [.str fr] (by rfl) ?_); conv => whnf) | ((refine RowG.mk [.str to] (by rfl) ?_); conv => whnf) | fail)
  · exact .mk ⟨by rw [endsErr, if_pos (.inl (by assumption))]; rfl, rfl⟩
  · exact .mk ⟨by rw [endsErr, if_pos (.inr (by assumption))]; rfl, rfl⟩
  · have t1 : siteB d fr = true := by assumption
    have t2 : siteB d to = true := by assumption
    exact .mk ⟨by rw [endsErr, if_neg (by rw [t1, t2]; decide), if_pos (strEqW.1 h)]; rfl, rfl⟩
  · have t1 : siteB d fr = true := by assumption
    have t2 : siteB d to = true := by assumption
    have t3 : endsErr d fr to outer = if outer < 1 ∨ 1000 < outer then 1 else 0 := by
      unfold endsErr
      rw [if_neg (show ¬ (siteB d fr = false ∨ siteB d to = false) by rw [t1, t2]; decide), if_neg (show ¬ fr = to from fun q => h (strEqW.2 q))]
    exact .mk ⟨by rw [t3]; rfl, rfl⟩
end Go.Proofs.YtbdlhiogjnbhjaaGreat

namespace Go.Proofs.YtbdlhiogjnbhjaaGreat
set_option linter.unusedVariables false
set_option linter.unusedSimpArgs false
open Abs

set_option maxRecDepth 100000 in
set_option maxHeartbeats 4000000 in
theorem bsLy_pc (g : Nat) (c : Ly → Int) (t : S) (l : List Ly) (hl : l.length ≤ 1000000) (hmono : ∀ i j (hj : j < l.length) (hij : i ≤ j), c l[j] < 0 → c (l[i]'(by omega)) < 0) (ht : isStr t) (hg : ∀ x ∈ l, PCp g [.agg (encLy x), t] [] (.c (.int .i64 (c x))) []) :
    PCp 23 [.c (.lst 3 (l.map encLy)), t, .c (.fn g [])] [] (.tup [.c (.int .i64 ((cntL c l : Nat) : Int)), .c (.bool (hitL c l))]) [] := by
  have hlm : (l.map encLy).length = l.length := List.length_map ..
  obtain ⟨key, rfl⟩ := ht
  refine fn_sound (mt := mts) tab_fits tab_mixed Tryz.func23 (by rfl) (by kernel_rfl) (by kernel_rfl) Tryz.results23 (Nat.le_of_ble_eq_true (by kernel_rfl)) ?_
  conv => whnf
  refine loop_meas2 (fun (i : Nat) (j : Nat) => j - i) [] [0, 1, 2, 8, 9, 10] (fun (i : Nat) (j : Nat) => ⟨[(0, .c (.lst 3 (l.map encLy))), (1, .c (.str key)), (2, .c (.fn g [])), (8, .c (.int .i64 (l.map encLy).length)), (9, .c (.int .i64 ((i : Nat) : Int))), (10, .c (.int .i64 ((j : Nat) : Int)))], [], 0⟩) (fun (i : Nat) (j : Nat) => i ≤ j ∧ j ≤ l.length ∧ (∀ k (h : k < l.length), k < i → c l[k] < 0) ∧ (∀ k (h : k < l.length), j ≤ k → ¬ c l[k] < 0)) (0) (l.length) ?_ ?_
  · conv => whnf
    exact ⟨by rw [hlm]; rfl, Nat.zero_le _, Nat.le_refl _, by intro k h h2; omega, by intro k h h2; omega⟩
  · intro i j ⟨h1, h2, h3, h4⟩
    have hmid := mid_eq (i := i) (j := j) (by omega)
    conv => whnf
    repeat' (first | (refine .mk (fun h => ?_) (fun h => ?_) <;> (try simp only [decide_eq_true_eq, decide_eq_false_iff_not, Bool.not_eq_true', Bool.not_eq_false', beq_iff_eq, beq_eq_false_iff_ne, bne_iff_ne, bne_eq_false_iff_eq] at h) <;> (first | (exfalso; first | omega | exact h trivial) | (conv => whnf))) | (refine .mk (by first | omega | (unfold roomOK; simp [cutRows]; done) | (unfold roomOK; simp [cutRows]; omega) | (simp [cutRows]; done) | (simp [cutRows]; omega)) ?_; conv => whnf) | (refine idx_at _ (by with_reducible rfl) (by first | assumption | omega) ?_; conv => whnf) | fail)
    · rw [hmid]
      refine idx_map ((i + j) / 2) (by omega) rfl ?_
      conv => whnf
      repeat' (first | (refine CondG.mk (fun h => ?_) (fun h => ?_) <;> (try simp only [decide_eq_true_eq, decide_eq_false_iff_not, Bool.not_eq_true', Bool.not_eq_false', beq_iff_eq, beq_eq_false_iff_ne] at h) <;> (first | (exfalso; first | omega | exact h trivial) | (conv => whnf))) | (refine  CallX.mk _ _ (by exact hg (l[(i + j) / 2]'(by omega)) (List.getElem_mem _)) ?_; conv => whnf) | fail)
      · exact meas_next ((i + j) / 2 + 1, j) (by simp only; omega) (by rw [wrap_succ (n := l.length) (by omega) (by omega)]; rfl) ⟨by simp only; omega, h2, fun k hk hki => hmono k ((i + j) / 2) (by omega) (by simp only at hki; omega) h, h4⟩
      · exact meas_next (i, (i + j) / 2) (by simp only; omega) rfl ⟨by simp only; omega, by simp only; omega, h3, fun k hk hki => fun hc => h (hmono ((i + j) / 2) k hk hki hc)⟩
    all_goals
      have hij : i = j := by omega
      subst hij
      have hci : cntL c l = i := cntL_at h2 h3 h4
    · repeat' (first
        | (refine CallX.mk _ _ (by exact hg (l[i]'(by omega)) (List.getElem_mem _)) ?_; conv => whnf)
        | fail)
      exact .mk ⟨by rw [hitL, hci, List.getElem?_eq_getElem (show i < l.length by omega)]; rfl, rfl⟩
    · exact .mk ⟨by rw [hitL, hci, List.getElem?_eq_none (show l.length ≤ i by omega)]; rfl, rfl⟩
set_option maxRecDepth 100000 in
set_option maxHeartbeats 4000000 in
theorem laid1_pc (x : Ly) (k : ByteArray) : PCp 24 [.agg (encLy x), .c (.str k)] [] (.c (.int .i64 (cmpS x.cable k))) [] := by
  refine fn_sound (mt := mts) tab_fits tab_mixed Tryz.func24 (by rfl) (by kernel_rfl) (by kernel_rfl) Tryz.results24 (Nat.le_of_ble_eq_true (by kernel_rfl)) ?_
  conv => whnf
  repeat' (first | (refine  CallX.mk _ _ (by exact sCompare_pc _ _) ?_; conv => whnf) | fail)
  exact fini rfl
theorem du_of {d : List Du} {l : List Ly} (h : lyFault d l = 0) : duFault d = 0 := by
  unfold lyFault at h
  split at h
  · exact absurd h (by assumption)
  · rename_i h1; exact Classical.not_not.1 h1
theorem site_size {d : List Du} (h : duFault d = 0) {s : ByteArray} (hs : siteB d s = true) : s.size ≠ 0 := by
  unfold siteB at hs
  obtain ⟨x, hx, h1⟩ := List.any_eq_true.1 hs
  have he := du_ends h x hx
  rw [Bool.or_eq_true, decide_eq_true_eq, decide_eq_true_eq] at h1
  rcases h1 with rfl | rfl
  · exact he.1
  · exact he.2.1
theorem ends_ok {d : List Du} {fr to : ByteArray} {outer : Int} (h : endsErr d fr to outer = 0) : siteB d fr = true ∧ siteB d to = true ∧ fr ≠ to ∧ 1 ≤ outer ∧ outer ≤ 1000 := by
  unfold endsErr at h
  split at h
  · omega
  · rename_i h1
    split at h
    · omega
    · rename_i h2
      split at h
      · omega
      · rename_i h3
        refine ⟨?_, ?_, h2, by omega, by omega⟩
        · cases q : siteB d fr with
          | true => rfl
          | false => exact absurd (.inl q) h1
        · cases q : siteB d to with
          | true => rfl
          | false => exact absurd (.inr q) h1
end Go.Proofs.YtbdlhiogjnbhjaaGreat

namespace Go.Proofs.YtbdlhiogjnbhjaaGreat
set_option linter.unusedVariables false
set_option linter.unusedSimpArgs false
open Abs

section
variable {E : List Ed} {to fr : ByteArray} {S S' : List ByteArray} {g g' : CM}
theorem nbE_get (hg : ∀ s, g.get s = g'.get s) : nbE g = nbE g' := by
  funext s now e
  unfold nbE
  rw [hg]
theorem FW.congr (hg : ∀ s, g.get s = g'.get s) {s : ByteArray} {c : Co} {P : List Ed} (h : FW E g to fr s c P) : FW E g' to fr s c P := by
  induction h with
  | nil h => exact .nil (by rw [← hg]; exact h)
  | snoc i hi _ hne hb hl hc ih => rw [nbE_get hg] at hb hl; exact .snoc i hi ih hne hb hl (by rw [← hg]; exact hc)
theorem FW.same : ∀ (n : Nat) {s s' : ByteArray} {c c' : Co} {P P' : List Ed}, FW E g to fr s c P → FW E g to fr s' c' P' → P.length = n → P'.length = n → s = s' ∧ c = c' ∧ P = P' := by
  intro n
  induction n with
  | zero =>
    intro s s' c c' P P' h h' hl hl'
    cases h with
    | nil h =>
      cases h' with
      | nil h' => rw [h] at h'; cases h'; exact ⟨rfl, rfl, rfl⟩
      | snoc => simp at hl'
    | snoc => simp at hl
  | succ n ih =>
    intro s s' c c' P P' h h' hl hl'
    cases h with
    | nil h => simp at hl
    | snoc i hi h hne hb hm hc =>
      cases h' with
      | nil h' => simp at hl'
      | snoc j hj h' hne' hb' hm' hc' =>
        obtain ⟨rfl, rfl, rfl⟩ := ih h h' (by simpa using hl) (by simpa using hl')
        have hij : i = j := by
          rcases Nat.lt_trichotomy i j with q | q | q
          · rw [hm' i hi q] at hb; cases hb
          · exact q
          · rw [hm j hj q] at hb'; cases hb'
        subst hij
        rw [hc] at hc'
        cases hc'
        exact ⟨rfl, rfl, rfl⟩
end
theorem Sites.head {P : List Ed} {fr s : ByteArray} {L : List ByteArray} (h : Sites P fr s L) : L.getD 0 ⟨#[]⟩ = s := by
  cases h <;> rfl
theorem Sites.step {P : List Ed} {fr s : ByteArray} {L : List ByteArray} (h : Sites P fr s L) : ∀ j (hj : j < P.length), P[j].at (L.getD (P.length - j) ⟨#[]⟩) ∧ P[j].oth (L.getD (P.length - j) ⟨#[]⟩) = L.getD (P.length - (j + 1)) ⟨#[]⟩ := by
  induction h with
  | nil => intro j hj; simp at hj
  | @snoc P fr s L e hs hat ih =>
    intro j hj
    rw [List.length_append, List.length_singleton] at hj
    have hl : (P ++ [e]).length = P.length + 1 := by simp
    rw [hl]
    by_cases q : j = P.length
    · subst q
      rw [show P.length + 1 - P.length = 1 by omega, Nat.sub_self]
      have h0 := hs.head
      rw [List.getElem_append_right (Nat.le_refl _)]
      simp only [Nat.sub_self, List.getElem_cons_zero, List.getD_cons_succ, List.getD_cons_zero, h0]
      exact ⟨hat, trivial⟩
    · have hj' : j < P.length := by omega
      have := ih j hj'
      rw [show P.length + 1 - j = (P.length - j) + 1 by omega, show P.length + 1 - (j + 1) = (P.length - (j + 1)) + 1 by omega, List.getElem_append_left hj', List.getD_cons_succ, List.getD_cons_succ]
      exact this
end Go.Proofs.YtbdlhiogjnbhjaaGreat

namespace Go.Proofs.YtbdlhiogjnbhjaaGreat
set_option linter.unusedVariables false
set_option linter.unusedSimpArgs false
open Abs

section
variable {d : List Du} {l : List Ly} {o : Int} {cable : ByteArray} {ks : List ByteArray}
end
end Go.Proofs.YtbdlhiogjnbhjaaGreat

namespace Go.Proofs.YtbdlhiogjnbhjaaGreat
set_option linter.unusedVariables false
set_option linter.unusedSimpArgs false
open Abs

end Go.Proofs.YtbdlhiogjnbhjaaGreat

namespace Go.Proofs.YtbdlhiogjnbhjaaGreat
set_option linter.unusedVariables false
set_option linter.unusedSimpArgs false
open Abs

theorem eqSsS (l : List ByteArray) (hl : l.length ≤ 1000000) : PCp 29 [.c (.lst 1 (l.map encS)), .c (.lst 1 (l.map encS))] [] (.c (.bool true)) [] := by
  have := equalS_pc l l hl
  rwa [decide_eq_true rfl] at this
end Go.Proofs.YtbdlhiogjnbhjaaGreat

namespace Go.Proofs.YtbdlhiogjnbhjaaGreat
set_option linter.unusedVariables false
set_option linter.unusedSimpArgs false
open Abs

set_option maxRecDepth 100000 in
set_option maxHeartbeats 4000000 in
theorem laidE_pc (d : List Du) (l : List Ly) (h0 : lyFault d l = 0) (cable : ByteArray) (hck : keyB cable = true) (hcab : cabIx l cable = -1) (fr to : ByteArray) (o : Int) (he : endsErr d fr to o ≠ 0) :
    PCp 5 [.c (.lst 5 (d.map encDu)), .c (.lst 3 (l.map encLy)), .c (.str cable), .c (.str fr), .c (.str to), .c (.int .i64 o)] [] (.tup [.c (.lst 3 []), .c (.int .i64 (endsErr d fr to o))]) [] := by
  have hok := lyFault_ok h0
  have hx : ∀ x ∈ l, x.ducts.length ≤ 1000000 := fun x hm => (hok.rl x hm).2
  have hll := hok.len
  have hdl := hok.du.len
  have c1 := checkLying_pc d l hx
  rw [h0] at c1
  have c2 := lying_pc l (by omega) cable
  rw [hcab] at c2
  have c3 := waysFault_pc d (by omega) fr to o
  have c5 := bKey_pc cable
  rw [hck] at c5
  generalize endsErr d fr to o = E at *
  refine fn_sound (mt := mts) tab_fits tab_mixed Tryz.func5 (by rfl) (by kernel_rfl) (by kernel_rfl) Tryz.results5 (Nat.le_of_ble_eq_true (by kernel_rfl)) ?_
  conv => whnf
  repeat' (first | (refine CondG.mk (fun h => ?_) (fun h => ?_) <;> (try simp only [decide_eq_true_eq, decide_eq_false_iff_not, Bool.not_eq_true', Bool.not_eq_false', beq_iff_eq, beq_eq_false_iff_ne, bne_iff_ne, bne_eq_false_iff_eq] at h) <;> (first | (exfalso; first | omega | exact h trivial | contradiction | (simp_all [eqRes]; done)) | (conv => whnf))) | (refine  CallX.mk _ _ (by first | exact c1 | exact c5 | exact c2 | exact c3) ?_; conv => whnf) | fail)
  exact .weak [] (.tup _ _ rfl (fun i x y hx hy => by
    match i with
    | 0 => cases hx; cases hy; exact .nil 3
    | 1 => cases hx; cases hy; exact .refl _
    | n + 2 => cases hx)) rfl (Nat.le_refl _)
set_option maxRecDepth 100000 in
set_option maxHeartbeats 4000000 in
theorem sameLyY_pc (x : Ly) (hx : x.ducts.length ≤ 1000000) : PCp 12 [.agg (encLy x), .agg (encLy x)] [] (.c (.bool true)) [] := by
  have c1 := eqSsS x.ducts hx
  refine fn_sound (mt := mts) tab_fits tab_mixed Tryz.func12 (by rfl) (by kernel_rfl) (by kernel_rfl) Tryz.results12 (Nat.le_of_ble_eq_true (by kernel_rfl)) ?_
  conv => whnf
  repeat' (first | (refine Split.mk (fun h => ?_) (fun h => ?_) <;> (try simp only [decide_eq_true_eq, decide_eq_false_iff_not, Bool.not_eq_true', Bool.not_eq_false', beq_iff_eq, beq_eq_false_iff_ne, bne_iff_ne, bne_eq_false_iff_eq] at h) <;> (first | (exfalso; first | omega | exact h trivial | contradiction | (simp_all [eqRes]; done)) | (conv => whnf))) | (refine  CallX.mk _ _ (by exact c1) ?_; conv => whnf) | fail)
  all_goals exact finb rfl
set_option maxRecDepth 100000 in
set_option maxHeartbeats 4000000 in
theorem eqFuncLyY_pc (s : List Ly) (hl : s.length ≤ 1000000) (hx : ∀ x ∈ s, x.ducts.length ≤ 1000000) : PCp 11 [.c (.lst 3 (s.map encLy)), .c (.lst 3 (s.map encLy)), .c (.fn 12 [])] [] (.c (.bool true)) [] := by
  have hlm : (s.map encLy).length = s.length := List.length_map ..
  refine fn_sound (mt := mts) tab_fits tab_mixed Tryz.func11 (by rfl) (by kernel_rfl) (by kernel_rfl) Tryz.results11 (Nat.le_of_ble_eq_true (by kernel_rfl)) ?_
  conv => whnf
  repeat' (first | (refine CondG.mk (fun h => ?_) (fun h => ?_) <;> (try simp only [decide_eq_true_eq, decide_eq_false_iff_not, Bool.not_eq_true', Bool.not_eq_false', beq_iff_eq, beq_eq_false_iff_ne, bne_iff_ne, bne_eq_false_iff_eq] at h) <;> (first | (exfalso; first | omega | exact h trivial | contradiction | (simp_all [eqRes]; done)) | (conv => whnf))) | fail)
  refine loop_for (s.length) [] [1, 2, 15, 16, 17] (fun k (_ : Unit) => [(17, .c (.int .i64 (k : Int)))]) (fun k (_ : Unit) => []) (fun k (_ : Unit) => True) (()) ?_
  conv => whnf
  refine ⟨(by first | rfl | (simp; done) | (simp; rfl)), (by trivial), ?_, ?_⟩
  · intro k _ hk _
    have c := sameLyY_pc s[k] (hx _ (List.getElem_mem hk))
    conv => whnf
    repeat' (first | (refine CondG.mk (fun h => ?_) (fun h => ?_) <;> (try simp only [decide_eq_true_eq, decide_eq_false_iff_not, Bool.not_eq_true', Bool.not_eq_false', beq_iff_eq, beq_eq_false_iff_ne, bne_iff_ne, bne_eq_false_iff_eq] at h) <;> (first | (exfalso; first | omega | exact h trivial | contradiction | (simp_all [eqRes]; done)) | (conv => whnf))) | (refine  CallX.mk _ _ (by exact c) ?_; conv => whnf) | (refine idx_at _ (by with_reducible rfl) (by first | assumption | omega) ?_; conv => whnf) | fail)
    exact count_next () hk (by rw [wrap_succ hk (by omega)]; rfl) trivial
  · intro _ _
    conv => whnf
    repeat' (first | (refine CondG.mk (fun h => ?_) (fun h => ?_) <;> (try simp only [decide_eq_true_eq, decide_eq_false_iff_not, Bool.not_eq_true', Bool.not_eq_false', beq_iff_eq, beq_eq_false_iff_ne, bne_iff_ne, bne_eq_false_iff_eq] at h) <;> (first | (exfalso; first | omega | exact h trivial) | (conv => whnf))) | fail)
    exact finb rfl
end Go.Proofs.YtbdlhiogjnbhjaaGreat

namespace Go.Proofs.YtbdlhiogjnbhjaaGreat
set_option linter.unusedVariables false
set_option linter.unusedSimpArgs false
open Abs

theorem pcx_mono {f : Nat} {args : List S} {objs : List Ob} {Q Q' : S → List Ob → Prop} (h : PCq f args objs Q) (hQ : ∀ r os, Q r os → Q' r os) : PCq f args objs Q' :=
  ⟨h.1, fun F φ w c h1 h2 h3 => (h.2 F φ w c h1 h2 h3).mono (fun e w' ⟨cv, F', φ', r, o, hq, x⟩ => ⟨cv, F', φ', r, o, hQ _ _ hq, x⟩)⟩
abbrev RQ : Type := List (Ly × Value)
def encR (x : Ly × Value) : List V := [.str x.1.cable, .int .i64 x.1.outer, .cmap x.2]
def insP (x : Ly × Value) : Value × Option (List (List V)) := (x.2, some (x.1.ducts.map encS))
def RowsIn (q : RQ) (f : Nat → Nat) (ins : List (Value × Option (List (List V)))) (k : Nat) : Prop := (∀ a b, f a = f b → a = b) ∧ ∀ m (h : m < q.length), k ≤ m → ins[f m]? = some (insP q[m])
theorem RowsIn.step {q : RQ} {f : Nat → Nat} {ins : List (Value × Option (List (List V)))} {k : Nat} (h : RowsIn q f ins k) (y : Value × Option (List (List V))) : RowsIn q f (ins.set (f k) y) (k + 1) := by
  refine ⟨h.1, fun m hm hk => ?_⟩
  rw [List.getElem?_set_ne (fun e => by have := h.1 _ _ e; omega)]
  exact h.2 m hm (by omega)
theorem rowsIn_id (q : RQ) : RowsIn q (fun k => k) (q.map insP) 0 := ⟨fun _ _ h => h, fun m h _ => by simp [h]⟩
theorem rowsIn_erase (q : RQ) (i : Nat) (hi : i < q.length) : RowsIn (q.eraseIdx i) (fun k => if k < i then k else k + 1) (q.map insP) 0 := by
  refine ⟨fun a b h => ?_, fun m h _ => ?_⟩
  · simp only at h; split at h <;> split at h <;> omega
  · have hl : (q.eraseIdx i).length = q.length - 1 := by rw [List.length_eraseIdx]; simp [hi]
    rw [hl] at h
    by_cases q' : m < i
    · simp only [if_pos q', List.getElem_eraseIdx_of_lt (show m < (q.eraseIdx i).length by omega) q']
      rw [List.getElem?_map, List.getElem?_eq_getElem (by omega)]; rfl
    · simp only [if_neg q', List.getElem_eraseIdx_of_ge (show m < (q.eraseIdx i).length by omega) (by omega)]
      rw [List.getElem?_map, List.getElem?_eq_getElem (by omega)]; rfl
set_option maxRecDepth 100000 in
set_option maxHeartbeats 4000000 in
theorem copiedR_pc (l : List Ly) (hl : l.length ≤ 1000000) (hx : ∀ x ∈ l, x.ducts.length ≤ 1000000) : PCq 27 [.c (.lst 3 (l.map encLy))] [] fun r os => ∃ q : RQ, q.map Prod.fst = l ∧ r = .c (.row 0) ∧ os = [.row 36 3 (q.map encR), .pool 9 1 (q.map insP)] := by
  have hlm : (l.map encLy).length = l.length := List.length_map ..
  refine fn_soundX (mt := mts) tab_fits tab_mixed Tryz.func27 (by rfl) (by kernel_rfl) (by kernel_rfl) Tryz.results27 (Nat.le_of_ble_eq_true (by kernel_rfl)) ?_
  conv => whnf
  skip
  refine loop_for (l.length) [.sl 3 36 3, .po 9 1] [3, 6, 7, 8] (fun k (q : RQ) => [(8, .c (.int .i64 (k : Int)))]) (fun k (q : RQ) => [(0, .row 36 3 (q.map encR)), (1, .pool 9 1 (q.map insP))]) (fun k (q : RQ) => q.map Prod.fst = l.take k) ([]) ?_
  conv => whnf
  refine ⟨?_, ?_, ?_, ?_⟩
  · rfl
  · rfl
  · intro k q hk hq
    have hxk := hx _ (List.getElem_mem hk)
    have hq2 : q.length = k := by have := congrArg List.length hq; simp at this; omega
    have hqm : (q.map encR).length = k := by rw [List.length_map, hq2]
    have ht : l.take (k + 1) = l.take k ++ [l[k]] := List.take_succ_eq_append_getElem hk
    conv => whnf
    refine .mk (fun h => ?_) (fun h => ?_)
    rotate_left
    · exfalso; simp at h; omega
    conv => whnf
    refine idx_at _ (by with_reducible rfl) (by first | assumption | omega) ?_
    conv => whnf
    refine .mk _ _ (cloneS_pc l[k].ducts (by omega)) ?_
    conv => whnf
    refine HookG.ad 17 114 _ _ _ _ (by rfl) (by rfl) ?_
    intro c
    conv => whnf
    refine HookG.no ?_
    conv => whnf
    repeat' (first | (refine AppG.mk (by first | omega | (unfold roomOK; simp [cutRows]; done) | (unfold roomOK; simp [cutRows]; omega) | (simp [cutRows]; done) | (simp [cutRows]; omega)) ?_; conv => whnf) | fail)
    exact count_next (q ++ [(l[k], c)]) hk (by rw [wrap_succ hk (by omega), List.map_append, List.map_append]; rfl) (by rw [ht, List.map_append, hq]; rfl)
  · intro q hq
    rw [List.take_length] at hq
    conv => whnf
    repeat' (first | (refine CondG.mk (fun h => ?_) (fun h => ?_) <;> (try simp only [decide_eq_true_eq, decide_eq_false_iff_not, Bool.not_eq_true', Bool.not_eq_false', beq_iff_eq, beq_eq_false_iff_ne, bne_iff_ne, bne_eq_false_iff_eq] at h) <;> (first | (exfalso; first | omega | exact h trivial) | (conv => whnf))) | fail)
    exact .mk _ _ ⟨q, hq, rfl, rfl⟩ (.mk ⟨rfl, rfl⟩)
set_option maxRecDepth 100000 in
set_option maxHeartbeats 4000000 in
theorem insertR_pc (R S : List (List V)) (hl : R.length ≤ 1000) (hv : S.length ≤ 1000) (h1 : 1 ≤ S.length) (n : Int) (hn : n = (R.length : Nat)) :
    PCp 26 [.c (.row 0), .c (.int .i64 n), .c (.row 1)] [.row 36 3 R, .row 36 3 S] (.c (.row 2)) [.dead, .row 36 3 S, .row 36 3 (R ++ S)] := by
  subst hn
  refine fn_sound (mt := mts) tab_fits tab_mixed Tryz.func26 (by rfl) (by kernel_rfl) (by kernel_rfl) Tryz.results26 (Nat.le_of_ble_eq_true (by kernel_rfl)) ?_
  conv => whnf
  refine .mk (by omega) ?_
  conv => whnf
  refine SliceG.vw ?_
  conv => whnf
  repeat' (first | (refine CondG.mk (fun h => ?_) (fun h => ?_) <;> (try simp only [decide_eq_true_eq, decide_eq_false_iff_not, Bool.not_eq_true', Bool.not_eq_false', beq_iff_eq, beq_eq_false_iff_ne, bne_iff_ne, bne_eq_false_iff_eq] at h) <;> (first | (exfalso; first | omega | exact h trivial) | (conv => whnf))) | (refine AppG.mk (by first | omega | (unfold roomOK; simp [cutRows]; done) | (unfold roomOK; simp [cutRows]; omega) | (simp [cutRows]; done) | (simp [cutRows]; omega)) ?_; conv => whnf) | fail)
  exact .mk ⟨rfl, rfl⟩
set_option maxRecDepth 100000 in
set_option maxHeartbeats 4000000 in
theorem delR_pc (l : List (List V)) (i : Nat) (hi : i < l.length) (hl : l.length ≤ 1000000) (e : Int) (he : e = ((i + 1 : Nat) : Int)) : PCp 28 [.c (.row 0), .c (.int .i64 i), .c (.int .i64 e)] [.row 36 3 (l.map (fun r => r))] (.c (.row 1)) [.dead, .row 36 3 ((l.eraseIdx i).map (fun r => r))] := by
  have hlm : (l.map (fun r => r)).length = l.length := List.length_map ..
  subst he
  refine fn_sound (mt := mts) tab_fits tab_mixed Tryz.func28 (by rfl) (by kernel_rfl) (by kernel_rfl) Tryz.results28 (Nat.le_of_ble_eq_true (by kernel_rfl)) ?_
  conv => whnf
  refine .mk (by omega) ?_
  conv => whnf
  refine .mk (fun h => ?_) (fun h => ?_)
  · simp at h; omega
  conv => whnf
  refine .mk (by omega) ?_
  conv => whnf
  refine .vw ?_
  conv => whnf
  refine .mk (by omega) ?_
  conv => whnf
  refine .vw ?_
  conv => whnf
  have hsl : (sub (l.map (fun r => r)) (((i + 1 : Nat) : Int)).toNat ((((i + 1 : Nat) : Int)).toNat + ((l.map (fun r => r)).length - (((i + 1 : Nat) : Int)).toNat))) = (l.map (fun r => r)).drop (i + 1) := by
    rw [toN]; unfold sub; rw [List.take_of_length_le (by simp)]
  rw [hsl]
  have hys : ((l.map (fun r => r)).drop (i + 1)).length = l.length - (i + 1) := by simp
  refine .mk (by rw [hys, toN]; omega) ?_
  conv => whnf
  refine .mk (by rw [hys, toN]; unfold overR; simp; omega) ?_
  conv => whnf
  refine .cutv 0 _ _ _ _ (.inl rfl) rfl (by unfold overR; simp; omega) (.mk ⟨rfl, ?_⟩)
  rw [del_rows (l.map (fun r => r)) i (by omega) _ _ _ _ (by rw [toN]; omega) (by simp only [toN, List.length_drop, Nat.sub_zero, Nat.zero_add]) (by simp only [toN, List.length_drop, Nat.sub_zero, Nat.zero_add]), map_erase]
  rfl
set_option maxRecDepth 100000 in
set_option maxHeartbeats 4000000 in
theorem removedR_pc (d : List Du) (l : List Ly) (h0 : lyFault d l = 0) (cable : ByteArray) (hck : keyB cable = true) (i : Nat) (hi : i < l.length) (hcab : cabIx l cable = (i : Int)) :
    PCq 8 [.c (.lst 5 (d.map encDu)), .c (.lst 3 (l.map encLy)), .c (.str cable)] [] fun r os => ∃ (q : RQ) (f : Nat → Nat) (ins : List (Value × Option (List (List V)))), q.length ≤ 1000 ∧ (∀ x ∈ q, x.1.ducts.length ≤ 1000000) ∧ RowsIn q f ins 0 ∧ r = .tup [.c (.row 0), .c (.int .i64 0)] ∧ os = [.row 36 3 (q.map encR), .pool 9 1 ins] := by
  have hok := lyFault_ok h0
  have hx : ∀ x ∈ l, x.ducts.length ≤ 1000000 := fun x hm => (hok.rl x hm).2
  have hll := hok.len
  have c1 := checkLying_pc d l hx
  rw [h0] at c1
  have c2 := lying_pc l (by omega) cable
  rw [hcab] at c2
  have c5 := bKey_pc cable
  rw [hck] at c5
  have hw : IntKind.i64.wrap ((i : Int) + 1) = (i : Int) + 1 := wrap_in (by omega) (by omega)
  refine fn_soundX (mt := mts) tab_fits tab_mixed Tryz.func8 (by rfl) (by kernel_rfl) (by kernel_rfl) Tryz.results8 (Nat.le_of_ble_eq_true (by kernel_rfl)) ?_
  conv => whnf
  repeat' (first | (refine CondG.mk (fun h => ?_) (fun h => ?_) <;> (try simp only [decide_eq_true_eq, decide_eq_false_iff_not, Bool.not_eq_true', Bool.not_eq_false', beq_iff_eq, beq_eq_false_iff_ne, bne_iff_ne, bne_eq_false_iff_eq] at h) <;> (first | (exfalso; first | omega | exact h trivial | contradiction | (simp_all [eqRes]; done)) | (conv => whnf))) | (refine  CallX.mk _ _ (by first | exact c1 | exact c2 | exact c5) ?_; conv => whnf) | fail)
  refine .ex _ (copiedR_pc l (by omega) hx) ?_
  rintro _ _ ⟨q, hq, rfl, rfl⟩
  have hql : q.length = l.length := by have := congrArg List.length hq; simpa using this
  have c8 := delR_pc (q.map encR) i (by rw [List.length_map]; omega) (by rw [List.length_map]; omega) ((i : Int) + 1) (by omega)
  simp only [List.map_id'] at c8
  conv => whnf
  repeat' (first | (refine  CallX.mk _ _ (by exact (by rw [hw]; exact c8)) ?_; conv => whnf) | fail)
  refine .mk _ _ ⟨q.eraseIdx i, _, _, ?_, ?_, rowsIn_erase q i (by omega), rfl, rfl⟩ (.mk ⟨rfl, ?_⟩)
  · rw [List.length_eraseIdx]; split <;> omega
  · intro x hxm
    have := List.mem_of_mem_eraseIdx hxm
    exact hx _ (by rw [← hq]; exact List.mem_map_of_mem this)
  · rw [map_erase]
set_option maxRecDepth 100000 in
set_option maxHeartbeats 4000000 in
theorem laidR_pc (d : List Du) (l : List Ly) (h0 : lyFault d l = 0) (cable : ByteArray) (hck : keyB cable = true) (hgt : ∀ x ∈ l, ltB x.cable cable = true) (fr to : ByteArray) (outer : Int) (he : endsErr d fr to outer = 0) (hll : l.length < 300) :
    PCq 5 [.c (.lst 5 (d.map encDu)), .c (.lst 3 (l.map encLy)), .c (.str cable), .c (.str fr), .c (.str to), .c (.int .i64 outer)] [] fun r os => (r = .tup [.c (.lst 3 []), .c (.int .i64 12)] ∧ os = []) ∨ ∃ (q : RQ) (x : Ly × Value), q.length ≤ 1000 ∧ (∀ y ∈ q ++ [x], y.1.ducts.length ≤ 1000000) ∧ r = .tup [.c (.row 0), .c (.int .i64 0)] ∧ os = [.row 36 3 ((q ++ [x]).map encR), .pool 9 1 (q.map insP), .pool 9 1 ([x].map insP)] := by
  have hdu := du_of h0
  have hok := lyFault_ok h0
  obtain ⟨e1, e2, e3, e4⟩ := ends_ok he
  have hx : ∀ x ∈ l, x.ducts.length ≤ 1000000 := fun x hm => (hok.rl x hm).2
  have hlm : (l.map encLy).length = l.length := List.length_map ..
  have c1 := checkLying_pc d l hx
  rw [h0] at c1
  have hcab : cabIx l cable = -1 := idxP_miss (fun i hi => by
    rw [decide_eq_false_iff_not]
    intro q
    have := hgt _ (List.getElem_mem hi)
    rw [q, ltB_irr] at this; cases this)
  have c2 := lying_pc l (by omega) cable
  rw [hcab] at c2
  have c3 := waysFault_pc d (by have := hok.du.len; omega) fr to outer
  rw [he] at c3
  have hcn : cntL (fun x : Ly => cmpS x.cable cable) l = l.length := cntL_at (Nat.le_refl _) (fun k h _ => cmp_lt.2 (hgt _ (List.getElem_mem h))) (fun k h hk => by omega)
  have c4 := bsLy_pc 24 (fun x : Ly => cmpS x.cable cable) (.c (.str cable)) l (by omega) (fun i j hj hij _ => cmp_lt.2 (hgt _ (List.getElem_mem _))) ⟨cable, rfl⟩ (fun x _ => laid1_pc x cable)
  rw [hcn] at c4
  have c5 := bKey_pc cable
  rw [hck] at c5
  refine fn_soundX (mt := mts) tab_fits tab_mixed Tryz.func5 (by rfl) (by kernel_rfl) (by kernel_rfl) Tryz.results5 (Nat.le_of_ble_eq_true (by kernel_rfl)) ?_
  conv => whnf
  repeat' (first | (refine CondG.mk (fun h => ?_) (fun h => ?_) <;> (try simp only [decide_eq_true_eq, decide_eq_false_iff_not, Bool.not_eq_true', Bool.not_eq_false', beq_iff_eq, beq_eq_false_iff_ne, bne_iff_ne, bne_eq_false_iff_eq] at h) <;> (first | (exfalso; first | omega | exact h trivial | contradiction | (simp_all [eqRes]; done)) | (conv => whnf))) | (refine  CallX.mk _ _ (by first | exact c1 | exact c5 | exact c2 | exact c3) ?_; conv => whnf) | fail)
  refine .ex _ (way_pc d l hdu hok fr to (site_size hdu e2) outer ⟨by omega, by omega⟩) ?_
  rintro _ _ ⟨g, hC, ⟨hn, rfl, rfl⟩ | ⟨c, P, hF, rfl, rfl⟩⟩
  · conv => whnf
    repeat' (first | (refine CondG.mk (fun h => ?_) (fun h => ?_) <;> (try simp only [decide_eq_true_eq, decide_eq_false_iff_not, Bool.not_eq_true', Bool.not_eq_false', beq_iff_eq, beq_eq_false_iff_ne, bne_iff_ne, bne_eq_false_iff_eq] at h) <;> (first | (exfalso; first | omega | exact h trivial | contradiction | (simp_all [eqRes]; done)) | (conv => whnf))) | fail)
    refine .mk _ _ (.inl ⟨rfl, rfl⟩) (.weak [] (.tup _ _ rfl ?_) rfl (Nat.le_refl _))
    intro i x y hx hy
    match i with
    | 0 => cases hx; cases hy; exact .nil 3
    | 1 => cases hx; cases hy; exact .refl _
    | n + 2 => cases hx
  · have hPl := hF.few hC
    have hnl := net_len (fitCap l outer) d
    have hdl := hok.du.len
    rw [sitesE_len] at hPl
    have hPm : (P.map Ed.key).length ≤ 1000 := by rw [List.length_map]; omega
    have hpm := (insSort_perm cmpS (P.map Ed.key)).length_eq
    have c6 := sortG_pc (P.map Ed.key) (by omega)
    conv => whnf
    repeat' (first | (refine CondG.mk (fun h => ?_) (fun h => ?_) <;> (try simp only [decide_eq_true_eq, decide_eq_false_iff_not, Bool.not_eq_true', Bool.not_eq_false', beq_iff_eq, beq_eq_false_iff_ne, bne_iff_ne, bne_eq_false_iff_eq] at h) <;> (first | (exfalso; first | omega | exact h trivial | contradiction | (simp_all [eqRes]; done)) | (conv => whnf))) | (refine  CallX.mk _ _ (by first | exact c6 | exact c4) ?_; conv => whnf) | fail)
    refine .ex _ (copiedR_pc l (by omega) hx) ?_
    rintro _ _ ⟨q, hq, rfl, rfl⟩
    have hql : q.length = l.length := by have := congrArg List.length hq; simpa using this
    conv => whnf
    refine HookG.ad 75 480 _ _ _ _ (by rfl) (by rfl) (fun c => ?_)
    conv => whnf
    refine HookG.no ?_
    conv => whnf
    have c8 := insertR_pc (q.map encR) [encR (⟨cable, outer, insSort cmpS (P.map Ed.key)⟩, c)] (by rw [List.length_map]; omega) (by simp) (by simp) (l.length : Nat) (by rw [List.length_map, hql])
    repeat' (first | (refine  CallX.mk _ _ (by exact c8) ?_; conv => whnf) | fail)
    refine .mk _ _ (.inr ⟨q, (⟨cable, outer, insSort cmpS (P.map Ed.key)⟩, c), by omega, ?_, rfl, rfl⟩) (.mk ⟨rfl, by rw [List.map_append]; rfl⟩)
    intro y hy
    rcases List.mem_append.1 hy with hy | hy
    · exact hx _ (by rw [← hq]; exact List.mem_map_of_mem hy)
    · rw [List.mem_singleton] at hy; subst hy
      show (insSort cmpS (P.map Ed.key)).length ≤ 1000000
      omega
end Go.Proofs.YtbdlhiogjnbhjaaGreat

namespace Go.Proofs.YtbdlhiogjnbhjaaGreat
set_option linter.unusedVariables false
set_option linter.unusedSimpArgs false
open Abs

def spK {α : Type} (z : α) (l : List α) (k : Nat) : List α := List.replicate k z ++ l.drop k
theorem spK_len {α : Type} (z : α) (l : List α) (k : Nat) (h : k ≤ l.length) : (spK z l k).length = l.length := by unfold spK; simp; omega
theorem spK_set {α : Type} (z : α) (l : List α) (k : Nat) (h : k < l.length) : (spK z l k).set k z = spK z l (k + 1) := by
  unfold spK
  rw [List.set_append, if_neg (by simp), List.length_replicate, Nat.sub_self, List.drop_eq_getElem_cons h, List.set_cons_zero, List.replicate_succ', List.append_assoc]
  rfl
end Go.Proofs.YtbdlhiogjnbhjaaGreat

namespace Go.Proofs.YtbdlhiogjnbhjaaGreat
set_option linter.unusedVariables false
set_option linter.unusedSimpArgs false
open Abs

abbrev cA : V := .str ⟨#[97]⟩
abbrev cB : V := .str ⟨#[98]⟩
abbrev cC : V := .str ⟨#[99]⟩
abbrev n1 : V := .int .i64 1
abbrev tSites : V := .lst 2 [[cA, .int .i64 1], [cB, .int .i64 4]]
abbrev tCables : V := .lst 5 [[cC, cA, cB, .int .i64 5, .int .i64 1]]
abbrev tinyL : List V := [tSites, tCables, .nils]
abbrev kindsO : Ob := .map 2 [(0, .c cA, .c (.int .i64 1)), (1, .c cB, .c (.int .i64 4))]
abbrev cabsO : Ob := .map 1 [(0, .c cC, .agg [cC, cA, cB, .int .i64 5, .int .i64 1])]
abbrev webO : List Ob := [.box [tSites, tCables, .nils, .mp 1, .mp 2, .mp 3, .nilm], kindsO, cabsO, .map 0 []]
set_option maxRecDepth 100000 in
set_option maxHeartbeats 4000000 in
theorem tiny_c : PCp 31 [] [] (.agg tinyL) [] := by
  refine fn_sound (mt := mts) tab_fits tab_mixed Tryz.func31 (by rfl) (by kernel_rfl) (by kernel_rfl) Tryz.results31 (Nat.le_of_ble_eq_true (by kernel_rfl)) ?_
  conv => whnf
  skip
  all_goals first | exact .mk ⟨rfl, rfl⟩ | trace_state
set_option maxRecDepth 100000 in
set_option maxHeartbeats 4000000 in
theorem siteF_c1 : PCp 203 [.agg [cA, .int .i64 1]] [] (.c (.int .i64 0)) [] := by
  refine fn_sound (mt := mts) tab_fits tab_mixed Tryz.func203 (by rfl) (by kernel_rfl) (by kernel_rfl) Tryz.results203 (Nat.le_of_ble_eq_true (by kernel_rfl)) ?_
  conv => whnf
  repeat' (first | (refine CondG.mk (fun h => absurd h (by decide +kernel)) (fun h => ?_); clear h; conv => whnf) | (refine  CallX.mk _ _ (by first | exact bKey_pc _ | exact bOut_pc _ _ _) ?_; conv => whnf) | fail)
  all_goals first | exact .mk ⟨rfl, rfl⟩ | trace_state
set_option maxRecDepth 100000 in
set_option maxHeartbeats 4000000 in
theorem siteF_c2 : PCp 203 [.agg [cB, .int .i64 4]] [] (.c (.int .i64 0)) [] := by
  refine fn_sound (mt := mts) tab_fits tab_mixed Tryz.func203 (by rfl) (by kernel_rfl) (by kernel_rfl) Tryz.results203 (Nat.le_of_ble_eq_true (by kernel_rfl)) ?_
  conv => whnf
  repeat' (first | (refine CondG.mk (fun h => absurd h (by decide +kernel)) (fun h => ?_); clear h; conv => whnf) | (refine  CallX.mk _ _ (by first | exact bKey_pc _ | exact bOut_pc _ _ _) ?_; conv => whnf) | fail)
  all_goals first | exact .mk ⟨rfl, rfl⟩ | trace_state
set_option maxRecDepth 100000 in
set_option maxHeartbeats 4000000 in
theorem sitesF_c : PCp 190 [.c tSites] [] (.c (.int .i64 0)) [] := by
  refine fn_sound (mt := mts) tab_fits tab_mixed Tryz.func190 (by rfl) (by kernel_rfl) (by kernel_rfl) Tryz.results190 (Nat.le_of_ble_eq_true (by kernel_rfl)) ?_
  conv => whnf
  repeat' (first | (refine CondG.mk (fun h => ?_) (fun h => absurd h (by decide +kernel)); clear h; conv => whnf) | (refine CondG.mk (fun h => absurd h (by decide +kernel)) (fun h => ?_); clear h; conv => whnf) | (refine Split.mk (fun h => ?_) (fun h => absurd h (by decide +kernel)); clear h; conv => whnf) | (refine Split.mk (fun h => absurd h (by decide +kernel)) (fun h => ?_); clear h; conv => whnf) | (refine  CallX.mk _ _ (by first | exact siteF_c1 | exact siteF_c2) ?_; conv => whnf) | (refine IdxG.mk _ ⟨by decide, by rfl⟩ ?_; conv => whnf) | (refine LoopG.un 12 ?_; conv => whnf) | fail)
  all_goals first | exact .mk ⟨rfl, rfl⟩ | trace_state
set_option maxRecDepth 100000 in
set_option maxHeartbeats 4000000 in
theorem cabF_c : PCp 204 [.agg [cC, cA, cB, .int .i64 5, .int .i64 1], .c (.mp 0)] [kindsO] (.c (.int .i64 0)) [kindsO] := by
  refine fn_sound (mt := mts) tab_fits tab_mixed Tryz.func204 (by rfl) (by kernel_rfl) (by kernel_rfl) Tryz.results204 (Nat.le_of_ble_eq_true (by kernel_rfl)) ?_
  conv => whnf
  repeat' (first | (refine CondG.mk (fun h => absurd h (by decide +kernel)) (fun h => ?_); clear h; conv => whnf) | (refine Split.mk (fun h => absurd h (by decide +kernel)) (fun h => ?_); clear h; conv => whnf) | (refine  CallX.mk _ _ (by first | exact bKey_pc _ | exact bOut_pc _ _ _) ?_; conv => whnf) | (refine look_ix 0 (by rfl) (by decide +kernel) ?_; conv => whnf) | (refine look_ix 1 (by rfl) (by decide +kernel) ?_; conv => whnf) | fail)
  all_goals first | exact .mk ⟨rfl, rfl⟩ | trace_state
set_option maxRecDepth 100000 in
set_option maxHeartbeats 4000000 in
theorem cabsF_c : PCp 191 [.c tCables, .c (.mp 0)] [kindsO] (.c (.int .i64 0)) [kindsO] := by
  refine fn_sound (mt := mts) tab_fits tab_mixed Tryz.func191 (by rfl) (by kernel_rfl) (by kernel_rfl) Tryz.results191 (Nat.le_of_ble_eq_true (by kernel_rfl)) ?_
  conv => whnf
  repeat' (first | (refine CondG.mk (fun h => ?_) (fun h => absurd h (by decide +kernel)); clear h; conv => whnf) | (refine CondG.mk (fun h => absurd h (by decide +kernel)) (fun h => ?_); clear h; conv => whnf) | (refine Split.mk (fun h => absurd h (by decide +kernel)) (fun h => ?_); clear h; conv => whnf) | (refine  CallX.mk _ _ (by exact cabF_c) ?_; conv => whnf) | (refine IdxG.mk _ ⟨by decide, by rfl⟩ ?_; conv => whnf) | (refine LoopG.un 12 ?_; conv => whnf) | fail)
  all_goals first | exact .mk ⟨rfl, rfl⟩ | trace_state
set_option maxRecDepth 100000 in
set_option maxHeartbeats 4000000 in
theorem splsF_c : PCp 192 [.agg tinyL, .c (.mp 0)] [kindsO] (.c (.int .i64 0)) [kindsO] := by
  refine fn_sound (mt := mts) tab_fits tab_mixed Tryz.func192 (by rfl) (by kernel_rfl) (by kernel_rfl) Tryz.results192 (Nat.le_of_ble_eq_true (by kernel_rfl)) ?_
  conv => whnf
  repeat' (first | (refine CondG.mk (fun h => ?_) (fun h => absurd h (by decide +kernel)); clear h; conv => whnf) | (refine CondG.mk (fun h => absurd h (by decide +kernel)) (fun h => ?_); clear h; conv => whnf) | (refine IdxG.mk _ ⟨by decide, by rfl⟩ ?_; conv => whnf) | (refine upd_no (by decide +kernel) ?_; conv => whnf) | (refine LoopG.un 12 ?_; conv => whnf) | fail)
  all_goals first | exact .mk ⟨rfl, rfl⟩ | trace_state
set_option maxRecDepth 100000 in
set_option maxHeartbeats 4000000 in
theorem checkPlant_c : PCp 155 [.agg tinyL] [] (.c (.int .i64 0)) [] := by
  refine fn_sound (mt := mts) tab_fits tab_mixed Tryz.func155 (by rfl) (by kernel_rfl) (by kernel_rfl) Tryz.results155 (Nat.le_of_ble_eq_true (by kernel_rfl)) ?_
  conv => whnf
  repeat' (first | (refine CondG.mk (fun h => ?_) (fun h => absurd h (by decide +kernel)); clear h; conv => whnf) | (refine CondG.mk (fun h => absurd h (by decide +kernel)) (fun h => ?_); clear h; conv => whnf) | (refine  CallX.mk _ _ (by first | exact sitesF_c | exact cabsF_c | exact splsF_c) ?_; conv => whnf) | (refine IdxG.mk _ ⟨by decide, by rfl⟩ ?_; conv => whnf) | (refine upd_no (by decide +kernel) ?_; conv => whnf) | (refine LoopG.un 12 ?_; conv => whnf) | fail)
  all_goals first | exact .mk ⟨rfl, rfl⟩ | trace_state
theorem sbool {a b : Bool} (h : a = b) : oneOf [S.c (.bool a)] = S.c (.bool b) := by rw [h]; rfl
set_option maxRecDepth 100000 in
set_option maxHeartbeats 4000000 in
theorem siteC1_c : PCp 157 [.agg [cA, .int .i64 1], .c (.ptr 0 0)] [.box [cB]] (.c (.bool false)) [.box [cB]] := by
  refine fn_sound (mt := mts) tab_fits tab_mixed Tryz.func157 (by rfl) (by kernel_rfl) (by kernel_rfl) Tryz.results157 (Nat.le_of_ble_eq_true (by kernel_rfl)) ?_
  conv => whnf
  skip
  exact .mk ⟨sbool (by decide +kernel), rfl⟩
set_option maxRecDepth 100000 in
set_option maxHeartbeats 4000000 in
theorem siteC2_c : PCp 157 [.agg [cB, .int .i64 4], .c (.ptr 0 0)] [.box [cB]] (.c (.bool true)) [.box [cB]] := by
  refine fn_sound (mt := mts) tab_fits tab_mixed Tryz.func157 (by rfl) (by kernel_rfl) (by kernel_rfl) Tryz.results157 (Nat.le_of_ble_eq_true (by kernel_rfl)) ?_
  conv => whnf
  skip
  exact .mk ⟨sbool (by decide +kernel), rfl⟩
set_option maxRecDepth 100000 in
set_option maxHeartbeats 4000000 in
theorem siteIx_c : PCp 193 [.c tSites, .c (.fn 157 [.ptr 0 0])] [.box [cB]] (.c (.int .i64 1)) [.box [cB]] := by
  refine fn_sound (mt := mts) tab_fits tab_mixed Tryz.func193 (by rfl) (by kernel_rfl) (by kernel_rfl) Tryz.results193 (Nat.le_of_ble_eq_true (by kernel_rfl)) ?_
  conv => whnf
  repeat' (first | (refine CondG.mk (fun h => ?_) (fun h => absurd h (by decide +kernel)); clear h; conv => whnf) | (refine CondG.mk (fun h => absurd h (by decide +kernel)) (fun h => ?_); clear h; conv => whnf) | (refine  CallX.mk _ _ (by first | exact siteC1_c | exact siteC2_c) ?_; conv => whnf) | (refine IdxG.mk _ ⟨by decide, by rfl⟩ ?_; conv => whnf) | (refine LoopG.un 12 ?_; conv => whnf) | fail)
  all_goals first | exact .mk ⟨rfl, rfl⟩ | trace_state
set_option maxRecDepth 100000 in
set_option maxHeartbeats 4000000 in
theorem siteCt_c : PCp 156 [.c tSites, .c (.fn 157 [.ptr 0 0])] [.box [cB]] (.c (.bool true)) [.box [cB]] := by
  refine fn_sound (mt := mts) tab_fits tab_mixed Tryz.func156 (by rfl) (by kernel_rfl) (by kernel_rfl) Tryz.results156 (Nat.le_of_ble_eq_true (by kernel_rfl)) ?_
  conv => whnf
  repeat' (first | (refine  CallX.mk _ _ (by exact siteIx_c) ?_; conv => whnf) | fail)
  all_goals first | exact .mk ⟨rfl, rfl⟩ | trace_state
set_option maxRecDepth 100000 in
set_option maxHeartbeats 4000000 in
theorem siteFault_c : PCp 112 [.agg tinyL, .c cB] [] (.c (.int .i64 0)) [] := by
  refine fn_sound (mt := mts) tab_fits tab_mixed Tryz.func112 (by rfl) (by kernel_rfl) (by kernel_rfl) Tryz.results112 (Nat.le_of_ble_eq_true (by kernel_rfl)) ?_
  conv => whnf
  repeat' (first | (refine CondG.mk (fun h => absurd h (by decide +kernel)) (fun h => ?_); clear h; conv => whnf) | (refine Split.mk (fun h => ?_) (fun h => absurd h (by decide +kernel)); clear h; conv => whnf) | (refine  CallX.mk _ _ (by first | exact checkPlant_c | exact siteCt_c) ?_; conv => whnf) | fail)
  all_goals first | exact .mk ⟨rfl, rfl⟩ | trace_state
set_option maxRecDepth 100000 in
set_option maxHeartbeats 4000000 in
theorem webNew_c : PCp 113 [.agg tinyL] [] (.c (.ptr 0 0)) webO := by
  refine fn_sound (mt := mts) tab_fits tab_mixed Tryz.func113 (by rfl) (by kernel_rfl) (by kernel_rfl) Tryz.results113 (Nat.le_of_ble_eq_true (by kernel_rfl)) ?_
  conv => whnf
  repeat' (first | (refine CondG.mk (fun h => ?_) (fun h => absurd h (by decide +kernel)); clear h; conv => whnf) | (refine CondG.mk (fun h => absurd h (by decide +kernel)) (fun h => ?_); clear h; conv => whnf) | (refine IdxG.mk _ ⟨by decide, by rfl⟩ ?_; conv => whnf) | (refine upd_no (by decide +kernel) ?_; conv => whnf) | (refine LoopG.un 12 ?_; conv => whnf) | fail)
  all_goals first | exact .mk ⟨rfl, rfl⟩ | trace_state
set_option maxRecDepth 100000 in
set_option maxHeartbeats 4000000 in
theorem webHas_c : PCp 114 [.c (.ptr 0 0), .agg [cC, n1]] webO (.c (.bool true)) webO := by
  refine fn_sound (mt := mts) tab_fits tab_mixed Tryz.func114 (by rfl) (by kernel_rfl) (by kernel_rfl) Tryz.results114 (Nat.le_of_ble_eq_true (by kernel_rfl)) ?_
  conv => whnf
  repeat' (first | (refine Split.mk (fun h => ?_) (fun h => absurd h (by decide +kernel)); clear h; conv => whnf) | (refine  CallX.mk _ _ (by exact bOut_pc _ _ _) ?_; conv => whnf) | (refine look_ix 0 (by rfl) (by decide +kernel) ?_; conv => whnf) | fail)
  all_goals first | exact .mk ⟨rfl, rfl⟩ | exact .mk ⟨sbool (by decide +kernel), rfl⟩ | trace_state
set_option maxRecDepth 100000 in
set_option maxHeartbeats 4000000 in
theorem webTouches_c : PCp 115 [.c (.ptr 0 0), .agg [cC, n1], .c cB] webO (.c (.bool true)) webO := by
  refine fn_sound (mt := mts) tab_fits tab_mixed Tryz.func115 (by rfl) (by kernel_rfl) (by kernel_rfl) Tryz.results115 (Nat.le_of_ble_eq_true (by kernel_rfl)) ?_
  conv => whnf
  repeat' (first | (refine Split.mk (fun h => ?_) (fun h => absurd h (by decide +kernel)); clear h; conv => whnf) | (refine Split.mk (fun h => absurd h (by decide +kernel)) (fun h => ?_); clear h; conv => whnf) | (refine look_ix 0 (by rfl) (by decide +kernel) ?_; conv => whnf) | fail)
  all_goals first | exact .mk ⟨rfl, rfl⟩ | exact .mk ⟨sbool (by decide +kernel), rfl⟩ | trace_state
set_option maxRecDepth 100000 in
set_option maxHeartbeats 4000000 in
theorem endOf_c : PCp 65 [.agg tinyL, .agg [cC, n1], .c cB] [] (.tup [.c (.ptr 0 0), .c (.int .i64 0)]) webO := by
  refine fn_sound (mt := mts) tab_fits tab_mixed Tryz.func65 (by rfl) (by kernel_rfl) (by kernel_rfl) Tryz.results65 (Nat.le_of_ble_eq_true (by kernel_rfl)) ?_
  conv => whnf
  repeat' (first | (refine CondG.mk (fun h => absurd h (by decide +kernel)) (fun h => ?_); clear h; conv => whnf) | (refine  CallX.mk _ _ (by first | exact siteFault_c | exact webNew_c | exact webHas_c | exact webTouches_c) ?_; conv => whnf) | fail)
  all_goals first | exact .mk ⟨rfl, rfl⟩ | trace_state
abbrev spl0 : List V := [.str ⟨#[]⟩, .str ⟨#[]⟩, .int .i64 0, .str ⟨#[]⟩, .int .i64 0, .int .i64 0]
set_option maxRecDepth 100000 in
set_option maxHeartbeats 4000000 in
theorem webAt_c (s : V) (hs : s = cA ∨ s = cB) : PCp 66 [.c (.ptr 0 0), .agg [s, cC, n1]] webO (.tup [.agg spl0, .c (.bool false)]) webO := by
  rcases hs with rfl | rfl
  · refine fn_sound (mt := mts) tab_fits tab_mixed Tryz.func66 (by rfl) (by kernel_rfl) (by kernel_rfl) Tryz.results66 (Nat.le_of_ble_eq_true (by kernel_rfl)) ?_
    conv => whnf
    repeat' (first | (refine look_no (by decide +kernel) ?_; conv => whnf) | fail)
    all_goals first | exact .mk ⟨rfl, rfl⟩ | trace_state
  · refine fn_sound (mt := mts) tab_fits tab_mixed Tryz.func66 (by rfl) (by kernel_rfl) (by kernel_rfl) Tryz.results66 (Nat.le_of_ble_eq_true (by kernel_rfl)) ?_
    conv => whnf
    repeat' (first | (refine look_no (by decide +kernel) ?_; conv => whnf) | fail)
    all_goals first | exact .mk ⟨rfl, rfl⟩ | trace_state
set_option maxRecDepth 100000 in
set_option maxHeartbeats 4000000 in
theorem webHop_c : PCp 116 [.c (.ptr 0 0), .agg [cB, cC, n1]] webO (.agg [cC, n1, cB, cA]) webO := by
  refine fn_sound (mt := mts) tab_fits tab_mixed Tryz.func116 (by rfl) (by kernel_rfl) (by kernel_rfl) Tryz.results116 (Nat.le_of_ble_eq_true (by kernel_rfl)) ?_
  conv => whnf
  repeat' (first | (refine CondG.mk (fun h => absurd h (by decide +kernel)) (fun h => ?_); clear h; conv => whnf) | (refine look_ix 0 (by rfl) (by decide +kernel) ?_; conv => whnf) | fail)
  all_goals first | exact .mk ⟨rfl, rfl⟩ | trace_state
set_option maxRecDepth 100000 in
set_option maxHeartbeats 4000000 in
theorem webNext_c : PCp 117 [.c (.ptr 0 0), .agg [cC, n1, cB, cA]] webO (.tup [.agg [.str ⟨#[]⟩, .str ⟨#[]⟩, .int .i64 0], .c (.bool false)]) webO := by
  refine fn_sound (mt := mts) tab_fits tab_mixed Tryz.func117 (by rfl) (by kernel_rfl) (by kernel_rfl) Tryz.results117 (Nat.le_of_ble_eq_true (by kernel_rfl)) ?_
  conv => whnf
  repeat' (first | (refine CondG.mk (fun h => ?_) (fun h => absurd h (by decide +kernel)); clear h; conv => whnf) | (refine  CallX.mk _ _ (by exact webAt_c cA (.inl rfl)) ?_; conv => whnf) | fail)
  all_goals first | exact .mk ⟨rfl, rfl⟩ | trace_state
set_option maxRecDepth 100000 in
set_option maxHeartbeats 4000000 in
theorem webPath_c : PCp 67 [.c (.ptr 0 0), .agg [cB, cC, n1]] webO (.tup [.c (.row 4), .c (.bool false)]) (webO ++ [.row 208 4 [[cC, n1, cB, cA]]]) := by
  refine fn_sound (mt := mts) tab_fits tab_mixed Tryz.func67 (by rfl) (by kernel_rfl) (by kernel_rfl) Tryz.results67 (Nat.le_of_ble_eq_true (by kernel_rfl)) ?_
  conv => whnf
  repeat' (first | (refine CondG.mk (fun h => ?_) (fun h => absurd h (by decide +kernel)); clear h; conv => whnf) | (refine  CallX.mk _ _ (by first | exact webHop_c | exact webNext_c) ?_; conv => whnf) | (refine .mk (by first | decide | (unfold roomOK; decide)) ?_; conv => whnf) | (refine LoopG.un 12 ?_; conv => whnf) | fail)
  all_goals first | exact .mk ⟨rfl, rfl⟩ | trace_state
set_option maxRecDepth 100000 in
set_option maxHeartbeats 4000000 in
theorem path_c : PCp 30 [.agg tinyL, .agg [cC, n1], .c cB] [] (.tup [.c (.row 0), .c (.int .i64 0)]) [.row 208 4 [[cC, n1, cB, cA]]] := by
  refine fn_sound (mt := mts) tab_fits tab_mixed Tryz.func30 (by rfl) (by kernel_rfl) (by kernel_rfl) Tryz.results30 (Nat.le_of_ble_eq_true (by kernel_rfl)) ?_
  conv => whnf
  repeat' (first | (refine CondG.mk (fun h => absurd h (by decide +kernel)) (fun h => ?_); clear h; conv => whnf) | (refine  CallX.mk _ _ (by first | exact endOf_c | exact webAt_c cB (.inr rfl) | exact webPath_c) ?_; conv => whnf) | fail)
  all_goals first | exact .mk ⟨rfl, rfl⟩ | trace_state
end Go.Proofs.YtbdlhiogjnbhjaaGreat

namespace Go.Proofs.YtbdlhiogjnbhjaaGreat
set_option linter.unusedVariables false
set_option linter.unusedSimpArgs false
open Abs

abbrev trP : V := .lst 1 [[.int .i64 10], [.int .i64 10], [.int .i64 4], [.int .i64 4]]
abbrev trR : List V := [.int .i64 5, .int .i64 2, .int .i64 3, .int .i64 0, .int .i64 1]
set_option maxRecDepth 100000 in
set_option maxHeartbeats 4000000 in
theorem isReading_c (n : Int) (h : -10000 ≤ n ∧ n ≤ 10000) : PCp 158 [.c (.int .i64 n)] [] (.c (.bool true)) [] := by
  refine fn_sound (mt := mts) tab_fits tab_mixed Tryz.func158 (by rfl) (by kernel_rfl) (by kernel_rfl) Tryz.results158 (Nat.le_of_ble_eq_true (by kernel_rfl)) ?_
  conv => whnf
  repeat' (first | (refine  CallX.mk _ _ (by exact bOut_pc _ _ _) ?_; conv => whnf) | fail)
  exact finb (by simp; omega)
set_option maxRecDepth 100000 in
set_option maxHeartbeats 4000000 in
theorem checkTrace_c : PCp 118 [.c trP] [] (.c (.int .i64 0)) [] := by
  refine fn_sound (mt := mts) tab_fits tab_mixed Tryz.func118 (by rfl) (by kernel_rfl) (by kernel_rfl) Tryz.results118 (Nat.le_of_ble_eq_true (by kernel_rfl)) ?_
  conv => whnf
  repeat' (first | (refine CondG.mk (fun h => ?_) (fun h => absurd h (by decide +kernel)); clear h; conv => whnf) | (refine CondG.mk (fun h => absurd h (by decide +kernel)) (fun h => ?_); clear h; conv => whnf) | (refine  CallX.mk _ _ (by exact isReading_c _ (by decide)) ?_; conv => whnf) | (refine IdxG.mk _ ⟨by decide, by rfl⟩ ?_; conv => whnf) | (refine LoopG.un 12 ?_; conv => whnf) | fail)
  all_goals first | exact .mk ⟨rfl, rfl⟩ | trace_state
theorem sboolT {a b : Bool} (h : a = b) : oneOf [S.c (.bool a)] = S.c (.bool b) := by rw [h]; rfl
set_option maxRecDepth 100000 in
set_option maxHeartbeats 4000000 in
theorem bLowest_c : PCp 159 [.agg [.int .i64 0, .int .i64 1]] [] (.c (.bool true)) [] := by
  refine fn_sound (mt := mts) tab_fits tab_mixed Tryz.func159 (by rfl) (by kernel_rfl) (by kernel_rfl) Tryz.results159 (Nat.le_of_ble_eq_true (by kernel_rfl)) ?_
  conv => whnf
  repeat' (first | (refine CondG.mk (fun h => ?_) (fun h => absurd h (by decide +kernel)); clear h; conv => whnf) | (refine CondG.mk (fun h => absurd h (by decide +kernel)) (fun h => ?_); clear h; conv => whnf) | (refine .mk (by first | decide | (unfold roomOK; decide)) ?_; conv => whnf) | (refine LoopG.un 12 ?_; conv => whnf) | fail)
  all_goals first | exact .mk ⟨rfl, rfl⟩ | exact .mk ⟨sboolT (by decide +kernel), rfl⟩ | trace_state
set_option maxRecDepth 100000 in
set_option maxHeartbeats 4000000 in
theorem checkRules_c : PCp 119 [.agg trR] [] (.c (.int .i64 0)) [] := by
  refine fn_sound (mt := mts) tab_fits tab_mixed Tryz.func119 (by rfl) (by kernel_rfl) (by kernel_rfl) Tryz.results119 (Nat.le_of_ble_eq_true (by kernel_rfl)) ?_
  conv => whnf
  repeat' (first | (refine CondG.mk (fun h => absurd h (by decide +kernel)) (fun h => ?_); clear h; conv => whnf) | (refine Split.mk (fun h => absurd h (by decide +kernel)) (fun h => ?_); clear h; conv => whnf) | (refine  CallX.mk _ _ (by first | exact bOut_pc _ _ _ | exact bLowest_c) ?_; conv => whnf) | fail)
  all_goals first | exact .mk ⟨rfl, rfl⟩ | trace_state
set_option maxRecDepth 100000 in
set_option maxHeartbeats 4000000 in
theorem traceFault_c : PCp 68 [.c trP, .agg trR] [] (.c (.int .i64 0)) [] := by
  refine fn_sound (mt := mts) tab_fits tab_mixed Tryz.func68 (by rfl) (by kernel_rfl) (by kernel_rfl) Tryz.results68 (Nat.le_of_ble_eq_true (by kernel_rfl)) ?_
  conv => whnf
  repeat' (first | (refine CallG.mk _ _ (by first | exact checkTrace_c | exact checkRules_c | exact first_pc [0, 0] (by decide)) ?_; conv => whnf) | fail)
  all_goals first | exact .mk ⟨rfl, rfl⟩ | trace_state
set_option maxRecDepth 100000 in
set_option maxHeartbeats 4000000 in
theorem sum_c1 : PCp 120 [.c (.lst 1 [[.int .i64 10], [.int .i64 10]])] [] (.c (.int .i64 20)) [] := by
  refine fn_sound (mt := mts) tab_fits tab_mixed Tryz.func120 (by rfl) (by kernel_rfl) (by kernel_rfl) Tryz.results120 (Nat.le_of_ble_eq_true (by kernel_rfl)) ?_
  conv => whnf
  repeat' (first | (refine CondG.mk (fun h => ?_) (fun h => absurd h (by decide +kernel)); clear h; conv => whnf) | (refine CondG.mk (fun h => absurd h (by decide +kernel)) (fun h => ?_); clear h; conv => whnf) | (refine IdxG.mk _ ⟨by decide, by rfl⟩ ?_; conv => whnf) | (refine LoopG.un 12 ?_; conv => whnf) | fail)
  all_goals first | exact .mk ⟨rfl, rfl⟩ | trace_state
set_option maxRecDepth 100000 in
set_option maxHeartbeats 4000000 in
theorem sum_c2 : PCp 120 [.c (.lst 1 [[.int .i64 4], [.int .i64 4]])] [] (.c (.int .i64 8)) [] := by
  refine fn_sound (mt := mts) tab_fits tab_mixed Tryz.func120 (by rfl) (by kernel_rfl) (by kernel_rfl) Tryz.results120 (Nat.le_of_ble_eq_true (by kernel_rfl)) ?_
  conv => whnf
  repeat' (first | (refine CondG.mk (fun h => ?_) (fun h => absurd h (by decide +kernel)); clear h; conv => whnf) | (refine CondG.mk (fun h => absurd h (by decide +kernel)) (fun h => ?_); clear h; conv => whnf) | (refine IdxG.mk _ ⟨by decide, by rfl⟩ ?_; conv => whnf) | (refine LoopG.un 12 ?_; conv => whnf) | fail)
  all_goals first | exact .mk ⟨rfl, rfl⟩ | trace_state
set_option maxRecDepth 100000 in
set_option maxHeartbeats 4000000 in
theorem fraction_c : PCp 121 [.c (.int .i64 12), .c (.int .i64 2)] [] (.agg [.int .i64 6, .int .i64 1]) [] := by
  have g : PCp 160 [.c (.int .i64 12), .c (.int .i64 2)] [] (.c (.int .i64 2)) [] := by
    refine fn_sound (mt := mts) tab_fits tab_mixed Tryz.func160 (by rfl) (by kernel_rfl) (by kernel_rfl) Tryz.results160 (Nat.le_of_ble_eq_true (by kernel_rfl)) ?_
    conv => whnf
    repeat' (first | (refine CondG.mk (fun h => ?_) (fun h => absurd h (by decide +kernel)); clear h; conv => whnf) | (refine CondG.mk (fun h => absurd h (by decide +kernel)) (fun h => ?_); clear h; conv => whnf) | (refine .mk (by first | decide | (unfold roomOK; decide)) ?_; conv => whnf) | (refine LoopG.un 12 ?_; conv => whnf) | fail)
    all_goals first | exact .mk ⟨rfl, rfl⟩ | trace_state
  refine fn_sound (mt := mts) tab_fits tab_mixed Tryz.func121 (by rfl) (by kernel_rfl) (by kernel_rfl) Tryz.results121 (Nat.le_of_ble_eq_true (by kernel_rfl)) ?_
  conv => whnf
  repeat' (first | (refine  CallX.mk _ _ (by exact g) ?_; conv => whnf) | (refine .mk (by first | decide | (unfold roomOK; decide)) ?_; conv => whnf) | fail)
  all_goals first | exact .mk ⟨rfl, rfl⟩ | trace_state
set_option maxRecDepth 100000 in
set_option maxHeartbeats 4000000 in
theorem excess_c : PCp 69 [.c trP, .agg trR] [] (.c (.row 0)) [.row 79 2 [[.int .i64 6, .int .i64 1]]] := by
  refine fn_sound (mt := mts) tab_fits tab_mixed Tryz.func69 (by rfl) (by kernel_rfl) (by kernel_rfl) Tryz.results69 (Nat.le_of_ble_eq_true (by kernel_rfl)) ?_
  conv => whnf
  repeat' (first | (refine CondG.mk (fun h => ?_) (fun h => absurd h (by decide +kernel)); clear h; conv => whnf) | (refine CondG.mk (fun h => absurd h (by decide +kernel)) (fun h => ?_); clear h; conv => whnf) | (refine  CallX.mk _ _ (by first | exact sum_c1 | exact fraction_c) ?_; conv => whnf) | (refine CallG.mk _ _ (by first | exact sum_c1 | exact sum_c2) ?_; conv => whnf) | (refine .mk (by first | decide | (unfold roomOK; decide)) ?_; conv => whnf) | (refine LoopG.un 12 ?_; conv => whnf) | fail)
  all_goals first | exact .mk ⟨rfl, rfl⟩ | trace_state
set_option maxRecDepth 100000 in
set_option maxHeartbeats 4000000 in
theorem down_c : PCp 71 [.c (.int .i64 13), .c (.int .i64 2)] [] (.c (.int .i64 6)) [] := by
  refine fn_sound (mt := mts) tab_fits tab_mixed Tryz.func71 (by rfl) (by kernel_rfl) (by kernel_rfl) Tryz.results71 (Nat.le_of_ble_eq_true (by kernel_rfl)) ?_
  conv => whnf
  repeat' (first | (refine CondG.mk (fun h => absurd h (by decide +kernel)) (fun h => ?_); clear h; conv => whnf) | (refine .mk (by first | decide | (unfold roomOK; decide)) ?_; conv => whnf) | fail)
  all_goals first | exact .mk ⟨rfl, rfl⟩ | trace_state
set_option maxRecDepth 100000 in
set_option maxHeartbeats 4000000 in
theorem flush_c : PCp 70 [.c (.ptr 0 0), .c (.ptr 1 0), .c (.ptr 3 0), .c (.ptr 4 0)] [.box [.int .i64 0], .box [.row 2], .row 79 2 [[.int .i64 6, .int .i64 1]], .box [.nils], .box trR] (.tup []) [.box [.int .i64 (-1)], .box [.row 2], .row 79 2 [[.int .i64 6, .int .i64 1]], .box [.row 5], .box trR, .row 150 2 [[.int .i64 10, .int .i64 6]]] := by
  refine fn_sound (mt := mts) tab_fits tab_mixed Tryz.func70 (by rfl) (by kernel_rfl) (by kernel_rfl) Tryz.results70 (Nat.le_of_ble_eq_true (by kernel_rfl)) ?_
  conv => whnf
  repeat' (first | (refine CondG.mk (fun h => ?_) (fun h => absurd h (by decide +kernel)); clear h; conv => whnf) | (refine CallG.mk _ _ (by exact down_c) ?_; conv => whnf) | (refine .mk (by first | decide | (unfold roomOK; decide)) ?_; conv => whnf) | (refine RowG.mk _ (by rfl) ?_; conv => whnf) | fail)
  all_goals first | exact .mk ⟨rfl, rfl⟩ | trace_state
set_option maxRecDepth 100000 in
set_option maxHeartbeats 4000000 in
theorem detected_c : PCp 32 [.c trP, .agg trR] [] (.tup [.c (.row 0), .c (.int .i64 0)]) [.row 150 2 [[.int .i64 10, .int .i64 6]]] := by
  refine fn_sound (mt := mts) tab_fits tab_mixed Tryz.func32 (by rfl) (by kernel_rfl) (by kernel_rfl) Tryz.results32 (Nat.le_of_ble_eq_true (by kernel_rfl)) ?_
  conv => whnf
  repeat' (first | (refine CondG.mk (fun h => ?_) (fun h => absurd h (by decide +kernel)); clear h; conv => whnf) | (refine CondG.mk (fun h => absurd h (by decide +kernel)) (fun h => ?_); clear h; conv => whnf) | (refine Split.mk (fun h => ?_) (fun h => absurd h (by decide +kernel)); clear h; conv => whnf) | (refine  CallX.mk _ _ (by first | exact traceFault_c | exact excess_c | exact flush_c) ?_; conv => whnf) | (refine .mk (by first | decide | (unfold roomOK; decide)) ?_; conv => whnf) | (refine RowG.mk _ (by rfl) ?_; conv => whnf) | (refine LoopG.un 12 ?_; conv => whnf) | fail)
  all_goals first | exact .mk ⟨rfl, rfl⟩ | trace_state
end Go.Proofs.YtbdlhiogjnbhjaaGreat

namespace Go.Proofs.YtbdlhiogjnbhjaaGreat
set_option linter.unusedVariables false
set_option linter.unusedSimpArgs false
open Abs

set_option maxRecDepth 100000 in
set_option maxHeartbeats 4000000 in
theorem kerrs_pc (l : List Int) (hl : l.length ≤ 1000000) : PCp 36 [.c (.lst 1 (l.map encI))] [] (.c (.int .i64 (firstErr l))) [] := by
  have hlm : (l.map encI).length = l.length := List.length_map ..
  refine fn_sound (mt := mts) tab_fits tab_mixed Tryz.func36 (by rfl) (by kernel_rfl) (by kernel_rfl) Tryz.results36 (Nat.le_of_ble_eq_true (by kernel_rfl)) ?_
  conv => whnf
  refine loop_count (l.length) [] [5, 6, 7] (fun k (_ : Unit) => ⟨[(5, .c (.lst 1 (l.map encI))), (6, .c (.int .i64 (l.map encI).length)), (7, .c (.int .i64 k))], [], 0⟩) (fun k (_ : Unit) => firstErr (l.drop k) = firstErr l) (()) ?_ ?_ ?_
  · conv => whnf
    exact ⟨rfl, rfl⟩
  · intro k _ hk hi
    rw [drop_cons hk, firstErr] at hi
    conv => whnf
    repeat' (first | (refine CondG.mk (fun h => ?_) (fun h => ?_) <;> (try simp only [decide_eq_true_eq, decide_eq_false_iff_not, Bool.not_eq_true', Bool.not_eq_false', beq_iff_eq, beq_eq_false_iff_ne] at h) <;> (first | (exfalso; first | omega | exact h trivial) | (conv => whnf))) | fail)
    refine idx_map k hk rfl ?_
    conv => whnf
    repeat' (first | (refine CondG.mk (fun h => ?_) (fun h => ?_) <;> (try simp only [decide_eq_true_eq, decide_eq_false_iff_not, Bool.not_eq_true', Bool.not_eq_false', beq_iff_eq, beq_eq_false_iff_ne] at h) <;> (first | (exfalso; first | omega | exact h trivial) | (conv => whnf))) | fail)
    · exact fini (by rw [← hi, if_neg (by simpa using h)])
    · refine count_next () hk (by rw [wrap_succ hk (by omega)]; rfl) ?_
      rw [← hi, if_pos (by simpa using h)]
  · intro _ hi
    rw [List.drop_of_length_le (Nat.le_refl _)] at hi
    conv => whnf
    repeat' (first | (refine CondG.mk (fun h => ?_) (fun h => ?_) <;> (try simp only [decide_eq_true_eq, decide_eq_false_iff_not, Bool.not_eq_true', Bool.not_eq_false', beq_iff_eq, beq_eq_false_iff_ne] at h) <;> (first | (exfalso; first | omega | exact h trivial) | (conv => whnf))) | fail)
    exact fini (by rw [← hi]; rfl)
set_option maxRecDepth 100000 in
set_option maxHeartbeats 4000000 in
theorem ready_pc : PCp 13 [] [] (.c (.bool true)) [] := by
  have h1 : seenErr [⟨⟨#[115]⟩, [⟨#[97]⟩], 1⟩] [⟨#[115]⟩] [] = 0 := by decide +kernel
  have h2 : susV [⟨⟨#[115]⟩, [⟨#[97]⟩], 1⟩] [⟨#[115]⟩] [] = [⟨#[97]⟩] := by decide +kernel
  have hF := suspectsP_pc [⟨⟨#[115]⟩, [⟨#[97]⟩], 1⟩] (by simp) [⟨#[115]⟩] []
  rw [if_pos h1, h2, h1] at hF
  have hG := hF.wk (gs := [.c (.lst 3 ([⟨⟨#[115]⟩, [⟨#[97]⟩], 1⟩].map encSv)), .c (.lst 1 ([⟨#[115]⟩].map encS)), .c .nils]) (P2.cons (.refl _) (P2.cons (.refl _) (P2.cons (.c (.nils 1)) P2.nil)))
  have hm : mostX [⟨⟨#[100]⟩, ⟨#[97]⟩, ⟨#[98]⟩, 1, 100⟩] [] ⟨#[100]⟩ 36 = 3 := by decide +kernel
  have ht : twoE [⟨⟨#[100]⟩, ⟨#[97]⟩, ⟨#[98]⟩, 1, 100⟩] [] ⟨#[100]⟩ 36 = 0 := by decide +kernel
  have hM := dMostX_pc [⟨⟨#[100]⟩, ⟨#[97]⟩, ⟨#[98]⟩, 1, 100⟩] [] (by simp) ⟨#[100]⟩ 36
  rw [hm, ht] at hM
  have hN := hM.wk (gs := [.c (.lst 5 ([⟨⟨#[100]⟩, ⟨#[97]⟩, ⟨#[98]⟩, 1, 100⟩].map encDu)), .c .nils, .c (.str ⟨#[100]⟩), .c (.int .i64 36)]) (P2.cons (.refl _) (P2.cons (.c (.nils 3)) (P2.cons (.refl _) (P2.cons (.refl _) P2.nil))))
  have hS := stock_pc ⟨1, 1, ⟨#[100]⟩, ⟨#[116]⟩, ⟨#[]⟩, 5⟩ rfl (by decide +kernel) 1 (by decide) (by decide)
  refine fn_sound (mt := mts) tab_fits tab_mixed Tryz.func13 (by rfl) (by kernel_rfl) (by kernel_rfl) Tryz.results13 (Nat.le_of_ble_eq_true (by kernel_rfl)) ?_
  conv => whnf
  repeat' (first | (refine Split.mk (fun h => ?_) (fun h => absurd h (by decide +kernel)); clear h; conv => whnf) | (refine  CallX.mk _ _ (by first | exact tiny_c | exact path_c | exact detected_c | exact hG | exact hN | exact hS | exact kerrs_pc [0, 0, 0, 0, 0] (by decide)) ?_; conv => whnf) | (refine HookG.no ?_; conv => whnf) | fail)
  all_goals first | exact .mk ⟨rfl, rfl⟩ | exact .mk ⟨sbool (by decide +kernel), rfl⟩ | trace_state
end Go.Proofs.YtbdlhiogjnbhjaaGreat

namespace Go.Proofs.YtbdlhiogjnbhjaaGreat
set_option linter.unusedVariables false
set_option linter.unusedSimpArgs false
open Abs

set_option maxRecDepth 100000 in
set_option maxHeartbeats 4000000 in
theorem spoilZ_pc (l : List ByteArray) (hl : l.length ≤ 1000000) : PCp 6 [.c (.row 0)] [.row 9 1 (l.map encS)] (.tup []) [.row 9 1 ((spK (⟨#[]⟩ : ByteArray) l l.length).map encS)] := by
  have hlm : (l.map encS).length = l.length := List.length_map ..
  refine fn_sound (mt := mts) tab_fits tab_mixed Tryz.func6 (by rfl) (by kernel_rfl) (by kernel_rfl) Tryz.results6 (Nat.le_of_ble_eq_true (by kernel_rfl)) ?_
  conv => whnf
  refine loop_for (l.length) [] [0, 2, 5, 6] (fun k (_ : Unit) => [(6, .c (.int .i64 (k : Int)))]) (fun k (_ : Unit) => [(0, .row 9 1 ((spK (⟨#[]⟩ : ByteArray) l k).map encS))]) (fun k (_ : Unit) => True) (()) ?_
  conv => whnf
  refine ⟨(by first | rfl | (simp; done) | (simp; rfl)), (by trivial), ?_, ?_⟩
  · intro k _ hk _
    have hs := spK_len (⟨#[]⟩ : ByteArray) l k (by omega)
    have hsm : ((spK (⟨#[]⟩ : ByteArray) l k).map encS).length = l.length := by rw [List.length_map, hs]
    have hset := spK_set (⟨#[]⟩ : ByteArray) l k hk
    conv => whnf
    repeat' (first | (refine CondG.mk (fun h => ?_) (fun h => ?_) <;> (try simp only [decide_eq_true_eq, decide_eq_false_iff_not, Bool.not_eq_true', Bool.not_eq_false', beq_iff_eq, beq_eq_false_iff_ne, bne_iff_ne, bne_eq_false_iff_eq] at h) <;> (first | (exfalso; first | omega | exact h trivial) | (conv => whnf))) | (refine .mk (by first | omega | (unfold roomOK; simp [cutRows]; done) | (unfold roomOK; simp [cutRows]; omega) | (simp [cutRows]; done) | (simp [cutRows]; omega)) ?_; conv => whnf) | ((with_reducible refine row_map (by first | assumption | omega) ?_); conv => whnf) | fail)
    all_goals exact count_next () hk (by rw [wrap_succ hk (by omega), ← hset, List.map_set]; rfl) trivial
  · intro _ _
    have hs := spK_len (⟨#[]⟩ : ByteArray) l l.length (by omega)
    have hsm : ((spK (⟨#[]⟩ : ByteArray) l l.length).map encS).length = l.length := by rw [List.length_map, hs]
    conv => whnf
    repeat' (first | (refine CondG.mk (fun h => ?_) (fun h => ?_) <;> (try simp only [decide_eq_true_eq, decide_eq_false_iff_not, Bool.not_eq_true', Bool.not_eq_false', beq_iff_eq, beq_eq_false_iff_ne, bne_iff_ne, bne_eq_false_iff_eq] at h) <;> (first | (exfalso; first | omega | exact h trivial) | (conv => whnf))) | fail)
    all_goals exact .mk ⟨rfl, rfl⟩
set_option maxRecDepth 100000 in
set_option maxHeartbeats 4000000 in
theorem eqDuZ_pc (l : List Du) (hl : l.length ≤ 1000000) : PCp 10 [.c (.lst 5 (l.map encDu)), .c (.lst 5 (l.map encDu))] [] (.c (.bool true)) [] := by
  have hlm : (l.map encDu).length = l.length := List.length_map ..
  refine fn_sound (mt := mts) tab_fits tab_mixed Tryz.func10 (by rfl) (by kernel_rfl) (by kernel_rfl) Tryz.results10 (Nat.le_of_ble_eq_true (by kernel_rfl)) ?_
  conv => whnf
  repeat' (first | (refine CondG.mk (fun h => ?_) (fun h => ?_) <;> (try simp only [decide_eq_true_eq, decide_eq_false_iff_not, Bool.not_eq_true', Bool.not_eq_false', beq_iff_eq, beq_eq_false_iff_ne, bne_iff_ne, bne_eq_false_iff_eq] at h) <;> (first | (exfalso; first | omega | exact h trivial | contradiction | (simp_all [eqRes]; done)) | (conv => whnf))) | fail)
  refine loop_for (l.length) [] [0, 1, 12, 13] (fun k (_ : Unit) => [(13, .c (.int .i64 (k : Int)))]) (fun k (_ : Unit) => []) (fun k (_ : Unit) => True) (()) ?_
  conv => whnf
  refine ⟨(by first | rfl | (simp; done) | (simp; rfl)), (by trivial), ?_, ?_⟩
  · intro k _ hk _
    conv => whnf
    repeat' (first | (refine CondG.mk (fun h => ?_) (fun h => ?_) <;> (try simp only [decide_eq_true_eq, decide_eq_false_iff_not, Bool.not_eq_true', Bool.not_eq_false', beq_iff_eq, beq_eq_false_iff_ne, bne_iff_ne, bne_eq_false_iff_eq] at h) <;> (first | (exfalso; first | omega | exact h trivial | contradiction | (simp_all [eqRes]; done)) | (conv => whnf))) | (refine idx_at _ (by with_reducible rfl) (by first | assumption | omega) ?_; conv => whnf) | fail)
    all_goals exact count_next () hk (by rw [wrap_succ hk (by omega)]; rfl) trivial
  · intro _ _
    conv => whnf
    repeat' (first | (refine CondG.mk (fun h => ?_) (fun h => ?_) <;> (try simp only [decide_eq_true_eq, decide_eq_false_iff_not, Bool.not_eq_true', Bool.not_eq_false', beq_iff_eq, beq_eq_false_iff_ne, bne_iff_ne, bne_eq_false_iff_eq] at h) <;> (first | (exfalso; first | omega | exact h trivial | contradiction | (simp_all [eqRes]; done)) | (conv => whnf))) | fail)
    all_goals exact .mk ⟨rfl, rfl⟩
set_option maxRecDepth 100000 in
set_option maxHeartbeats 4000000 in
theorem spoilLyN_pc : PCp 7 [.c (.lst 3 [])] [] (.tup []) [] := by
  refine fn_sound (mt := mts) tab_fits tab_mixed Tryz.func7 (by rfl) (by kernel_rfl) (by kernel_rfl) Tryz.results7 (Nat.le_of_ble_eq_true (by kernel_rfl)) ?_
  conv => whnf
  skip
  refine loop_for (0) [] [0, 2, 5, 6] (fun k (_ : Unit) => [(6, .c (.int .i64 (k : Int)))]) (fun k (_ : Unit) => []) (fun k (_ : Unit) => True) (()) ?_
  conv => whnf
  refine ⟨(by first | rfl | (simp; done) | (simp; rfl)), (by trivial), ?_, ?_⟩
  · intro k _ hk _
    exact absurd hk (by omega)
  · intro _ _
    conv => whnf
    repeat' (first | (refine CondG.mk (fun h => ?_) (fun h => ?_) <;> (try simp only [decide_eq_true_eq, decide_eq_false_iff_not, Bool.not_eq_true', Bool.not_eq_false', beq_iff_eq, beq_eq_false_iff_ne, bne_iff_ne, bne_eq_false_iff_eq] at h) <;> (first | (exfalso; first | omega | exact h trivial) | (conv => whnf))) | fail)
    all_goals first | exact .mk ⟨rfl, rfl⟩ | (exfalso; simp at h; done)
set_option maxRecDepth 100000 in
set_option maxHeartbeats 4000000 in
theorem spoilStN_pc : PCp 6 [.c (.lst 1 [])] [] (.tup []) [] := by
  refine fn_sound (mt := mts) tab_fits tab_mixed Tryz.func6 (by rfl) (by kernel_rfl) (by kernel_rfl) Tryz.results6 (Nat.le_of_ble_eq_true (by kernel_rfl)) ?_
  conv => whnf
  skip
  refine loop_for (0) [] [0, 2, 5, 6] (fun k (_ : Unit) => [(6, .c (.int .i64 (k : Int)))]) (fun k (_ : Unit) => []) (fun k (_ : Unit) => True) (()) ?_
  conv => whnf
  refine ⟨(by first | rfl | (simp; done) | (simp; rfl)), (by trivial), ?_, ?_⟩
  · intro k _ hk _
    exact absurd hk (by omega)
  · intro _ _
    conv => whnf
    repeat' (first | (refine CondG.mk (fun h => ?_) (fun h => ?_) <;> (try simp only [decide_eq_true_eq, decide_eq_false_iff_not, Bool.not_eq_true', Bool.not_eq_false', beq_iff_eq, beq_eq_false_iff_ne, bne_iff_ne, bne_eq_false_iff_eq] at h) <;> (first | (exfalso; first | omega | exact h trivial) | (conv => whnf))) | fail)
    all_goals first | exact .mk ⟨rfl, rfl⟩ | (exfalso; simp at h; done)
set_option maxRecDepth 100000 in
set_option maxHeartbeats 4000000 in
theorem spoilLyR_pc (R : List (List V)) (hl : R.length ≤ 1000000) : PCq 7 [.c (.row 0)] [.row 36 3 R] fun r os => ∃ R', r = .tup [] ∧ os = [.row 36 3 R'] := by
  refine fn_soundX (mt := mts) tab_fits tab_mixed Tryz.func7 (by rfl) (by kernel_rfl) (by kernel_rfl) Tryz.results7 (Nat.le_of_ble_eq_true (by kernel_rfl)) ?_
  conv => whnf
  skip
  refine loop_for (R.length) [] [0, 2, 5, 6] (fun k (R' : List (List V)) => [(6, .c (.int .i64 (k : Int)))]) (fun k (R' : List (List V)) => [(0, .row 36 3 R')]) (fun k (R' : List (List V)) => R'.length = R.length) (R) ?_
  conv => whnf
  refine ⟨?_, ?_, ?_, ?_⟩
  · rfl
  · rfl
  · intro k R' hk hR
    conv => whnf
    repeat' (first | (refine CondG.mk (fun h => ?_) (fun h => ?_) <;> (try simp only [decide_eq_true_eq, decide_eq_false_iff_not, Bool.not_eq_true', Bool.not_eq_false', beq_iff_eq, beq_eq_false_iff_ne, bne_iff_ne, bne_eq_false_iff_eq] at h) <;> (first | (exfalso; first | omega | exact h trivial) | (conv => whnf))) | (refine .mk (by first | omega | (unfold roomOK; simp [cutRows]; done) | (unfold roomOK; simp [cutRows]; omega) | (simp [cutRows]; done) | (simp [cutRows]; omega)) ?_; conv => whnf) | ((refine RowG.mk _ (by rw [toN]; exact List.getElem?_eq_getElem (by omega)) ?_); conv => whnf) | fail)
    all_goals exact count_next (R'.set k _) hk (by rw [wrap_succ hk (by omega)]; rfl) (by rw [List.length_set]; exact hR)
  · intro R' hR
    conv => whnf
    repeat' (first | (refine CondG.mk (fun h => ?_) (fun h => ?_) <;> (try simp only [decide_eq_true_eq, decide_eq_false_iff_not, Bool.not_eq_true', Bool.not_eq_false', beq_iff_eq, beq_eq_false_iff_ne, bne_iff_ne, bne_eq_false_iff_eq] at h) <;> (first | (exfalso; first | omega | exact h trivial) | (conv => whnf))) | fail)
    all_goals exact .mk _ _ ⟨R', rfl, rfl⟩ (.mk ⟨rfl, rfl⟩)
abbrev zA : ByteArray := ⟨#[97]⟩
abbrev zC : ByteArray := ⟨#[99]⟩
abbrev z9 : ByteArray := ⟨#[107, 57]⟩
abbrev z1 : ByteArray := ⟨#[107, 49]⟩
theorem names_ltZ : ∀ n ∈ lyNm, ltB n z9 = true := by decide +kernel
theorem keyZ9 : keyB z9 = true := by decide +kernel
theorem keyZ1 : keyB z1 = true := by decide +kernel
set_option maxRecDepth 100000 in
set_option maxHeartbeats 4000000 in
theorem wayA_pc (d : List Du) (l : List Ly) (h0 : lyFault d l = 0) (fr to : ByteArray) (o : Int) : PCq 9 [.c (.lst 5 (d.map encDu)), .c (.lst 3 (l.map encLy)), .c (.str fr), .c (.str to), .c (.int .i64 o)] [] fun r os => ∃ (n e : Int) (b : Bool), (r = .tup [.c (.lst 1 []), .c (.int .i64 n), .c (.bool b), .c (.int .i64 e)] ∧ os = []) ∨ ∃ ks : List ByteArray, ks.length ≤ 1000000 ∧ r = .tup [.c (.row 0), .c (.int .i64 n), .c (.bool b), .c (.int .i64 e)] ∧ os = [.row 9 1 (ks.map encS)] := by
  have hdu := du_of h0
  have hok := lyFault_ok h0
  have hx : ∀ x ∈ l, x.ducts.length ≤ 1000000 := fun x hm => (hok.rl x hm).2
  have hdl := hok.du.len
  have c1 := checkLying_pc d l hx
  rw [h0] at c1
  have c3 := waysFault_pc d (by omega) fr to o
  by_cases he : endsErr d fr to o = 0
  · obtain ⟨e1, e2, e3, e4⟩ := ends_ok he
    rw [he] at c3
    refine fn_soundX (mt := mts) tab_fits tab_mixed Tryz.func9 (by rfl) (by kernel_rfl) (by kernel_rfl) Tryz.results9 (Nat.le_of_ble_eq_true (by kernel_rfl)) ?_
    conv => whnf
    repeat' (first | (refine CondG.mk (fun h => ?_) (fun h => ?_) <;> (try simp only [decide_eq_true_eq, decide_eq_false_iff_not, Bool.not_eq_true', Bool.not_eq_false', beq_iff_eq, beq_eq_false_iff_ne, bne_iff_ne, bne_eq_false_iff_eq] at h) <;> (first | (exfalso; first | omega | exact h trivial | contradiction | (simp_all [eqRes]; done)) | (conv => whnf))) | (refine  CallX.mk _ _ (by first | exact c1 | exact c3) ?_; conv => whnf) | fail)
    refine .ex _ (way_pc d l hdu hok fr to (site_size hdu e2) o ⟨by omega, by omega⟩) ?_
    rintro _ _ ⟨g, hC, ⟨hn, rfl, rfl⟩ | ⟨c, P, hF, rfl, rfl⟩⟩
    · conv => whnf
      skip
      exact .mk _ _ ⟨_, _, _, .inl ⟨rfl, rfl⟩⟩ (.mk ⟨rfl, rfl⟩)
    · have hPl := hF.few hC
      have hnl := net_len (fitCap l o) d
      rw [sitesE_len] at hPl
      conv => whnf
      skip
      exact .mk _ _ ⟨_, _, _, .inr ⟨P.map Ed.key, by rw [List.length_map]; omega, rfl, rfl⟩⟩ (.mk ⟨rfl, rfl⟩)
  · generalize endsErr d fr to o = E at *
    refine fn_soundX (mt := mts) tab_fits tab_mixed Tryz.func9 (by rfl) (by kernel_rfl) (by kernel_rfl) Tryz.results9 (Nat.le_of_ble_eq_true (by kernel_rfl)) ?_
    conv => whnf
    repeat' (first | (refine CondG.mk (fun h => ?_) (fun h => ?_) <;> (try simp only [decide_eq_true_eq, decide_eq_false_iff_not, Bool.not_eq_true', Bool.not_eq_false', beq_iff_eq, beq_eq_false_iff_ne, bne_iff_ne, bne_eq_false_iff_eq] at h) <;> (first | (exfalso; first | omega | exact h trivial | contradiction | (simp_all [eqRes]; done)) | (conv => whnf))) | (refine  CallX.mk _ _ (by first | exact c1 | exact c3) ?_; conv => whnf) | fail)
    exact .mk _ _ ⟨_, _, _, .inr ⟨[], by simp, rfl, rfl⟩⟩ (.own2 9 1 _ rfl rfl rfl)
set_option maxRecDepth 100000 in
set_option maxHeartbeats 4000000 in
theorem removedE_pc (d : List Du) (l : List Ly) (h0 : lyFault d l = 0) (cable : ByteArray) (hck : keyB cable = true) (hcab : cabIx l cable = -1) :
    PCp 8 [.c (.lst 5 (d.map encDu)), .c (.lst 3 (l.map encLy)), .c (.str cable)] [] (.tup [.c (.lst 3 []), .c (.int .i64 8)]) [] := by
  have hok := lyFault_ok h0
  have hx : ∀ x ∈ l, x.ducts.length ≤ 1000000 := fun x hm => (hok.rl x hm).2
  have hll := hok.len
  have c1 := checkLying_pc d l hx
  rw [h0] at c1
  have c2 := lying_pc l (by omega) cable
  rw [hcab] at c2
  have c5 := bKey_pc cable
  rw [hck] at c5
  refine fn_sound (mt := mts) tab_fits tab_mixed Tryz.func8 (by rfl) (by kernel_rfl) (by kernel_rfl) Tryz.results8 (Nat.le_of_ble_eq_true (by kernel_rfl)) ?_
  conv => whnf
  repeat' (first | (refine CondG.mk (fun h => ?_) (fun h => ?_) <;> (try simp only [decide_eq_true_eq, decide_eq_false_iff_not, Bool.not_eq_true', Bool.not_eq_false', beq_iff_eq, beq_eq_false_iff_ne, bne_iff_ne, bne_eq_false_iff_eq] at h) <;> (first | (exfalso; first | omega | exact h trivial | contradiction | (simp_all [eqRes]; done)) | (conv => whnf))) | (refine  CallX.mk _ _ (by first | exact c1 | exact c2 | exact c5) ?_; conv => whnf) | fail)
  exact .weak [] (.tup _ _ rfl (fun i x y hx hy => by
    match i with
    | 0 => cases hx; cases hy; exact .nil 3
    | 1 => cases hx; cases hy; exact .refl _
    | n + 2 => cases hx)) rfl (Nat.le_refl _)
theorem laidA_pc (d : List Du) (l : List Ly) (h0 : lyFault d l = 0) (cable : ByteArray) (hck : keyB cable = true) (hgt : ∀ x ∈ l, ltB x.cable cable = true) (fr to : ByteArray) (outer : Int) (hll : l.length < 300) :
    PCq 5 [.c (.lst 5 (d.map encDu)), .c (.lst 3 (l.map encLy)), .c (.str cable), .c (.str fr), .c (.str to), .c (.int .i64 outer)] [] fun r os => (∃ e : Int, r = .tup [.c (.lst 3 []), .c (.int .i64 e)] ∧ os = []) ∨ ∃ (q : RQ) (x : Ly × Value), q.length ≤ 1000 ∧ (∀ y ∈ q ++ [x], y.1.ducts.length ≤ 1000000) ∧ r = .tup [.c (.row 0), .c (.int .i64 0)] ∧ os = [.row 36 3 ((q ++ [x]).map encR), .pool 9 1 (q.map insP), .pool 9 1 ([x].map insP)] := by
  by_cases he : endsErr d fr to outer = 0
  · refine pcx_mono (laidR_pc d l h0 cable hck hgt fr to outer he hll) ?_
    rintro r os (⟨h1, h2⟩ | h)
    · exact .inl ⟨_, h1, h2⟩
    · exact .inr h
  · have hcab : cabIx l cable = -1 := idxP_miss (fun i hi => by
      rw [decide_eq_false_iff_not]
      intro q
      have := hgt _ (List.getElem_mem hi)
      rw [q, ltB_irr] at this; cases this)
    exact pcx_mono (laidE_pc d l h0 cable hck hcab fr to outer he) (fun r os h => .inl ⟨_, h.1, h.2⟩)
theorem removedA_pc (d : List Du) (l : List Ly) (h0 : lyFault d l = 0) (cable : ByteArray) (hck : keyB cable = true) :
    PCq 8 [.c (.lst 5 (d.map encDu)), .c (.lst 3 (l.map encLy)), .c (.str cable)] [] fun r os => (∃ e : Int, r = .tup [.c (.lst 3 []), .c (.int .i64 e)] ∧ os = []) ∨ ∃ (q : RQ) (f : Nat → Nat) (ins : List (Value × Option (List (List V)))), q.length ≤ 1000 ∧ (∀ x ∈ q, x.1.ducts.length ≤ 1000000) ∧ RowsIn q f ins 0 ∧ r = .tup [.c (.row 0), .c (.int .i64 0)] ∧ os = [.row 36 3 (q.map encR), .pool 9 1 ins] := by
  rcases idxP_or (fun x : Ly => decide (x.cable = cable)) l with ⟨hix, _⟩ | ⟨i, hi, hix, _⟩
  · exact pcx_mono (removedE_pc d l h0 cable hck hix) (fun r os h => .inl ⟨_, h.1, h.2⟩)
  · exact pcx_mono (removedR_pc d l h0 cable hck i hi hix) (fun r os h => .inr h)
set_option maxRecDepth 100000 in
set_option maxHeartbeats 4000000 in
theorem ductsStay_pc (L : List Int) (hL : L.length ≤ 9223372036854775807) : PCp 3 [.c (.lst 1 (L.map encI))] [] (.c (.bool true)) [] := by
  have st0 : StOk L 0 := ⟨hL, by omega, by omega⟩
  have b1 := rightDL_bd L 6 0
  have c1 := rRightDF_pc st0 (by omega)
  generalize rightDL L 6 0 = P at *
  obtain ⟨d, l, p⟩ := P
  simp only at b1 c1
  obtain ⟨h0, hdl, hll, hxl, _, _⟩ := b1
  have hgt : ∀ x ∈ l, ltB x.cable z9 = true := fun x hx => names_ltZ _ (hxl x hx).2
  have hx : ∀ x ∈ l, x.ducts.length ≤ 1000000 := fun x hx => Nat.le_trans (hxl x hx).1 (by decide)
  have cW := wayA_pc d l h0 zA zC 20
  have cR := removedA_pc d l h0 z1 keyZ1
  have cL := laidA_pc d l h0 z9 keyZ9 hgt zA zC 20 (by omega)
  have hdm : (d.map encDu).length = d.length := List.length_map ..
  have hlm : (l.map encLy).length = l.length := List.length_map ..
  refine fn_sound (mt := mts) tab_fits tab_mixed Tryz.func3 (by rfl) (by kernel_rfl) (by kernel_rfl) Tryz.results3 (Nat.le_of_ble_eq_true (by kernel_rfl)) ?_
  conv => whnf
  repeat' (first | (refine  CallX.mk _ _ (by exact c1) ?_; conv => whnf) | fail)
  refine .ex _ cL ?_
  rintro _ _ (⟨e, rfl, rfl⟩ | ⟨q, x, hql, hqx, rfl, rfl⟩)
  · conv => whnf
    skip
    refine loop_for (0) [] [5, 6, 7, 8, 9, 42, 43] (fun k (_ : Unit) => [(43, .c (.int .i64 (k : Int)))]) (fun k (_ : Unit) => []) (fun k (_ : Unit) => True) (()) ?_
    conv => whnf
    refine ⟨(by first | rfl | (simp; done) | (simp; rfl)), (by trivial), ?_, ?_⟩
    · intro k _ hk _
      exact absurd hk (by omega)
    · intro _ _
      conv => whnf
      repeat' (first | (refine CondG.mk (fun h => ?_) (fun h => ?_) <;> (try simp only [decide_eq_true_eq, decide_eq_false_iff_not, Bool.not_eq_true', Bool.not_eq_false', beq_iff_eq, beq_eq_false_iff_ne, bne_iff_ne, bne_eq_false_iff_eq] at h) <;> (first | (exfalso; first | omega | exact h trivial) | (conv => whnf))) | (refine  CallX.mk _ _ (by exact spoilLyN_pc) ?_; conv => whnf) | fail)
      all_goals first | (exfalso; simp at h; done) | skip
      refine .ex _ cR ?_
      rintro _ _ (⟨e2, rfl, rfl⟩ | ⟨q2, f2, ins2, hql2, hqx2, hri, rfl, rfl⟩)
      · conv => whnf
        skip
        refine loop_for (0) [] [5, 6, 7, 8, 12, 62, 63] (fun k (_ : Unit) => [(63, .c (.int .i64 (k : Int)))]) (fun k (_ : Unit) => []) (fun k (_ : Unit) => True) (()) ?_
        conv => whnf
        refine ⟨(by first | rfl | (simp; done) | (simp; rfl)), (by trivial), ?_, ?_⟩
        · intro k _ hk _
          exact absurd hk (by omega)
        · intro _ _
          conv => whnf
          repeat' (first | (refine CondG.mk (fun h => ?_) (fun h => ?_) <;> (try simp only [decide_eq_true_eq, decide_eq_false_iff_not, Bool.not_eq_true', Bool.not_eq_false', beq_iff_eq, beq_eq_false_iff_ne, bne_iff_ne, bne_eq_false_iff_eq] at h) <;> (first | (exfalso; first | omega | exact h trivial) | (conv => whnf))) | (refine  CallX.mk _ _ (by exact spoilLyN_pc) ?_; conv => whnf) | fail)
          all_goals first | (exfalso; simp at h; done) | skip
          all_goals
            refine .ex _ cW ?_
            rintro _ _ ⟨n3, e3, b3, (⟨rfl, rfl⟩ | ⟨ks, hks, rfl, rfl⟩)⟩
          · conv => whnf
            repeat' (first | (refine Split.mk (fun h => ?_) (fun h => ?_) <;> (try simp only [decide_eq_true_eq, decide_eq_false_iff_not, Bool.not_eq_true', Bool.not_eq_false', beq_iff_eq, beq_eq_false_iff_ne, bne_iff_ne, bne_eq_false_iff_eq] at h) <;> (first | (exfalso; first | omega | exact h trivial) | (conv => whnf))) | (refine  CallX.mk _ _ (by first | exact spoilStN_pc | exact eqDuZ_pc d (by omega) | exact eqFuncLyY_pc l (by omega) hx | exact ready_pc) ?_; conv => whnf) | fail)
            all_goals first | exact finb rfl | exact .mk ⟨rfl, rfl⟩ | exact .weak [_] (.refl _) rfl (Nat.le_refl _) | exact .weak [_, _] (.refl _) rfl (Nat.le_refl _) | (cases h; done)
          · conv => whnf
            repeat' (first | (refine Split.mk (fun h => ?_) (fun h => ?_) <;> (try simp only [decide_eq_true_eq, decide_eq_false_iff_not, Bool.not_eq_true', Bool.not_eq_false', beq_iff_eq, beq_eq_false_iff_ne, bne_iff_ne, bne_eq_false_iff_eq] at h) <;> (first | (exfalso; first | omega | exact h trivial) | (conv => whnf))) | (refine  CallX.mk _ _ (by first | exact spoilZ_pc ks hks | exact eqDuZ_pc d (by omega) | exact eqFuncLyY_pc l (by omega) hx | exact ready_pc) ?_; conv => whnf) | fail)
            all_goals first | exact finb rfl | exact .mk ⟨rfl, rfl⟩ | exact .weak [_] (.refl _) rfl (Nat.le_refl _) | exact .weak [_, _] (.refl _) rfl (Nat.le_refl _) | (cases h; done)
      · have hqm2 : (q2.map encR).length = q2.length := List.length_map ..
        conv => whnf
        skip
        refine loop_for (q2.length) [] [5, 6, 7, 8, 12, 62, 63] (fun k (ins' : List (Value × Option (List (List V)))) => [(63, .c (.int .i64 (k : Int)))]) (fun k (ins' : List (Value × Option (List (List V)))) => [(1, .pool 9 1 ins')]) (fun k (ins' : List (Value × Option (List (List V)))) => RowsIn q2 f2 ins' k) (ins2) ?_
        conv => whnf
        refine ⟨?_, ?_, ?_, ?_⟩
        · rfl
        · exact hri
        · intro k ins' hk hR
          have hkr : (q2.map encR)[k]? = some (encR (q2[k])) := by rw [List.getElem?_map, List.getElem?_eq_getElem hk]; rfl
          have hget : ins'[f2 k]? = some (q2[(k : Int).toNat].2, some (q2[k].1.ducts.map encS)) := hR.2 k hk (Nat.le_refl _)
          have hdk := hqx2 _ (List.getElem_mem hk)
          conv => whnf
          repeat' (first | (refine CondG.mk (fun h => ?_) (fun h => ?_) <;> (try simp only [decide_eq_true_eq, decide_eq_false_iff_not, Bool.not_eq_true', Bool.not_eq_false', beq_iff_eq, beq_eq_false_iff_ne, bne_iff_ne, bne_eq_false_iff_eq] at h) <;> (first | (exfalso; first | omega | exact h trivial) | (conv => whnf))) | (refine  CallX.mk _ _ (by exact spoilZ_pc q2[k].1.ducts hdk) ?_; conv => whnf) | (refine .mk (by first | omega | (unfold roomOK; simp [cutRows]; done) | (unfold roomOK; simp [cutRows]; omega) | (simp [cutRows]; done) | (simp [cutRows]; omega)) ?_; conv => whnf) | ((with_reducible refine row_map (by first | assumption | omega) ?_); conv => whnf) | ((refine HookG.take 70 1 _ _ (f2 k) _ ins' _ (by rfl) (by rfl) hget ?_); conv => whnf) | (refine HookG.no ?_; conv => whnf) | fail)
          exact count_next (ins'.set (f2 k) (_, none)) hk (by rw [wrap_succ hk (by omega)]; rfl) (hR.step _)
        · intro ins' hR
          conv => whnf
          repeat' (first | (refine CondG.mk (fun h => ?_) (fun h => ?_) <;> (try simp only [decide_eq_true_eq, decide_eq_false_iff_not, Bool.not_eq_true', Bool.not_eq_false', beq_iff_eq, beq_eq_false_iff_ne, bne_iff_ne, bne_eq_false_iff_eq] at h) <;> (first | (exfalso; first | omega | exact h trivial) | (conv => whnf))) | fail)
          refine .ex _ (spoilLyR_pc _ (by rw [List.length_map]; omega)) ?_
          rintro _ _ ⟨R', rfl, rfl⟩
          conv => whnf
          skip
          all_goals first | (exfalso; simp at h; done) | skip
          all_goals
            refine .ex _ cW ?_
            rintro _ _ ⟨n3, e3, b3, (⟨rfl, rfl⟩ | ⟨ks, hks, rfl, rfl⟩)⟩
          · conv => whnf
            repeat' (first | (refine Split.mk (fun h => ?_) (fun h => ?_) <;> (try simp only [decide_eq_true_eq, decide_eq_false_iff_not, Bool.not_eq_true', Bool.not_eq_false', beq_iff_eq, beq_eq_false_iff_ne, bne_iff_ne, bne_eq_false_iff_eq] at h) <;> (first | (exfalso; first | omega | exact h trivial) | (conv => whnf))) | (refine  CallX.mk _ _ (by first | exact spoilStN_pc | exact eqDuZ_pc d (by omega) | exact eqFuncLyY_pc l (by omega) hx | exact ready_pc) ?_; conv => whnf) | fail)
            all_goals first | exact finb rfl | exact .mk ⟨rfl, rfl⟩ | exact .weak [_] (.refl _) rfl (Nat.le_refl _) | exact .weak [_, _] (.refl _) rfl (Nat.le_refl _) | (cases h; done)
          · conv => whnf
            repeat' (first | (refine Split.mk (fun h => ?_) (fun h => ?_) <;> (try simp only [decide_eq_true_eq, decide_eq_false_iff_not, Bool.not_eq_true', Bool.not_eq_false', beq_iff_eq, beq_eq_false_iff_ne, bne_iff_ne, bne_eq_false_iff_eq] at h) <;> (first | (exfalso; first | omega | exact h trivial) | (conv => whnf))) | (refine  CallX.mk _ _ (by first | exact spoilZ_pc ks hks | exact eqDuZ_pc d (by omega) | exact eqFuncLyY_pc l (by omega) hx | exact ready_pc) ?_; conv => whnf) | fail)
            all_goals first | exact finb rfl | exact .mk ⟨rfl, rfl⟩ | exact .weak [_] (.refl _) rfl (Nat.le_refl _) | exact .weak [_, _] (.refl _) rfl (Nat.le_refl _) | (cases h; done)
  · have hqm : ((q ++ [x]).map encR).length = (q ++ [x]).length := List.length_map ..
    have hqn : (q ++ [x]).length = q.length + 1 := by simp
    conv => whnf
    skip
    refine loop_for ((q ++ [x]).length) [.po 9 1] [5, 6, 7, 8, 9, 42, 43] (fun k (ins' : List (Value × Option (List (List V)))) => [(43, .c (.int .i64 (k : Int)))]) (fun k (ins' : List (Value × Option (List (List V)))) => [(1, .pool 9 1 ins')]) (fun k (ins' : List (Value × Option (List (List V)))) => RowsIn (q ++ [x]) (fun k => k) ins' k) (q.map insP ++ [x].map insP) ?_
    conv => whnf
    refine ⟨?_, ?_, ?_, ?_⟩
    · rfl
    · have := rowsIn_id (q ++ [x])
      rw [List.map_append] at this
      exact this
    · intro k ins' hk hR
      have hkr : ((q ++ [x]).map encR)[k]? = some (encR ((q ++ [x])[k])) := by rw [List.getElem?_map, List.getElem?_eq_getElem hk]; rfl
      have hget : ins'[k]? = some ((q ++ [x])[(k : Int).toNat].2, some ((q ++ [x])[k].1.ducts.map encS)) := hR.2 k hk (Nat.le_refl _)
      have hdk := hqx _ (List.getElem_mem hk)
      conv => whnf
      repeat' (first | (refine CondG.mk (fun h => ?_) (fun h => ?_) <;> (try simp only [decide_eq_true_eq, decide_eq_false_iff_not, Bool.not_eq_true', Bool.not_eq_false', beq_iff_eq, beq_eq_false_iff_ne, bne_iff_ne, bne_eq_false_iff_eq] at h) <;> (first | (exfalso; first | omega | exact h trivial) | (conv => whnf))) | (refine  CallX.mk _ _ (by exact spoilZ_pc (q ++ [x])[k].1.ducts hdk) ?_; conv => whnf) | (refine .mk (by first | omega | (unfold roomOK; simp [cutRows]; done) | (unfold roomOK; simp [cutRows]; omega) | (simp [cutRows]; done) | (simp [cutRows]; omega)) ?_; conv => whnf) | ((with_reducible refine row_map (by first | assumption | omega) ?_); conv => whnf) | ((refine HookG.take 50 1 _ _ k _ ins' _ (by rfl) (by rfl) hget ?_); conv => whnf) | (refine HookG.no ?_; conv => whnf) | fail)
      exact count_next (ins'.set k (_, none)) hk (by rw [wrap_succ hk (by omega)]; rfl) (hR.step _)
    · intro insF hRF
      conv => whnf
      repeat' (first | (refine CondG.mk (fun h => ?_) (fun h => ?_) <;> (try simp only [decide_eq_true_eq, decide_eq_false_iff_not, Bool.not_eq_true', Bool.not_eq_false', beq_iff_eq, beq_eq_false_iff_ne, bne_iff_ne, bne_eq_false_iff_eq] at h) <;> (first | (exfalso; first | omega | exact h trivial) | (conv => whnf))) | fail)
      refine .ex _ (spoilLyR_pc _ (by rw [List.length_map]; omega)) ?_
      rintro _ _ ⟨R1, rfl, rfl⟩
      conv => whnf
      skip
      refine .ex _ cR ?_
      rintro _ _ (⟨e2, rfl, rfl⟩ | ⟨q2, f2, ins2, hql2, hqx2, hri, rfl, rfl⟩)
      · conv => whnf
        skip
        refine loop_for (0) [] [5, 6, 7, 8, 12, 62, 63] (fun k (_ : Unit) => [(63, .c (.int .i64 (k : Int)))]) (fun k (_ : Unit) => []) (fun k (_ : Unit) => True) (()) ?_
        conv => whnf
        refine ⟨(by first | rfl | (simp; done) | (simp; rfl)), (by trivial), ?_, ?_⟩
        · intro k _ hk _
          exact absurd hk (by omega)
        · intro _ _
          conv => whnf
          repeat' (first | (refine CondG.mk (fun h => ?_) (fun h => ?_) <;> (try simp only [decide_eq_true_eq, decide_eq_false_iff_not, Bool.not_eq_true', Bool.not_eq_false', beq_iff_eq, beq_eq_false_iff_ne, bne_iff_ne, bne_eq_false_iff_eq] at h) <;> (first | (exfalso; first | omega | exact h trivial) | (conv => whnf))) | (refine  CallX.mk _ _ (by exact spoilLyN_pc) ?_; conv => whnf) | fail)
          all_goals first | (exfalso; simp at h; done) | skip
          all_goals
            refine .ex _ cW ?_
            rintro _ _ ⟨n3, e3, b3, (⟨rfl, rfl⟩ | ⟨ks, hks, rfl, rfl⟩)⟩
          · conv => whnf
            repeat' (first | (refine Split.mk (fun h => ?_) (fun h => ?_) <;> (try simp only [decide_eq_true_eq, decide_eq_false_iff_not, Bool.not_eq_true', Bool.not_eq_false', beq_iff_eq, beq_eq_false_iff_ne, bne_iff_ne, bne_eq_false_iff_eq] at h) <;> (first | (exfalso; first | omega | exact h trivial) | (conv => whnf))) | (refine  CallX.mk _ _ (by first | exact spoilStN_pc | exact eqDuZ_pc d (by omega) | exact eqFuncLyY_pc l (by omega) hx | exact ready_pc) ?_; conv => whnf) | fail)
            all_goals first | exact finb rfl | exact .mk ⟨rfl, rfl⟩ | exact .weak [_] (.refl _) rfl (Nat.le_refl _) | exact .weak [_, _] (.refl _) rfl (Nat.le_refl _) | (cases h; done)
          · conv => whnf
            repeat' (first | (refine Split.mk (fun h => ?_) (fun h => ?_) <;> (try simp only [decide_eq_true_eq, decide_eq_false_iff_not, Bool.not_eq_true', Bool.not_eq_false', beq_iff_eq, beq_eq_false_iff_ne, bne_iff_ne, bne_eq_false_iff_eq] at h) <;> (first | (exfalso; first | omega | exact h trivial) | (conv => whnf))) | (refine  CallX.mk _ _ (by first | exact spoilZ_pc ks hks | exact eqDuZ_pc d (by omega) | exact eqFuncLyY_pc l (by omega) hx | exact ready_pc) ?_; conv => whnf) | fail)
            all_goals first | exact finb rfl | exact .mk ⟨rfl, rfl⟩ | exact .weak [_] (.refl _) rfl (Nat.le_refl _) | exact .weak [_, _] (.refl _) rfl (Nat.le_refl _) | (cases h; done)
      · have hqm2 : (q2.map encR).length = q2.length := List.length_map ..
        conv => whnf
        skip
        refine loop_for (q2.length) [] [5, 6, 7, 8, 12, 62, 63] (fun k (ins' : List (Value × Option (List (List V)))) => [(63, .c (.int .i64 (k : Int)))]) (fun k (ins' : List (Value × Option (List (List V)))) => [(2, .pool 9 1 ins')]) (fun k (ins' : List (Value × Option (List (List V)))) => RowsIn q2 f2 ins' k) (ins2) ?_
        conv => whnf
        refine ⟨?_, ?_, ?_, ?_⟩
        · rfl
        · exact hri
        · intro k ins' hk hR
          have hkr : (q2.map encR)[k]? = some (encR (q2[k])) := by rw [List.getElem?_map, List.getElem?_eq_getElem hk]; rfl
          have hget : ins'[f2 k]? = some (q2[(k : Int).toNat].2, some (q2[k].1.ducts.map encS)) := hR.2 k hk (Nat.le_refl _)
          have hdk := hqx2 _ (List.getElem_mem hk)
          conv => whnf
          repeat' (first | (refine CondG.mk (fun h => ?_) (fun h => ?_) <;> (try simp only [decide_eq_true_eq, decide_eq_false_iff_not, Bool.not_eq_true', Bool.not_eq_false', beq_iff_eq, beq_eq_false_iff_ne, bne_iff_ne, bne_eq_false_iff_eq] at h) <;> (first | (exfalso; first | omega | exact h trivial) | (conv => whnf))) | (refine  CallX.mk _ _ (by exact spoilZ_pc q2[k].1.ducts hdk) ?_; conv => whnf) | (refine .mk (by first | omega | (unfold roomOK; simp [cutRows]; done) | (unfold roomOK; simp [cutRows]; omega) | (simp [cutRows]; done) | (simp [cutRows]; omega)) ?_; conv => whnf) | ((with_reducible refine row_map (by first | assumption | omega) ?_); conv => whnf) | ((refine HookG.take 70 2 _ _ (f2 k) _ ins' _ (by rfl) (by rfl) hget ?_); conv => whnf) | (refine HookG.no ?_; conv => whnf) | fail)
          exact count_next (ins'.set (f2 k) (_, none)) hk (by rw [wrap_succ hk (by omega)]; rfl) (hR.step _)
        · intro ins' hR
          conv => whnf
          repeat' (first | (refine CondG.mk (fun h => ?_) (fun h => ?_) <;> (try simp only [decide_eq_true_eq, decide_eq_false_iff_not, Bool.not_eq_true', Bool.not_eq_false', beq_iff_eq, beq_eq_false_iff_ne, bne_iff_ne, bne_eq_false_iff_eq] at h) <;> (first | (exfalso; first | omega | exact h trivial) | (conv => whnf))) | fail)
          refine .ex _ (spoilLyR_pc _ (by rw [List.length_map]; omega)) ?_
          rintro _ _ ⟨R', rfl, rfl⟩
          conv => whnf
          skip
          all_goals first | (exfalso; simp at h; done) | skip
          all_goals
            refine .ex _ cW ?_
            rintro _ _ ⟨n3, e3, b3, (⟨rfl, rfl⟩ | ⟨ks, hks, rfl, rfl⟩)⟩
          · conv => whnf
            repeat' (first | (refine Split.mk (fun h => ?_) (fun h => ?_) <;> (try simp only [decide_eq_true_eq, decide_eq_false_iff_not, Bool.not_eq_true', Bool.not_eq_false', beq_iff_eq, beq_eq_false_iff_ne, bne_iff_ne, bne_eq_false_iff_eq] at h) <;> (first | (exfalso; first | omega | exact h trivial) | (conv => whnf))) | (refine  CallX.mk _ _ (by first | exact spoilStN_pc | exact eqDuZ_pc d (by omega) | exact eqFuncLyY_pc l (by omega) hx | exact ready_pc) ?_; conv => whnf) | fail)
            all_goals first | exact finb rfl | exact .mk ⟨rfl, rfl⟩ | exact .weak [_] (.refl _) rfl (Nat.le_refl _) | exact .weak [_, _] (.refl _) rfl (Nat.le_refl _) | (cases h; done)
          · conv => whnf
            repeat' (first | (refine Split.mk (fun h => ?_) (fun h => ?_) <;> (try simp only [decide_eq_true_eq, decide_eq_false_iff_not, Bool.not_eq_true', Bool.not_eq_false', beq_iff_eq, beq_eq_false_iff_ne, bne_iff_ne, bne_eq_false_iff_eq] at h) <;> (first | (exfalso; first | omega | exact h trivial) | (conv => whnf))) | (refine  CallX.mk _ _ (by first | exact spoilZ_pc ks hks | exact eqDuZ_pc d (by omega) | exact eqFuncLyY_pc l (by omega) hx | exact ready_pc) ?_; conv => whnf) | fail)
            all_goals first | exact finb rfl | exact .mk ⟨rfl, rfl⟩ | exact .weak [_] (.refl _) rfl (Nat.le_refl _) | exact .weak [_, _] (.refl _) rfl (Nat.le_refl _) | (cases h; done)
end Go.Proofs.YtbdlhiogjnbhjaaGreat

