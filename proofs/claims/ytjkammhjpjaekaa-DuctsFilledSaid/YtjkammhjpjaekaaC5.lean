/- Plans: what is left on drums, by the abstract walk. -/
import Derived.Test.YtjkammhjpjaekaaC4
namespace Go.Proofs.Ytjkammhjpjaekaa
set_option linter.unusedVariables false
set_option linter.unusedSimpArgs false
open Abs

theorem pcsErr_ok : ∀ (l : List Pc) (f : Bool) (b : ByteArray), pcsErr f b l = 0 → ∀ x ∈ l, 1 ≤ x.long ∧ x.long ≤ 200000
  | [], _, _, _, x, hx => by simp at hx
  | y :: r, f, b, h, x, hx => by
    simp only [pcsErr] at h
    split at h
    · rename_i h1
      rcases List.mem_cons.1 hx with rfl | hx
      · unfold pcErr at h1
        split at h1
        · omega
        · split at h1
          · omega
          · split at h1 <;> omega
      · exact pcsErr_ok r _ _ h x hx
    · rename_i h1; exact absurd h h1
theorem pcFault_ok {l : List Pc} (h : pcFault l = 0) : l.length ≤ 100 ∧ ∀ x ∈ l, 1 ≤ x.long ∧ x.long ≤ 200000 := by
  unfold pcFault at h
  split at h
  · omega
  · exact ⟨by omega, pcsErr_ok l _ _ h⟩
theorem allErr_ok {d s : List Pc} {r : Int × Int} (h : allErr d s r = 0) : pcFault d = 0 ∧ pcFault s = 0 ∧ 0 ≤ r.1 ∧ r.1 ≤ 1000 ∧ 0 ≤ r.2 ∧ r.2 ≤ 1000 := by
  unfold allErr firstErr firstErr firstErr firstErr at h
  split at h
  · split at h
    · split at h
      · rename_i h1 h2 h3
        unfold ruleErr at h3
        split at h3
        · omega
        · exact ⟨h1, h2, by omega, by omega, by omega, by omega⟩
      · rename_i h3; exact absurd h h3
    · rename_i h3; exact absurd h h3
  · rename_i h3; exact absurd h h3

/-- the index of the first one for which something is so -/
def idxP {α : Type} (p : α → Bool) (l : List α) : Int := if l.any p then (l.findIdx p : Int) else -1
theorem idxP_hit {α : Type} {p : α → Bool} {l : List α} {k : Nat} (hk : k < l.length) (h : ∀ i (hi : i < k), p (l[i]'(by omega)) = false) (hp : p l[k] = true) : idxP p l = k := by
  have h1 : l.any p = true := List.any_eq_true.2 ⟨_, List.getElem_mem hk, hp⟩
  have h2 : l.findIdx p = k := by
    rw [List.findIdx_eq hk]
    exact ⟨hp, fun j hj => by simpa using h j hj⟩
  rw [idxP, if_pos h1, h2]
theorem idxP_miss {α : Type} {p : α → Bool} {l : List α} (h : ∀ i (hi : i < l.length), p l[i] = false) : idxP p l = -1 := by
  have h1 : ¬ l.any p = true := by
    rw [List.any_eq_true]
    rintro ⟨x, hx, hp⟩
    obtain ⟨i, hi, rfl⟩ := List.getElem_of_mem hx
    rw [h i hi] at hp; cases hp
  rw [idxP, if_neg h1]
theorem idxP_any {α : Type} (p : α → Bool) (l : List α) : decide (0 ≤ idxP p l) = l.any p := by
  unfold idxP
  cases l.any p <;> simp
set_option maxRecDepth 100000 in
set_option maxHeartbeats 4000000 in
theorem indexFuncI_pc (g : Nat) (p : Int → Bool) (l : List Int) (hl : l.length ≤ 1000000) (hg : ∀ x, PCp g [.c (.int .i64 x)] [] (.c (.bool (p x))) []) : PCp 138 [.c (.lst 1 (l.map encI)), .c (.fn g [])] [] (.c (.int .i64 (idxP p l))) [] := by
  have hlm : (l.map encI).length = l.length := List.length_map ..
  refine fn_sound (mt := mts) tab_fits tab_mixed Try.func138 (by rfl) (by kernel_rfl) (by kernel_rfl) Try.results138 (Nat.le_of_ble_eq_true (by kernel_rfl)) ?_
  conv => whnf
  refine loop_count (l.length) [] [0, 1, 7, 8] (fun k (_ : Unit) => ⟨[(0, .c (.lst 1 (l.map encI))), (1, .c (.fn g [])), (7, .c (.int .i64 (l.map encI).length)), (8, .c (.int .i64 k))], [], 0⟩) (fun k (_ : Unit) => ∀ i (hi : i < l.length), i < k → p l[i] = false) (()) ?_ ?_ ?_
  · conv => whnf
    exact ⟨rfl, by intro i hi h; omega⟩
  · intro k _ hk hi
    conv => whnf
    repeat' (first
      | (refine Split.mk (fun h => ?_) (fun h => ?_) <;> (try simp only [decide_eq_true_eq, decide_eq_false_iff_not, Bool.not_eq_true', Bool.not_eq_false', beq_iff_eq, beq_eq_false_iff_ne] at h) <;> (first | (exfalso; first | omega | exact h trivial) | (conv => whnf)))
      | (refine CondG.mk (fun h => ?_) (fun h => ?_) <;> (try simp only [decide_eq_true_eq, decide_eq_false_iff_not, Bool.not_eq_true', Bool.not_eq_false', beq_iff_eq, beq_eq_false_iff_ne] at h) <;> (first | (exfalso; first | omega | exact h trivial) | (conv => whnf)))
      | (refine Ask.mk (by first | omega | (unfold roomOK; simp [cutRows]; done) | (unfold roomOK; simp [cutRows]; omega)) ?_; conv => whnf)
      | (refine SliceG.fr ?_; conv => whnf)
      | fail)
    refine idx_map k hk rfl ?_
    conv => whnf
    refine .mk _ _ (hg l[k]) ?_
    conv => whnf
    repeat' (first
      | (refine Split.mk (fun h => ?_) (fun h => ?_) <;> (try simp only [decide_eq_true_eq, decide_eq_false_iff_not, Bool.not_eq_true', Bool.not_eq_false', beq_iff_eq, beq_eq_false_iff_ne] at h) <;> (first | (exfalso; first | omega | exact h trivial) | (conv => whnf)))
      | (refine CondG.mk (fun h => ?_) (fun h => ?_) <;> (try simp only [decide_eq_true_eq, decide_eq_false_iff_not, Bool.not_eq_true', Bool.not_eq_false', beq_iff_eq, beq_eq_false_iff_ne] at h) <;> (first | (exfalso; first | omega | exact h trivial) | (conv => whnf)))
      | (refine Ask.mk (by first | omega | (unfold roomOK; simp [cutRows]; done) | (unfold roomOK; simp [cutRows]; omega)) ?_; conv => whnf)
      | (refine SliceG.fr ?_; conv => whnf)
      | fail)
    · exact fini (idxP_hit hk (fun i hi' => hi i (by omega) hi') h).symm
    · refine count_next () hk (by rw [wrap_succ hk (by omega)]; rfl) ?_
      intro i hi1 hi2
      rcases Nat.lt_or_ge i k with h3 | h3
      · exact hi i hi1 h3
      · have : i = k := by omega
        subst this; exact h
  · intro _ hi
    conv => whnf
    repeat' (first
      | (refine Split.mk (fun h => ?_) (fun h => ?_) <;> (try simp only [decide_eq_true_eq, decide_eq_false_iff_not, Bool.not_eq_true', Bool.not_eq_false', beq_iff_eq, beq_eq_false_iff_ne] at h) <;> (first | (exfalso; first | omega | exact h trivial) | (conv => whnf)))
      | (refine CondG.mk (fun h => ?_) (fun h => ?_) <;> (try simp only [decide_eq_true_eq, decide_eq_false_iff_not, Bool.not_eq_true', Bool.not_eq_false', beq_iff_eq, beq_eq_false_iff_ne] at h) <;> (first | (exfalso; first | omega | exact h trivial) | (conv => whnf)))
      | (refine Ask.mk (by first | omega | (unfold roomOK; simp [cutRows]; done) | (unfold roomOK; simp [cutRows]; omega)) ?_; conv => whnf)
      | (refine SliceG.fr ?_; conv => whnf)
      | fail)
    exact fini (idxP_miss (fun i h => hi i h h)).symm
set_option maxRecDepth 100000 in
set_option maxHeartbeats 4000000 in
theorem containsFuncI_pc (g : Nat) (p : Int → Bool) (l : List Int) (hl : l.length ≤ 1000000) (hg : ∀ x, PCp g [.c (.int .i64 x)] [] (.c (.bool (p x))) []) : PCp 97 [.c (.lst 1 (l.map encI)), .c (.fn g [])] [] (.c (.bool (l.any p))) [] := by
  refine fn_sound (mt := mts) tab_fits tab_mixed Try.func97 (by rfl) (by kernel_rfl) (by kernel_rfl) Try.results97 (Nat.le_of_ble_eq_true (by kernel_rfl)) ?_
  conv => whnf
  repeat' (first
    | (refine Split.mk (fun h => ?_) (fun h => ?_) <;> (try simp only [decide_eq_true_eq, decide_eq_false_iff_not, Bool.not_eq_true', Bool.not_eq_false', beq_iff_eq, beq_eq_false_iff_ne] at h) <;> (first | (exfalso; first | omega | exact h trivial) | (conv => whnf)))
    | (refine CondG.mk (fun h => ?_) (fun h => ?_) <;> (try simp only [decide_eq_true_eq, decide_eq_false_iff_not, Bool.not_eq_true', Bool.not_eq_false', beq_iff_eq, beq_eq_false_iff_ne] at h) <;> (first | (exfalso; first | omega | exact h trivial) | (conv => whnf)))
    | (refine CallX.mk _ _ (by first | exact indexFuncI_pc g p l hl hg) ?_; conv => whnf)
    | (refine CallG.mk _ _ (by first | exact indexFuncI_pc g p l hl hg) ?_; conv => whnf)
    | (refine Ask.mk (by first | omega | (unfold roomOK; simp [cutRows]; done) | (unfold roomOK; simp [cutRows]; omega)) ?_; conv => whnf)
    | (refine SliceG.fr ?_; conv => whnf)
    | fail)
  exact finb (idxP_any p l)
set_option maxRecDepth 100000 in
set_option maxHeartbeats 4000000 in
theorem indexI_pc (v : Int) (l : List Int) (hl : l.length ≤ 1000000) : PCp 137 [.c (.lst 1 (l.map encI)), .c (.int .i64 v)] [] (.c (.int .i64 (idxP (v == ·) l))) [] := by
  have hlm : (l.map encI).length = l.length := List.length_map ..
  refine fn_sound (mt := mts) tab_fits tab_mixed Try.func137 (by rfl) (by kernel_rfl) (by kernel_rfl) Try.results137 (Nat.le_of_ble_eq_true (by kernel_rfl)) ?_
  conv => whnf
  refine loop_count (l.length) [] [0, 1, 7, 8] (fun k (_ : Unit) => ⟨[(0, .c (.lst 1 (l.map encI))), (1, .c (.int .i64 v)), (7, .c (.int .i64 (l.map encI).length)), (8, .c (.int .i64 k))], [], 0⟩) (fun k (_ : Unit) => ∀ i (hi : i < l.length), i < k → (v == l[i]) = false) (()) ?_ ?_ ?_
  · conv => whnf
    exact ⟨rfl, by intro i hi h; omega⟩
  · intro k _ hk hi
    conv => whnf
    repeat' (first
      | (refine Split.mk (fun h => ?_) (fun h => ?_) <;> (try simp only [decide_eq_true_eq, decide_eq_false_iff_not, Bool.not_eq_true', Bool.not_eq_false', beq_iff_eq, beq_eq_false_iff_ne] at h) <;> (first | (exfalso; first | omega | exact h trivial) | (conv => whnf)))
      | (refine CondG.mk (fun h => ?_) (fun h => ?_) <;> (try simp only [decide_eq_true_eq, decide_eq_false_iff_not, Bool.not_eq_true', Bool.not_eq_false', beq_iff_eq, beq_eq_false_iff_ne] at h) <;> (first | (exfalso; first | omega | exact h trivial) | (conv => whnf)))
      | (refine Ask.mk (by first | omega | (unfold roomOK; simp [cutRows]; done) | (unfold roomOK; simp [cutRows]; omega)) ?_; conv => whnf)
      | (refine SliceG.fr ?_; conv => whnf)
      | fail)
    refine idx_map k hk rfl ?_
    conv => whnf
    repeat' (first
      | (refine Split.mk (fun h => ?_) (fun h => ?_) <;> (try simp only [decide_eq_true_eq, decide_eq_false_iff_not, Bool.not_eq_true', Bool.not_eq_false', beq_iff_eq, beq_eq_false_iff_ne] at h) <;> (first | (exfalso; first | omega | exact h trivial) | (conv => whnf)))
      | (refine CondG.mk (fun h => ?_) (fun h => ?_) <;> (try simp only [decide_eq_true_eq, decide_eq_false_iff_not, Bool.not_eq_true', Bool.not_eq_false', beq_iff_eq, beq_eq_false_iff_ne] at h) <;> (first | (exfalso; first | omega | exact h trivial) | (conv => whnf)))
      | (refine Ask.mk (by first | omega | (unfold roomOK; simp [cutRows]; done) | (unfold roomOK; simp [cutRows]; omega)) ?_; conv => whnf)
      | (refine SliceG.fr ?_; conv => whnf)
      | fail)
    · exact fini (idxP_hit (p := (v == ·)) hk (fun i hi' => hi i (by omega) hi') (by simpa using h)).symm
    · refine count_next () hk (by rw [wrap_succ hk (by omega)]; rfl) ?_
      intro i hi1 hi2
      rcases Nat.lt_or_ge i k with h3 | h3
      · exact hi i hi1 h3
      · have : i = k := by omega
        subst this; simpa using h
  · intro _ hi
    conv => whnf
    repeat' (first
      | (refine Split.mk (fun h => ?_) (fun h => ?_) <;> (try simp only [decide_eq_true_eq, decide_eq_false_iff_not, Bool.not_eq_true', Bool.not_eq_false', beq_iff_eq, beq_eq_false_iff_ne] at h) <;> (first | (exfalso; first | omega | exact h trivial) | (conv => whnf)))
      | (refine CondG.mk (fun h => ?_) (fun h => ?_) <;> (try simp only [decide_eq_true_eq, decide_eq_false_iff_not, Bool.not_eq_true', Bool.not_eq_false', beq_iff_eq, beq_eq_false_iff_ne] at h) <;> (first | (exfalso; first | omega | exact h trivial) | (conv => whnf)))
      | (refine Ask.mk (by first | omega | (unfold roomOK; simp [cutRows]; done) | (unfold roomOK; simp [cutRows]; omega)) ?_; conv => whnf)
      | (refine SliceG.fr ?_; conv => whnf)
      | fail)
    exact fini (idxP_miss (p := (v == ·)) (fun i h => hi i h h)).symm
set_option maxRecDepth 100000 in
set_option maxHeartbeats 4000000 in
theorem containsI_pc (v : Int) (l : List Int) (hl : l.length ≤ 1000000) : PCp 96 [.c (.lst 1 (l.map encI)), .c (.int .i64 v)] [] (.c (.bool (l.any (v == ·)))) [] := by
  refine fn_sound (mt := mts) tab_fits tab_mixed Try.func96 (by rfl) (by kernel_rfl) (by kernel_rfl) Try.results96 (Nat.le_of_ble_eq_true (by kernel_rfl)) ?_
  conv => whnf
  repeat' (first
    | (refine Split.mk (fun h => ?_) (fun h => ?_) <;> (try simp only [decide_eq_true_eq, decide_eq_false_iff_not, Bool.not_eq_true', Bool.not_eq_false', beq_iff_eq, beq_eq_false_iff_ne] at h) <;> (first | (exfalso; first | omega | exact h trivial) | (conv => whnf)))
    | (refine CondG.mk (fun h => ?_) (fun h => ?_) <;> (try simp only [decide_eq_true_eq, decide_eq_false_iff_not, Bool.not_eq_true', Bool.not_eq_false', beq_iff_eq, beq_eq_false_iff_ne] at h) <;> (first | (exfalso; first | omega | exact h trivial) | (conv => whnf)))
    | (refine CallX.mk _ _ (by first | exact indexI_pc v l hl) ?_; conv => whnf)
    | (refine CallG.mk _ _ (by first | exact indexI_pc v l hl) ?_; conv => whnf)
    | (refine Ask.mk (by first | omega | (unfold roomOK; simp [cutRows]; done) | (unfold roomOK; simp [cutRows]; omega)) ?_; conv => whnf)
    | (refine SliceG.fr ?_; conv => whnf)
    | fail)
  exact finb (idxP_any _ l)
set_option maxRecDepth 100000 in
set_option maxHeartbeats 4000000 in
theorem left1_pc (x : Int) : PCp 136 [.c (.int .i64 x)] [] (.c (.bool (decide (x < 0)))) [] := by
  refine fn_sound (mt := mts) tab_fits tab_mixed Try.func136 (by rfl) (by kernel_rfl) (by kernel_rfl) Try.results136 (Nat.le_of_ble_eq_true (by kernel_rfl)) ?_
  conv => whnf
  repeat' (first
    | (refine Split.mk (fun h => ?_) (fun h => ?_) <;> (try simp only [decide_eq_true_eq, decide_eq_false_iff_not, Bool.not_eq_true', Bool.not_eq_false', beq_iff_eq, beq_eq_false_iff_ne] at h) <;> (first | (exfalso; first | omega | exact h trivial) | (conv => whnf)))
    | (refine CondG.mk (fun h => ?_) (fun h => ?_) <;> (try simp only [decide_eq_true_eq, decide_eq_false_iff_not, Bool.not_eq_true', Bool.not_eq_false', beq_iff_eq, beq_eq_false_iff_ne] at h) <;> (first | (exfalso; first | omega | exact h trivial) | (conv => whnf)))
    | (refine Ask.mk (by first | omega | (unfold roomOK; simp [cutRows]; done) | (unfold roomOK; simp [cutRows]; omega)) ?_; conv => whnf)
    | (refine SliceG.fr ?_; conv => whnf)
    | fail)
  exact finb rfl
set_option maxRecDepth 100000 in
set_option maxHeartbeats 4000000 in
theorem plan1_pc (x : Int) : PCp 98 [.c (.int .i64 x)] [] (.c (.bool (decide (x < 0)))) [] := by
  refine fn_sound (mt := mts) tab_fits tab_mixed Try.func98 (by rfl) (by kernel_rfl) (by kernel_rfl) Try.results98 (Nat.le_of_ble_eq_true (by kernel_rfl)) ?_
  conv => whnf
  repeat' (first
    | (refine Split.mk (fun h => ?_) (fun h => ?_) <;> (try simp only [decide_eq_true_eq, decide_eq_false_iff_not, Bool.not_eq_true', Bool.not_eq_false', beq_iff_eq, beq_eq_false_iff_ne] at h) <;> (first | (exfalso; first | omega | exact h trivial) | (conv => whnf)))
    | (refine CondG.mk (fun h => ?_) (fun h => ?_) <;> (try simp only [decide_eq_true_eq, decide_eq_false_iff_not, Bool.not_eq_true', Bool.not_eq_false', beq_iff_eq, beq_eq_false_iff_ne] at h) <;> (first | (exfalso; first | omega | exact h trivial) | (conv => whnf)))
    | (refine Ask.mk (by first | omega | (unfold roomOK; simp [cutRows]; done) | (unfold roomOK; simp [cutRows]; omega)) ?_; conv => whnf)
    | (refine SliceG.fr ?_; conv => whnf)
    | fail)
  exact finb rfl

/-- the pieces, seen through a function -/
abbrev pcBox (l : List Pc) : Ob := .box [.lst 3 (l.map encPc)]
set_option maxRecDepth 100000 in
set_option maxHeartbeats 4000000 in
theorem drums1_pc (l : List Pc) (k : Nat) (hk : k < l.length) : PCp 101 [.c (.int .i64 k), .c (.ptr 0 0)] [pcBox l] (.tup [.c (.str l[k].key), .c (.str l[k].kind), .c (.int .i64 l[k].long)]) [pcBox l] := by
  refine fn_sound (mt := mts) tab_fits tab_mixed Try.func101 (by rfl) (by kernel_rfl) (by kernel_rfl) Try.results101 (Nat.le_of_ble_eq_true (by kernel_rfl)) ?_
  conv => whnf
  refine idx_map k hk rfl ?_
  conv => whnf
  refine idx_map k hk rfl ?_
  conv => whnf
  refine idx_map k hk rfl ?_
  conv => whnf
  exact .mk ⟨rfl, rfl⟩
set_option maxRecDepth 100000 in
set_option maxHeartbeats 4000000 in
theorem sects1_pc (l : List Pc) (k : Nat) (hk : k < l.length) : PCp 102 [.c (.int .i64 k), .c (.ptr 0 0)] [pcBox l] (.tup [.c (.str l[k].key), .c (.str l[k].kind), .c (.int .i64 l[k].long)]) [pcBox l] := by
  refine fn_sound (mt := mts) tab_fits tab_mixed Try.func102 (by rfl) (by kernel_rfl) (by kernel_rfl) Try.results102 (Nat.le_of_ble_eq_true (by kernel_rfl)) ?_
  conv => whnf
  refine idx_map k hk rfl ?_
  conv => whnf
  refine idx_map k hk rfl ?_
  conv => whnf
  refine idx_map k hk rfl ?_
  conv => whnf
  exact .mk ⟨rfl, rfl⟩
set_option maxRecDepth 100000 in
set_option maxHeartbeats 4000000 in
theorem pieceFault_pc (g : Nat) (l : List Pc) (hg : ∀ (k : Nat) (hk : k < l.length), PCp g [.c (.int .i64 k), .c (.ptr 0 0)] [pcBox l] (.tup [.c (.str l[k].key), .c (.str l[k].kind), .c (.int .i64 l[k].long)]) [pcBox l]) :
    PCp 100 [.c (.int .i64 (l.map encPc).length), .c (.fn g [.ptr 0 0])] [pcBox l] (.c (.int .i64 (pcFault l))) [pcBox l] := by
  have hlm : (l.map encPc).length = l.length := List.length_map ..
  refine fn_sound (mt := mts) tab_fits tab_mixed Try.func100 (by rfl) (by kernel_rfl) (by kernel_rfl) Try.results100 (Nat.le_of_ble_eq_true (by kernel_rfl)) ?_
  conv => whnf
  repeat' (first
    | (refine Split.mk (fun h => ?_) (fun h => ?_) <;> (try simp only [decide_eq_true_eq, decide_eq_false_iff_not, Bool.not_eq_true', Bool.not_eq_false', beq_iff_eq, beq_eq_false_iff_ne] at h) <;> (first | (exfalso; first | omega | exact h trivial) | (conv => whnf)))
    | (refine CondG.mk (fun h => ?_) (fun h => ?_) <;> (try simp only [decide_eq_true_eq, decide_eq_false_iff_not, Bool.not_eq_true', Bool.not_eq_false', beq_iff_eq, beq_eq_false_iff_ne] at h) <;> (first | (exfalso; first | omega | exact h trivial) | (conv => whnf)))
    | (refine Ask.mk (by first | omega | (unfold roomOK; simp [cutRows]; done) | (unfold roomOK; simp [cutRows]; omega)) ?_; conv => whnf)
    | (refine SliceG.fr ?_; conv => whnf)
    | fail)
  · exact fini (by simp_all [pcFault] <;> omega)
  have hF : pcFault l = pcsErr false ⟨#[]⟩ l := by rw [pcFault, if_neg (by omega), pcsErr_first ⟨#[]⟩]
  refine loop_count (l.length) [] [1, 5, 12, 13] (fun k (b : ByteArray) => ⟨[(1, .c (.fn g [.ptr 0 0])), (5, .c (.str b)), (12, .c (.int .i64 (l.map encPc).length)), (13, .c (.int .i64 k))], [(0, pcBox l)], 1⟩) (fun k (b : ByteArray) => pcsErr false b (l.drop k) = pcFault l) (⟨#[]⟩) ?_ ?_ ?_
  · conv => whnf
    exact ⟨rfl, by rw [hF]; rfl⟩
  · intro k b hk hi
    rw [drop_cons hk, pcsErr] at hi
    conv => whnf
    repeat' (first
      | (refine Split.mk (fun h => ?_) (fun h => ?_) <;> (try simp only [decide_eq_true_eq, decide_eq_false_iff_not, Bool.not_eq_true', Bool.not_eq_false', beq_iff_eq, beq_eq_false_iff_ne] at h) <;> (first | (exfalso; first | omega | exact h trivial) | (conv => whnf)))
      | (refine CondG.mk (fun h => ?_) (fun h => ?_) <;> (try simp only [decide_eq_true_eq, decide_eq_false_iff_not, Bool.not_eq_true', Bool.not_eq_false', beq_iff_eq, beq_eq_false_iff_ne] at h) <;> (first | (exfalso; first | omega | exact h trivial) | (conv => whnf)))
      | (refine Ask.mk (by first | omega | (unfold roomOK; simp [cutRows]; done) | (unfold roomOK; simp [cutRows]; omega)) ?_; conv => whnf)
      | (refine SliceG.fr ?_; conv => whnf)
      | fail)
    refine .mk _ _ (hg k hk) ?_
    conv => whnf
    repeat' (first
      | (refine Split.mk (fun h => ?_) (fun h => ?_) <;> (try simp only [decide_eq_true_eq, decide_eq_false_iff_not, Bool.not_eq_true', Bool.not_eq_false', beq_iff_eq, beq_eq_false_iff_ne] at h) <;> (first | (exfalso; first | omega | exact h trivial) | (conv => whnf)))
      | (refine CondG.mk (fun h => ?_) (fun h => ?_) <;> (try simp only [decide_eq_true_eq, decide_eq_false_iff_not, Bool.not_eq_true', Bool.not_eq_false', beq_iff_eq, beq_eq_false_iff_ne] at h) <;> (first | (exfalso; first | omega | exact h trivial) | (conv => whnf)))
      | (refine CallX.mk _ _ (by first | exact rKey_pc _ | exact rIn_pc _ _ _) ?_; conv => whnf)
      | (refine CallG.mk _ _ (by first | exact rKey_pc _ | exact rIn_pc _ _ _) ?_; conv => whnf)
      | (refine Ask.mk (by first | omega | (unfold roomOK; simp [cutRows]; done) | (unfold roomOK; simp [cutRows]; omega)) ?_; conv => whnf)
      | (refine SliceG.fr ?_; conv => whnf)
      | fail)
    all_goals have hv : pcErr false b l[k] = (if !keyB l[k].key || !keyB l[k].kind then 5 else if leB l[k].key b then 7 else if l[k].long < 1 ∨ 200000 < l[k].long then 1 else 0) := by simp [pcErr]
    · have hv' : pcErr false b l[k] = 5 := by rw [hv]; clear hi hv hF hg; simp_all [leB]
      rw [hv', if_neg (by decide)] at hi; exact fini hi
    · have hv' : pcErr false b l[k] = 5 := by rw [hv]; clear hi hv hF hg; simp_all [leB]
      rw [hv', if_neg (by decide)] at hi; exact fini hi
    all_goals first
      | (have hv' : pcErr false b l[k] = 7 := by (rw [hv]; clear hi hv hF hg; simp_all [leB]; done)
         rw [hv', if_neg (by decide)] at hi; exact fini hi)
      | (have hv' : pcErr false b l[k] = 1 := by (rw [hv]; clear hi hv hF hg; simp_all [leB]; done)
         rw [hv', if_neg (by decide)] at hi; exact fini hi)
      | (have hv' : pcErr false b l[k] = 0 := by (rw [hv]; clear hi hv hF hg; simp_all [leB]; done)
         rw [if_pos hv'] at hi
         refine count_next (l[k].key) hk (by rw [wrap_succ hk (by omega)]; rfl) ?_
         exact hi)
      | skip
    all_goals trace_state
  · intro b hi
    rw [List.drop_of_length_le (Nat.le_refl _)] at hi
    conv => whnf
    repeat' (first
      | (refine Split.mk (fun h => ?_) (fun h => ?_) <;> (try simp only [decide_eq_true_eq, decide_eq_false_iff_not, Bool.not_eq_true', Bool.not_eq_false', beq_iff_eq, beq_eq_false_iff_ne] at h) <;> (first | (exfalso; first | omega | exact h trivial) | (conv => whnf)))
      | (refine CondG.mk (fun h => ?_) (fun h => ?_) <;> (try simp only [decide_eq_true_eq, decide_eq_false_iff_not, Bool.not_eq_true', Bool.not_eq_false', beq_iff_eq, beq_eq_false_iff_ne] at h) <;> (first | (exfalso; first | omega | exact h trivial) | (conv => whnf)))
      | (refine Ask.mk (by first | omega | (unfold roomOK; simp [cutRows]; done) | (unfold roomOK; simp [cutRows]; omega)) ?_; conv => whnf)
      | (refine SliceG.fr ?_; conv => whnf)
      | fail)
    exact fini (by rw [← hi]; rfl)
end Go.Proofs.Ytjkammhjpjaekaa
