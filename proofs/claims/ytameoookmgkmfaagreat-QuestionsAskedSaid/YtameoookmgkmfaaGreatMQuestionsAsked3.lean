/- Parts of the proof, in order. -/
import Derived.Test.YtameoookmgkmfaaGreatMQuestionsAsked2

/- Lists of strings are compared, and sorted. -/
namespace Go.Proofs.YtameoookmgkmfaaGreat
set_option linter.unusedVariables false
set_option linter.unusedSimpArgs false
open Abs

set_option maxRecDepth 100000 in
set_option maxHeartbeats 4000000 in
theorem cmpStr_pc (a b : ByteArray) : PCp 94 [.c (.str a), .c (.str b)] [] (.c (.int .i64 (cmpT a b))) [] := by
  have t1 : Op.bytesLess a.toList b.toList = true → cmpT a b = -1 := fun h => by
    have h : ltB a b = true := h
    unfold cmpT; rw [if_pos h]
  have t2 : a.toList = b.toList → cmpT a b = 0 := fun h => cmpT_zero.2 (toList_eq'.1 h)
  have t3 : Op.bytesLess a.toList b.toList = false → ¬ a.toList = b.toList → cmpT a b = 1 := fun h1 h2 => by
    have h1 : ltB a b = false := h1
    rcases ltB_tri a b with q | q | q
    · rw [h1] at q; cases q
    · exact (h2 (toList_eq'.2 q)).elim
    · unfold cmpT; rw [if_neg (by rw [h1]; decide), if_pos q]
  refine fn_sound (mt := mts) tab_fits tab_mixed Tryz.func94 (by rfl) (by kernel_rfl) (by kernel_rfl) Tryz.results94 (Nat.le_of_ble_eq_true (by kernel_rfl)) ?_
  conv => whnf
  repeat' (first
    | (refine Split.mk (fun h => ?_) (fun h => ?_) <;> (try simp only [decide_eq_true_eq, decide_eq_false_iff_not, Bool.not_eq_true', Bool.not_eq_false', beq_iff_eq, beq_eq_false_iff_ne, bne_iff_ne, bne_eq_false_iff_eq] at h) <;> (first | (exfalso; first | omega | exact h trivial | contradiction | (simp_all [eqRes]; done)) | (conv => whnf)))
    | (refine CondG.mk (fun h => ?_) (fun h => ?_) <;> (try simp only [decide_eq_true_eq, decide_eq_false_iff_not, Bool.not_eq_true', Bool.not_eq_false', beq_iff_eq, beq_eq_false_iff_ne, bne_iff_ne, bne_eq_false_iff_eq] at h) <;> (first | (exfalso; first | omega | exact h trivial | contradiction | (simp_all [eqRes]; done)) | (conv => whnf)))
    | (refine CallX.mk _ _ (by first | exact cisNaNS_pc _) ?_; conv => whnf)
    | (refine CallG.mk _ _ (by first | exact cisNaNS_pc _) ?_; conv => whnf)
    | (refine Ask.mk (by first | omega | (unfold roomOK; simp [cutRows]; done) | (unfold roomOK; simp [cutRows]; omega) | (simp [cutRows]; done) | (simp [cutRows]; omega)) ?_; conv => whnf)
    | (refine AppG.mk (by first | omega | (unfold roomOK; simp [cutRows]; done) | (unfold roomOK; simp [cutRows]; omega) | (simp [cutRows]; done) | (simp [cutRows]; omega)) ?_; conv => whnf)
    | (refine SliceG.fr ?_; conv => whnf)
    | (refine idx_at _ (by with_reducible rfl) (by first | assumption | omega) ?_; conv => whnf)
    | ((with_reducible refine row_map (by first | assumption | omega) ?_); conv => whnf)
    | ((with_reducible refine row_set (by first | assumption | omega | (simp only [List.length_set]; omega) | (simp; omega)) ?_); conv => whnf)
    | fail)
  all_goals first | contradiction | skip
  · exact fini (t1 h).symm
  · have h1 : Op.bytesLess a.toList b.toList = false := by assumption
    rw [h1] at h
    exact fini (t3 h1 (fun e => by rw [e] at h; simp at h)).symm
  · have h1 : Op.bytesLess a.toList b.toList = false := by assumption
    rw [h1] at h
    exact fini (t2 (by simpa using h)).symm
set_option maxRecDepth 100000 in
set_option maxHeartbeats 4000000 in
theorem compareSS_pc (a b : List ByteArray) (ha : a.length ≤ 1000000) (hb : b.length ≤ 1000000) : PCp 56 [.c (.lst 1 (a.map encS)), .c (.lst 1 (b.map encS))] [] (.c (.int .i64 (cmpSL a b))) [] := by
  have ham : (a.map encS).length = a.length := List.length_map ..
  have hbm : (b.map encS).length = b.length := List.length_map ..
  refine fn_sound (mt := mts) tab_fits tab_mixed Tryz.func56 (by rfl) (by kernel_rfl) (by kernel_rfl) Tryz.results56 (Nat.le_of_ble_eq_true (by kernel_rfl)) ?_
  conv => whnf
  refine loop_for (a.length) [] [0, 1, 9, 10, 11] (fun k (_ : Unit) => [(11, .c (.int .i64 (k : Int)))]) (fun k (_ : Unit) => []) (fun k (_ : Unit) => k ≤ b.length ∧ cmpSL (a.drop k) (b.drop k) = cmpSL a b) (()) ?_
  conv => whnf
  refine ⟨(by first | rfl | (simp; done) | (simp; rfl)), ?_, ?_, ?_⟩
  · exact ⟨by omega, rfl⟩
  · intro k _ hk ⟨h1, h2⟩
    rw [List.drop_eq_getElem_cons hk] at h2
    conv => whnf
    repeat' (first
      | (refine Split.mk (fun h => ?_) (fun h => ?_) <;> (try simp only [decide_eq_true_eq, decide_eq_false_iff_not, Bool.not_eq_true', Bool.not_eq_false', beq_iff_eq, beq_eq_false_iff_ne, bne_iff_ne, bne_eq_false_iff_eq] at h) <;> (first | (exfalso; first | omega | exact h trivial) | (conv => whnf)))
      | (refine CondG.mk (fun h => ?_) (fun h => ?_) <;> (try simp only [decide_eq_true_eq, decide_eq_false_iff_not, Bool.not_eq_true', Bool.not_eq_false', beq_iff_eq, beq_eq_false_iff_ne, bne_iff_ne, bne_eq_false_iff_eq] at h) <;> (first | (exfalso; first | omega | exact h trivial) | (conv => whnf)))
      | (refine CallX.mk _ _ (by first | exact cmpStr_pc _ _) ?_; conv => whnf)
      | (refine CallG.mk _ _ (by first | exact cmpStr_pc _ _) ?_; conv => whnf)
      | (refine Ask.mk (by first | omega | (unfold roomOK; simp [cutRows]; done) | (unfold roomOK; simp [cutRows]; omega) | (simp [cutRows]; done) | (simp [cutRows]; omega)) ?_; conv => whnf)
      | (refine AppG.mk (by first | omega | (unfold roomOK; simp [cutRows]; done) | (unfold roomOK; simp [cutRows]; omega) | (simp [cutRows]; done) | (simp [cutRows]; omega)) ?_; conv => whnf)
      | (refine SliceG.fr ?_; conv => whnf)
      | (refine idx_at _ (by with_reducible rfl) (by first | assumption | omega) ?_; conv => whnf)
      | ((with_reducible refine row_map (by first | assumption | omega) ?_); conv => whnf)
      | ((with_reducible refine row_set (by first | assumption | omega | (simp only [List.length_set]; omega) | (simp; omega)) ?_); conv => whnf)
      | fail)
    · have h3 : b.drop k = [] := List.drop_eq_nil_of_le (by omega)
      rw [h3] at h2
      exact fini h2
    · have hk2 : k < b.length := by omega
      rw [List.drop_eq_getElem_cons hk2, cmpSL, if_neg (by assumption)] at h2
      exact fini h2
    · have hk2 : k < b.length := by omega
      rw [List.drop_eq_getElem_cons hk2, cmpSL, if_pos (by omega)] at h2
      exact count_next () hk (by rw [wrap_succ hk (by omega)]; rfl) ⟨by omega, h2⟩
  · intro _ ⟨h1, h2⟩
    rw [List.drop_length] at h2
    conv => whnf
    repeat' (first
      | (refine Split.mk (fun h => ?_) (fun h => ?_) <;> (try simp only [decide_eq_true_eq, decide_eq_false_iff_not, Bool.not_eq_true', Bool.not_eq_false', beq_iff_eq, beq_eq_false_iff_ne, bne_iff_ne, bne_eq_false_iff_eq] at h) <;> (first | (exfalso; first | omega | exact h trivial) | (conv => whnf)))
      | (refine CondG.mk (fun h => ?_) (fun h => ?_) <;> (try simp only [decide_eq_true_eq, decide_eq_false_iff_not, Bool.not_eq_true', Bool.not_eq_false', beq_iff_eq, beq_eq_false_iff_ne, bne_iff_ne, bne_eq_false_iff_eq] at h) <;> (first | (exfalso; first | omega | exact h trivial) | (conv => whnf)))
      | (refine Ask.mk (by first | omega | (unfold roomOK; simp [cutRows]; done) | (unfold roomOK; simp [cutRows]; omega) | (simp [cutRows]; done) | (simp [cutRows]; omega)) ?_; conv => whnf)
      | (refine AppG.mk (by first | omega | (unfold roomOK; simp [cutRows]; done) | (unfold roomOK; simp [cutRows]; omega) | (simp [cutRows]; done) | (simp [cutRows]; omega)) ?_; conv => whnf)
      | (refine SliceG.fr ?_; conv => whnf)
      | (refine idx_at _ (by with_reducible rfl) (by first | assumption | omega) ?_; conv => whnf)
      | ((with_reducible refine row_map (by first | assumption | omega) ?_); conv => whnf)
      | ((with_reducible refine row_set (by first | assumption | omega | (simp only [List.length_set]; omega) | (simp; omega)) ?_); conv => whnf)
      | fail)
    · rw [List.drop_eq_getElem_cons (by omega : a.length < b.length)] at h2
      exact fini h2
    · have h3 : b.drop a.length = [] := List.drop_eq_nil_of_le (by omega)
      rw [h3] at h2
      exact fini h2
abbrev LB := { q : List ByteArray // q.length ≤ 1000000 }
def cmpLB (a b : LB) : Int := cmpSL a.1 b.1
theorem cmpLB_cmp : Cmp cmpLB := ⟨fun a b => cmpSL_anti a.1 b.1, fun a b d => cmpSL_trans a.1 b.1 d.1⟩
def toLB (l : List (List ByteArray)) : List LB := l.filterMap fun m => if h : m.length ≤ 1000000 then some ⟨m, h⟩ else none
theorem toLB_val : ∀ {l : List (List ByteArray)}, (∀ m ∈ l, m.length ≤ 1000000) → (toLB l).map (·.1) = l
  | [], _ => rfl
  | a :: r, h => by
    have ih := toLB_val (l := r) (fun m hm => h m (by simp [hm]))
    unfold toLB at ih ⊢
    rw [List.filterMap_cons, dif_pos (h a (by simp)), List.map_cons, ih]
/-- there is one order alone -/
theorem sl_one {a b : List (List ByteArray)} (hp : a.Perm b) (ha : a.Pairwise fun x y => ¬ cmpSL y x < 0) (hb : b.Pairwise fun x y => ¬ cmpSL y x < 0) : a = b := by
  refine sorted_one cmpSL_cmp.swo (fun x y h1 h2 => ?_) hp ha hb
  have := cmpSL_anti x y
  exact cmpSL_zero (by omega)
theorem sortSS_pc (l : List (List ByteArray)) (h : ∀ m ∈ l, m.length ≤ 1000000) (hl : l.length ≤ 1000000) :
    PCp 55 [.c (.row 0), .c (.fn 56 [])] [.row 28 1 (l.map encLs)] (.tup []) [.row 28 1 ((insSort cmpSL l).map encLs)] := by
  have hs := sort1_pcx layOneStrs layOneNStrs (encA := fun x : LB => V.lst 1 (x.1.map encS)) (c := cmpLB) cmpLB_cmp.swo (fun x y => compareSS_pc x.1 y.1 x.2 y.2) 28 (toLB l) (by rw [← List.length_map (f := fun x : LB => x.1), toLB_val h]; omega)
  have hm : ∀ q : List LB, q.map (fun x => [V.lst 1 (x.1.map encS)]) = (q.map (·.1)).map encLs := by intro q; rw [List.map_map]; rfl
  rw [hm, toLB_val h] at hs
  have ht : PCq 55 [.c (.row 0), .c (.fn 56 [])] [.row 28 1 (l.map encLs)] fun r os => r = .tup [] ∧ os = [.row 28 1 ((insSort cmpSL l).map encLs)] := by
    refine ⟨hs.fn, fun F φ w cs a b c => (hs.calls F φ w cs a b c).mono ?_⟩
    rintro e w' ⟨c, F', φ', r, os, ⟨l', hS, h1, h2⟩, rest⟩
    refine ⟨c, F', φ', r, os, ⟨h1, ?_⟩, rest⟩
    have hp : (l'.map (·.1)).Perm l := by
      have := hS.1.map (fun x : LB => x.1)
      rwa [toLB_val h] at this
    have hw : (l'.map (·.1)).Pairwise fun x y => ¬ cmpSL y x < 0 := List.pairwise_map.2 hS.2
    have : l'.map (·.1) = insSort cmpSL l := sl_one (hp.trans (insSort_perm cmpSL l).symm) hw (insSort_srt cmpSL_cmp.swo l)
    rw [h2, hm, this]
  exact ht
/-- the sets, sorted by the program and by the document -/
theorem sets_one {l : List ByteArray} (hr : Rise id l) (h14 : l.length ≤ 14) {ms : List Nat} {w : Nat} (hm : ∀ m ∈ ms, m < 2 ^ l.length ∧ popc m = w) : (sortM ms).map (pickM l) = insSort cmpSL (ms.map (pickM l)) := by
  have hp14 := pow14 h14
  have hlt : ∀ m ∈ ms, m < 16384 := fun m h => by have := (hm m h).1; omega
  refine sl_one (((sortM_perm hlt).map _).trans (insSort_perm cmpSL _).symm) ?_ (insSort_srt cmpSL_cmp.swo _)
  rw [List.pairwise_map]
  have h1 := insSort_srt cmpM_swo (toM ms)
  have hmem : ∀ x ∈ insSort cmpM (toM ms), x.1 ∈ ms := by
    intro x hx
    have h2 : x ∈ toM ms := (insSort_perm cmpM (toM ms)).mem_iff.1 hx
    have h3 : x.1 ∈ (toM ms).map (·.1) := List.mem_map.2 ⟨x, h2, rfl⟩
    rwa [toM_val hlt] at h3
  unfold sortM
  rw [List.pairwise_map]
  refine List.Pairwise.imp_of_mem ?_ h1
  intro x y hx hy hxy hc
  have hx' := hm _ (hmem x hx)
  have hy' := hm _ (hmem y hy)
  refine hxy (cmpM_neg.2 (.inr ⟨by omega, ?_⟩))
  by_cases e : y = x
  · subst e
    have := cmpSL_anti (pickM l y.1) (pickM l y.1)
    omega
  · rcases low_tri e with g | g
    · exact g
    · have := low_cmp hr h14 hx'.1 hy'.1 (by omega) g
      have := cmpSL_anti (pickM l y.1) (pickM l x.1)
      omega
end Go.Proofs.YtameoookmgkmfaaGreat

/- Lists joined; what is in no explanation, by the program. -/
namespace Go.Proofs.YtameoookmgkmfaaGreat
set_option linter.unusedVariables false
set_option linter.unusedSimpArgs false
open Abs

-- slices.Grow of nil, by the kit's contract laid at the seat (needs nx_made of XF2 or XGrow)
theorem flat_len {α : Type} {n : Nat} : ∀ {L : List (List α)}, (∀ q ∈ L, q.length ≤ n) → L.flatten.length ≤ n * L.length
  | [], _ => by simp
  | a :: r, h => by
    have ih := flat_len (n := n) (L := r) (fun q hq => h q (by simp [hq]))
    have := h a (by simp)
    simp only [List.flatten_cons, List.length_append, List.length_cons, Nat.mul_succ]; omega
end Go.Proofs.YtameoookmgkmfaaGreat

/- The document: explanations. -/
namespace Go.Proofs.YtameoookmgkmfaaGreat
set_option linter.unusedVariables false
set_option linter.unusedSimpArgs false
open Abs

set_option maxRecDepth 100000 in
set_option maxHeartbeats 4000000 in
theorem ixE_pc (ns ss rs : List (List V)) (g : Nat) (p : ByteArray → Bool) (l : List ByteArray) (hl : l.length ≤ 1000000) (hg : ∀ x ∈ l, PCp g [.c (.str (x)), .c (.ptr 0 0), .c (.ptr 1 0), .c (.ptr 2 0)] [.box [.lst 1 ns], .box [.lst 3 ss], .box [.row 3], .frow 1 rs] (.c (.bool (p x))) [.box [.lst 1 ns], .box [.lst 3 ss], .box [.row 3], .frow 1 rs]) : PCp 68 [.c (.lst 1 (l.map encS)), .c (.fn g [.ptr 0 0, .ptr 1 0, .ptr 2 0])] [.box [.lst 1 ns], .box [.lst 3 ss], .box [.row 3], .frow 1 rs] (.c (.int .i64 (idxP p l))) [.box [.lst 1 ns], .box [.lst 3 ss], .box [.row 3], .frow 1 rs] := by
  have hlm : (l.map encS).length = l.length := List.length_map ..
  refine fn_sound (mt := mts) tab_fits tab_mixed Tryz.func68 (by rfl) (by kernel_rfl) (by kernel_rfl) Tryz.results68 (Nat.le_of_ble_eq_true (by kernel_rfl)) ?_
  conv => whnf
  refine loop_count (l.length) [] [0, 1, 7, 8] (fun k (_ : Unit) => ⟨[(0, .c (.lst 1 (l.map encS))), (1, .c (.fn g [.ptr 0 0, .ptr 1 0, .ptr 2 0])), (7, .c (.int .i64 (l.map encS).length)), (8, .c (.int .i64 k))], [(0, .box [.lst 1 ns]), (1, .box [.lst 3 ss]), (2, .box [.row 3]), (3, .frow 1 rs)], 4⟩) (fun k (_ : Unit) => ∀ i (hi : i < l.length), i < k → p l[i] = false) (()) ?_ ?_ ?_
  · conv => whnf
    exact ⟨rfl, by intro i hi h; omega⟩
  · intro k _ hk hi
    conv => whnf
    repeat' (first
      | (refine Split.mk (fun h => ?_) (fun h => ?_) <;> (try simp only [decide_eq_true_eq, decide_eq_false_iff_not, Bool.not_eq_true', Bool.not_eq_false', beq_iff_eq, beq_eq_false_iff_ne, bne_iff_ne, bne_eq_false_iff_eq] at h) <;> (first | (exfalso; first | omega | exact h trivial) | (conv => whnf)))
      | (refine CondG.mk (fun h => ?_) (fun h => ?_) <;> (try simp only [decide_eq_true_eq, decide_eq_false_iff_not, Bool.not_eq_true', Bool.not_eq_false', beq_iff_eq, beq_eq_false_iff_ne, bne_iff_ne, bne_eq_false_iff_eq] at h) <;> (first | (exfalso; first | omega | exact h trivial) | (conv => whnf)))
      | (refine CallX.mk _ _ (by first | exact hg l[k] (List.getElem_mem hk)) ?_; conv => whnf)
      | (refine CallG.mk _ _ (by first | exact hg l[k] (List.getElem_mem hk)) ?_; conv => whnf)
      | (refine Ask.mk (by first | omega | (unfold roomOK; simp [cutRows]; done) | (unfold roomOK; simp [cutRows]; omega) | (simp [cutRows]; done) | (simp [cutRows]; omega)) ?_; conv => whnf)
      | (refine AppG.mk (by first | omega | (unfold roomOK; simp [cutRows]; done) | (unfold roomOK; simp [cutRows]; omega) | (simp [cutRows]; done) | (simp [cutRows]; omega)) ?_; conv => whnf)
      | (refine SliceG.fr ?_; conv => whnf)
      | (refine idx_at _ (by with_reducible rfl) (by first | assumption | omega) ?_; conv => whnf)
      | ((with_reducible refine row_map (by first | assumption | omega) ?_); conv => whnf)
      | ((with_reducible refine row_set (by first | assumption | omega | (simp only [List.length_set]; omega) | (simp; omega)) ?_); conv => whnf)
      | fail)
    · exact .mk ⟨by rw [idxP_hit hk (fun i hi' => hi i (by omega) hi') h]; rfl, rfl⟩
    · refine count_next () hk (by rw [wrap_succ hk (by omega)]; rfl) ?_
      exact all_succ' hi h
  · intro _ hi
    conv => whnf
    repeat' (first
      | (refine Split.mk (fun h => ?_) (fun h => ?_) <;> (try simp only [decide_eq_true_eq, decide_eq_false_iff_not, Bool.not_eq_true', Bool.not_eq_false', beq_iff_eq, beq_eq_false_iff_ne] at h) <;> (first | (exfalso; first | omega | exact h trivial) | (conv => whnf)))
      | (refine CondG.mk (fun h => ?_) (fun h => ?_) <;> (try simp only [decide_eq_true_eq, decide_eq_false_iff_not, Bool.not_eq_true', Bool.not_eq_false', beq_iff_eq, beq_eq_false_iff_ne] at h) <;> (first | (exfalso; first | omega | exact h trivial) | (conv => whnf)))
      | (refine Ask.mk (by first | omega | (unfold roomOK; simp [cutRows]; done) | (unfold roomOK; simp [cutRows]; omega)) ?_; conv => whnf)
      | (refine AppG.mk (by first | omega | (unfold roomOK; simp [cutRows]; done) | (unfold roomOK; simp [cutRows]; omega)) ?_; conv => whnf)
      | (refine SliceG.fr ?_; conv => whnf)
      | fail)
    exact .mk ⟨by rw [idxP_miss (fun i h => hi i h h)]; rfl, rfl⟩
set_option maxRecDepth 100000 in
set_option maxHeartbeats 4000000 in
theorem ixEC_pc (ns ss rs : List (List V)) (g : Nat) (p : ByteArray → Bool) (l : List ByteArray) (hl : l.length ≤ 1000000) (hg : ∀ x ∈ l, PCp g [.c (.str (x)), .c (.ptr 0 0), .c (.ptr 1 0), .c (.ptr 2 0)] [.box [.lst 1 ns], .box [.lst 3 ss], .box [.row 3], .frow 1 rs] (.c (.bool (p x))) [.box [.lst 1 ns], .box [.lst 3 ss], .box [.row 3], .frow 1 rs]) : PCp 44 [.c (.lst 1 (l.map encS)), .c (.fn g [.ptr 0 0, .ptr 1 0, .ptr 2 0])] [.box [.lst 1 ns], .box [.lst 3 ss], .box [.row 3], .frow 1 rs] (.c (.bool (l.any p))) [.box [.lst 1 ns], .box [.lst 3 ss], .box [.row 3], .frow 1 rs] := by
  refine fn_sound (mt := mts) tab_fits tab_mixed Tryz.func44 (by rfl) (by kernel_rfl) (by kernel_rfl) Tryz.results44 (Nat.le_of_ble_eq_true (by kernel_rfl)) ?_
  conv => whnf
  repeat' (first
    | (refine Split.mk (fun h => ?_) (fun h => ?_) <;> (try simp only [decide_eq_true_eq, decide_eq_false_iff_not, Bool.not_eq_true', Bool.not_eq_false', beq_iff_eq, beq_eq_false_iff_ne] at h) <;> (first | (exfalso; first | omega | exact h trivial) | (conv => whnf)))
    | (refine CondG.mk (fun h => ?_) (fun h => ?_) <;> (try simp only [decide_eq_true_eq, decide_eq_false_iff_not, Bool.not_eq_true', Bool.not_eq_false', beq_iff_eq, beq_eq_false_iff_ne] at h) <;> (first | (exfalso; first | omega | exact h trivial) | (conv => whnf)))
    | (refine CallX.mk _ _ (by first | exact ixE_pc ns ss rs g p l hl hg) ?_; conv => whnf)
    | (refine CallG.mk _ _ (by first | exact ixE_pc ns ss rs g p l hl hg) ?_; conv => whnf)
    | (refine Ask.mk (by first | omega | (unfold roomOK; simp [cutRows]; done) | (unfold roomOK; simp [cutRows]; omega)) ?_; conv => whnf)
    | (refine AppG.mk (by first | omega | (unfold roomOK; simp [cutRows]; done) | (unfold roomOK; simp [cutRows]; omega)) ?_; conv => whnf)
    | (refine SliceG.fr ?_; conv => whnf)
    | fail)
  exact .mk ⟨by rw [← idxP_any]; rfl, rfl⟩
set_option maxRecDepth 100000 in
set_option maxHeartbeats 4000000 in
theorem rExp1_pc (s : List Sv) (hs : SvOk s) (nots set : List ByteArray) (hn : nots.length ≤ 1000000) (hl : set.length ≤ 1000000) (k : ByteArray) (hk : hasSv s k = true) :
    PCp 54 [.c (.str k), .c (.ptr 0 0), .c (.ptr 1 0), .c (.ptr 2 0)] [.box [.lst 1 (nots.map encS)], .box [.lst 3 (s.map encSv)], .box [.row 3], .frow 1 (set.map encS)] (.c (.bool (!decide (k ∈ nots) && !needB s set k))) [.box [.lst 1 (nots.map encS)], .box [.lst 3 (s.map encSv)], .box [.row 3], .frow 1 (set.map encS)] := by
  refine fn_sound (mt := mts) tab_fits tab_mixed Tryz.func54 (by rfl) (by kernel_rfl) (by kernel_rfl) Tryz.results54 (Nat.le_of_ble_eq_true (by kernel_rfl)) ?_
  conv => whnf
  repeat' (first
    | (refine Split.mk (fun h => ?_) (fun h => ?_) <;> (try simp only [decide_eq_true_eq, decide_eq_false_iff_not, Bool.not_eq_true', Bool.not_eq_false', beq_iff_eq, beq_eq_false_iff_ne, bne_iff_ne, bne_eq_false_iff_eq] at h) <;> (first | (exfalso; first | omega | exact h trivial) | (conv => whnf)))
    | (refine CondG.mk (fun h => ?_) (fun h => ?_) <;> (try simp only [decide_eq_true_eq, decide_eq_false_iff_not, Bool.not_eq_true', Bool.not_eq_false', beq_iff_eq, beq_eq_false_iff_ne, bne_iff_ne, bne_eq_false_iff_eq] at h) <;> (first | (exfalso; first | omega | exact h trivial) | (conv => whnf)))
    | (refine CallX.mk _ _ (by first | exact containsS_pc k nots hn | exact rNeeds_pc s hs k hk set hl) ?_; conv => whnf)
    | (refine CallG.mk _ _ (by first | exact containsS_pc k nots hn | exact rNeeds_pc s hs k hk set hl) ?_; conv => whnf)
    | (refine Ask.mk (by first | omega | (unfold roomOK; simp [cutRows]; done) | (unfold roomOK; simp [cutRows]; omega) | (simp [cutRows]; done) | (simp [cutRows]; omega)) ?_; conv => whnf)
    | (refine AppG.mk (by first | omega | (unfold roomOK; simp [cutRows]; done) | (unfold roomOK; simp [cutRows]; omega) | (simp [cutRows]; done) | (simp [cutRows]; omega)) ?_; conv => whnf)
    | (refine SliceG.fr ?_; conv => whnf)
    | (refine idx_at _ (by with_reducible rfl) (by first | assumption | omega) ?_; conv => whnf)
    | ((with_reducible refine row_map (by first | assumption | omega) ?_); conv => whnf)
    | ((with_reducible refine row_set (by first | assumption | omega | (simp only [List.length_set]; omega) | (simp; omega)) ?_); conv => whnf)
    | fail)
  all_goals exact .mk ⟨by simp [oneOf, h], rfl⟩
theorem rExpC_pc (s : List Sv) (hs : SvOk s) (nots set down : List ByteArray) (hn : nots.length ≤ 1000000) (hl : set.length ≤ 1000000) (hd : StOkL s down) :
    PCp 44 [.c (.lst 1 (down.map encS)), .c (.fn 54 [.ptr 0 0, .ptr 1 0, .ptr 2 0])] [.box [.lst 1 (nots.map encS)], .box [.lst 3 (s.map encSv)], .box [.row 3], .row 9 1 (set.map encS)] (.c (.bool (down.any fun k => !decide (k ∈ nots) && !needB s set k))) [.box [.lst 1 (nots.map encS)], .box [.lst 3 (s.map encSv)], .box [.row 3], .frow 1 (set.map encS)] := by
  have hdl := hd.len
  have h := ixEC_pc (nots.map encS) (s.map encSv) (set.map encS) 54 (fun k => !decide (k ∈ nots) && !needB s set k) down (by omega) (fun k hk => rExp1_pc s hs nots set hn hl k (hd.has k hk))
  refine PCx.frz 3 rfl h ?_
  rintro _ _ ⟨rfl, rfl⟩
  exact Nat.le_refl _
def expM (s : List Sv) (down up : List ByteArray) : List Nat := (bestD (gD s (susD s down up) (unexD s down up) down) (susD s down up).length (2 ^ (susD s down up).length)).1
def expDE (s : List Sv) (down up : List ByteArray) : Int := if 14 < (susD s down up).length then 12 else if 1000 < (expM s down up).length then 2 else 0
def expD (s : List Sv) (down up : List ByteArray) : List (List ByteArray) := if expDE s down up = 0 then insSort cmpSL ((expM s down up).map (pickM (susD s down up))) else []
set_option maxRecDepth 100000 in
set_option maxHeartbeats 4000000 in
theorem rExpls_pc (s : List Sv) (hs : SvOk s) (down up : List ByteArray) (hd : StOkL s down) (hu : StOkL s up) :
    PCp 17 [.c (.lst 3 (s.map encSv)), .c (.lst 1 (down.map encS)), .c (.lst 1 (up.map encS))] [] (.tup [.c (.lst 1 ((expD s down up).map encLs)), .c (.int .i64 (expDE s down up))]) [] := by
  have hx : ∀ x ∈ s, x.els.length ≤ 1000 := fun x hx => Nat.le_trans (hs.each x hx).len (by decide)
  have hdl := hd.len
  have hul := hu.len
  have hsus := rSus_pc s hs.len hx down up (by omega) (by omega)
  have hun := rUnex_pc s hs down up hd hu
  have hE : expDE s down up = if 14 < (susD s down up).length then 12 else if 1000 < (expM s down up).length then 2 else 0 := rfl
  have hV : expD s down up = if expDE s down up = 0 then insSort cmpSL ((expM s down up).map (pickM (susD s down up))) else [] := rfl
  have hM : expM s down up = (bestD (gD s (susD s down up) (unexD s down up) down) (susD s down up).length (2 ^ (susD s down up).length)).1 := rfl
  have hnl : (unexD s down up).length ≤ 1000000 := by have : (unexD s down up).length ≤ down.length := List.length_filter_le ..; omega
  have hsl0 : (susD s down up).length ≤ 1000000 := Nat.le_trans (List.length_filter_le ..) (elsV_len hs.len hx _)
  generalize expDE s down up = E at *
  generalize expD s down up = W at *
  generalize expM s down up = M at *
  generalize unexD s down up = nots at *
  generalize susD s down up = l at *
  have hlm : (l.map encS).length = l.length := List.length_map ..
  refine fn_sound (mt := mts) tab_fits tab_mixed Tryz.func17 (by rfl) (by kernel_rfl) (by kernel_rfl) Tryz.results17 (Nat.le_of_ble_eq_true (by kernel_rfl)) ?_
  conv => whnf
  repeat' (first
    | (refine Split.mk (fun h => ?_) (fun h => ?_) <;> (try simp only [decide_eq_true_eq, decide_eq_false_iff_not, Bool.not_eq_true', Bool.not_eq_false', beq_iff_eq, beq_eq_false_iff_ne, bne_iff_ne, bne_eq_false_iff_eq] at h) <;> (first | (exfalso; first | omega | exact h trivial) | (conv => whnf)))
    | (refine CondG.mk (fun h => ?_) (fun h => ?_) <;> (try simp only [decide_eq_true_eq, decide_eq_false_iff_not, Bool.not_eq_true', Bool.not_eq_false', beq_iff_eq, beq_eq_false_iff_ne, bne_iff_ne, bne_eq_false_iff_eq] at h) <;> (first | (exfalso; first | omega | exact h trivial) | (conv => whnf)))
    | (refine CallX.mk _ _ (by first | exact hsus) ?_; conv => whnf)
    | (refine CallG.mk _ _ (by first | exact hsus) ?_; conv => whnf)
    | (refine Ask.mk (by first | omega | (unfold roomOK; simp [cutRows]; done) | (unfold roomOK; simp [cutRows]; omega) | (simp [cutRows]; done) | (simp [cutRows]; omega)) ?_; conv => whnf)
    | (refine AppG.mk (by first | omega | (unfold roomOK; simp [cutRows]; done) | (unfold roomOK; simp [cutRows]; omega) | (simp [cutRows]; done) | (simp [cutRows]; omega)) ?_; conv => whnf)
    | (refine SliceG.fr ?_; conv => whnf)
    | (refine idx_at _ (by with_reducible rfl) (by first | assumption | omega) ?_; conv => whnf)
    | ((with_reducible refine row_map (by first | assumption | omega) ?_); conv => whnf)
    | ((with_reducible refine row_set (by first | assumption | omega | (simp only [List.length_set]; omega) | (simp; omega)) ?_); conv => whnf)
    | fail)
  · have h14 : 14 < l.length := by omega
    rw [if_pos h14] at hE
    rw [hE, if_neg (by decide)] at hV
    rw [hE, hV]
    refine .weak [] (.tup _ _ rfl ?_) rfl (Nat.le_refl _)
    intro i a b ha hb
    match i with
    | 0 => cases ha; cases hb; exact .nil 1
    | 1 => cases ha; cases hb; exact .refl _
  have h14 : l.length ≤ 14 := by omega
  have hp := pow14 h14
  repeat' (first
    | (refine Split.mk (fun h => ?_) (fun h => ?_) <;> (try simp only [decide_eq_true_eq, decide_eq_false_iff_not, Bool.not_eq_true', Bool.not_eq_false', beq_iff_eq, beq_eq_false_iff_ne, bne_iff_ne, bne_eq_false_iff_eq] at h) <;> (first | (exfalso; first | omega | exact h trivial) | (conv => whnf)))
    | (refine CondG.mk (fun h => ?_) (fun h => ?_) <;> (try simp only [decide_eq_true_eq, decide_eq_false_iff_not, Bool.not_eq_true', Bool.not_eq_false', beq_iff_eq, beq_eq_false_iff_ne, bne_iff_ne, bne_eq_false_iff_eq] at h) <;> (first | (exfalso; first | omega | exact h trivial) | (conv => whnf)))
    | (refine CallX.mk _ _ (by first | exact hun) ?_; conv => whnf)
    | (refine CallG.mk _ _ (by first | exact hun) ?_; conv => whnf)
    | (refine Ask.mk (by first | omega | (unfold roomOK; simp [cutRows]; done) | (unfold roomOK; simp [cutRows]; omega) | (simp [cutRows]; done) | (simp [cutRows]; omega)) ?_; conv => whnf)
    | (refine AppG.mk (by first | omega | (unfold roomOK; simp [cutRows]; done) | (unfold roomOK; simp [cutRows]; omega) | (simp [cutRows]; done) | (simp [cutRows]; omega)) ?_; conv => whnf)
    | (refine SliceG.fr ?_; conv => whnf)
    | (refine idx_at _ (by with_reducible rfl) (by first | assumption | omega) ?_; conv => whnf)
    | ((with_reducible refine row_map (by first | assumption | omega) ?_); conv => whnf)
    | ((with_reducible refine row_set (by first | assumption | omega | (simp only [List.length_set]; omega) | (simp; omega)) ?_); conv => whnf)
    | fail)
  rw [hlm, shl1 h14]
  refine loop_count (2 ^ l.length) [.sl 10 28 1] [1, 3, 8, 9, 10, 11, 33, 34] (fun k (_ : Unit) => ⟨[(1, .c (.lst 1 (down.map encS))), (3, .c (.ptr 0 0)), (8, .c (.lst 1 (l.map encS))), (9, .c (.ptr 1 0)), (10, .c (.row 2)), (11, .c (.int .i64 (((bestD (gD s l nots down) l.length k).2 : Nat) : Int))), (33, .c (.int .u64 ((2 ^ l.length : Nat) : Int))), (34, .c (.int .u64 ((k : Nat) : Int)))], [(0, .box [.lst 3 (s.map encSv)]), (1, .box [.lst 1 (nots.map encS)]), (2, .row 28 1 (((bestD (gD s l nots down) l.length k).1.map (pickM l)).map encLs))], 3⟩) (fun k (_ : Unit) => True) (()) ?_ ?_ ?_
  · have hw : IntKind.i64.wrap ((l.length : Int) + 1) = ((l.length + 1 : Nat) : Int) := by rw [wrap_in (by omega) (by omega)]; rfl
    conv => whnf
    rw [hw]
    exact ⟨rfl, trivial⟩
  · intro k _ hk _
    have hw : IntKind.u64.wrap ((k : Int) + 1) = ((k + 1 : Nat) : Int) := u64N (n := k + 1) (by omega)
    obtain ⟨b1, b2, b3, b4⟩ := bestD_inv (gD s l nots down) l.length k
    have hB : bestD (gD s l nots down) l.length (k + 1) = if (bestD (gD s l nots down) l.length k).2 < popc k then bestD (gD s l nots down) l.length k else if !gD s l nots down k then bestD (gD s l nots down) l.length k else if popc k < (bestD (gD s l nots down) l.length k).2 then ([k], popc k) else ((bestD (gD s l nots down) l.length k).1 ++ [k], (bestD (gD s l nots down) l.length k).2) := rfl
    have hG : gD s l nots down k = !(down.any fun d => !decide (d ∈ nots) && !needB s (pickM l k) d) := rfl
    generalize gD s l nots down k = g at hB hG
    generalize bestD (gD s l nots down) l.length k = B at *
    obtain ⟨ms, le⟩ := B
    simp only at b1 b2 b3 b4
    have hmm : ((ms.map (pickM l)).map encLs).length = ms.length := by simp
    conv => whnf
    repeat' (first
      | (refine Split.mk (fun h => ?_) (fun h => ?_) <;> (try simp only [decide_eq_true_eq, decide_eq_false_iff_not, Bool.not_eq_true', Bool.not_eq_false', beq_iff_eq, beq_eq_false_iff_ne, bne_iff_ne, bne_eq_false_iff_eq] at h) <;> (first | (exfalso; first | omega | exact h trivial) | (conv => whnf)))
      | (refine CondG.mk (fun h => ?_) (fun h => ?_) <;> (try simp only [decide_eq_true_eq, decide_eq_false_iff_not, Bool.not_eq_true', Bool.not_eq_false', beq_iff_eq, beq_eq_false_iff_ne, bne_iff_ne, bne_eq_false_iff_eq] at h) <;> (first | (exfalso; first | omega | exact h trivial) | (conv => whnf)))
      | (refine CallX.mk _ _ (by first | exact ones_pc k (by omega)) ?_; conv => whnf)
      | (refine CallG.mk _ _ (by first | exact ones_pc k (by omega)) ?_; conv => whnf)
      | (refine Ask.mk (by first | omega | (unfold roomOK; simp [cutRows]; done) | (unfold roomOK; simp [cutRows]; omega) | (simp [cutRows]; done) | (simp [cutRows]; omega)) ?_; conv => whnf)
      | (refine AppG.mk (by first | omega | (unfold roomOK; simp [cutRows]; done) | (unfold roomOK; simp [cutRows]; omega) | (simp [cutRows]; done) | (simp [cutRows]; omega)) ?_; conv => whnf)
      | (refine SliceG.fr ?_; conv => whnf)
      | (refine idx_at _ (by with_reducible rfl) (by first | assumption | omega) ?_; conv => whnf)
      | ((with_reducible refine row_map (by first | assumption | omega) ?_); conv => whnf)
      | ((with_reducible refine row_set (by first | assumption | omega | (simp only [List.length_set]; omega) | (simp; omega)) ?_); conv => whnf)
      | fail)
    · rw [if_pos (by simp only; omega)] at hB
      exact count_next () hk (by rw [hw, hB]; rfl) trivial
    rw [if_neg (by simp only; omega)] at hB
    refine loop_for (l.length) [] [1, 3, 8, 9, 10, 11, 12, 13, 14, 33, 34, 43, 44, 45] (fun j (_ : Unit) => [(45, .c (.int .i64 (j : Int)))]) (fun j (_ : Unit) => [(4, .row 9 1 ((setL l k j).map encS))]) (fun j (_ : Unit) => True) (()) ?_
    conv => whnf
    refine ⟨(by first | rfl | (simp; done) | (simp; rfl)), (by trivial), ?_, ?_⟩
    · intro j _ hj _
      have hs1 := setL_len l k j
      have hsm1 : ((setL l k j).map encS).length = (setL l k j).length := List.length_map ..
      have hgd : l.getD j ⟨#[]⟩ = l[j] := by simp [List.getD_eq_getElem?_getD, List.getElem?_eq_getElem hj]
      have e1 : setL l k (j + 1) = if k.testBit j = true then setL l k j ++ [l[j]] else setL l k j := by rw [setL, hgd]
      conv => whnf
      repeat' (first
        | (refine Split.mk (fun h => ?_) (fun h => ?_) <;> (try simp only [decide_eq_true_eq, decide_eq_false_iff_not, Bool.not_eq_true', Bool.not_eq_false', beq_iff_eq, beq_eq_false_iff_ne, bne_iff_ne, bne_eq_false_iff_eq] at h) <;> (first | (exfalso; first | omega | exact h trivial) | (conv => whnf)))
        | (refine CondG.mk (fun h => ?_) (fun h => ?_) <;> (try simp only [decide_eq_true_eq, decide_eq_false_iff_not, Bool.not_eq_true', Bool.not_eq_false', beq_iff_eq, beq_eq_false_iff_ne, bne_iff_ne, bne_eq_false_iff_eq] at h) <;> (first | (exfalso; first | omega | exact h trivial) | (conv => whnf)))
        | (refine Ask.mk (by first | omega | (unfold roomOK; simp [cutRows]; done) | (unfold roomOK; simp [cutRows]; omega) | (simp [cutRows]; done) | (simp [cutRows]; omega)) ?_; conv => whnf)
        | (refine AppG.mk (by first | omega | (unfold roomOK; simp [cutRows]; done) | (unfold roomOK; simp [cutRows]; omega) | (simp [cutRows]; done) | (simp [cutRows]; omega)) ?_; conv => whnf)
        | (refine SliceG.fr ?_; conv => whnf)
        | (refine idx_at _ (by with_reducible rfl) (by first | assumption | omega) ?_; conv => whnf)
        | ((with_reducible refine row_map (by first | assumption | omega) ?_); conv => whnf)
        | ((with_reducible refine row_set (by first | assumption | omega | (simp only [List.length_set]; omega) | (simp; omega)) ?_); conv => whnf)
        | fail)
      · have q := (shbit (by omega : k < 16384) (by omega : j ≤ 14)).1 (by assumption)
        exact count_next () hj (by rw [wrap_succ hj (by omega), e1, if_pos q, List.map_append]; rfl) trivial
      · have q : ¬ k.testBit j = true := fun q => absurd ((shbit (by omega : k < 16384) (by omega : j ≤ 14)).2 q) (by assumption)
        exact count_next () hj (by rw [wrap_succ hj (by omega), e1, if_neg q]; rfl) trivial
    · intro _ _
      have hpick : setL l k l.length = pickM l k := rfl
      rw [hpick]
      have hpl := pickM_len l k
      conv => whnf
      repeat' (first
        | (refine Split.mk (fun h => ?_) (fun h => ?_) <;> (try simp only [decide_eq_true_eq, decide_eq_false_iff_not, Bool.not_eq_true', Bool.not_eq_false', beq_iff_eq, beq_eq_false_iff_ne, bne_iff_ne, bne_eq_false_iff_eq] at h) <;> (first | (exfalso; first | omega | exact h trivial) | (conv => whnf)))
        | (refine CondG.mk (fun h => ?_) (fun h => ?_) <;> (try simp only [decide_eq_true_eq, decide_eq_false_iff_not, Bool.not_eq_true', Bool.not_eq_false', beq_iff_eq, beq_eq_false_iff_ne, bne_iff_ne, bne_eq_false_iff_eq] at h) <;> (first | (exfalso; first | omega | exact h trivial) | (conv => whnf)))
        | (refine CallX.mk _ _ (by first | exact rExpC_pc s hs nots (pickM l k) down hnl (by omega) hd) ?_; conv => whnf)
        | (refine CallG.mk _ _ (by first | exact rExpC_pc s hs nots (pickM l k) down hnl (by omega) hd) ?_; conv => whnf)
        | (refine Ask.mk (by first | omega | (unfold roomOK; simp [cutRows]; done) | (unfold roomOK; simp [cutRows]; omega) | (simp [cutRows]; done) | (simp [cutRows]; omega)) ?_; conv => whnf)
        | (refine AppG.mk (by first | omega | (unfold roomOK; simp [cutRows]; done) | (unfold roomOK; simp [cutRows]; omega) | (simp [cutRows]; done) | (simp [cutRows]; omega)) ?_; conv => whnf)
        | (refine SliceG.fr ?_; conv => whnf)
        | (refine idx_at _ (by with_reducible rfl) (by first | assumption | omega) ?_; conv => whnf)
        | ((with_reducible refine row_map (by first | assumption | omega) ?_); conv => whnf)
        | ((with_reducible refine row_set (by first | assumption | omega | (simp only [List.length_set]; omega) | (simp; omega)) ?_); conv => whnf)
        | fail)
      · have ha : (down.any fun d => !decide (d ∈ nots) && !needB s (pickM l k) d) = true := by assumption
        rw [ha] at hG
        rw [hG, if_pos (by rfl)] at hB
        exact count_next () hk (by rw [hw, hB]; rfl) trivial
      all_goals
        have ha : (down.any fun d => !decide (d ∈ nots) && !needB s (pickM l k) d) = false := by assumption
        rw [ha] at hG
        rw [hG, if_neg (by decide)] at hB
      · rw [if_pos (by simp only; omega)] at hB
        exact count_next () hk (by rw [hw, hB]; rfl) trivial
      · rw [if_neg (by simp only; omega)] at hB
        exact count_next () hk (by rw [hw, hB]; simp only [List.map_append]; rfl) trivial
  · intro _ _
    obtain ⟨b1, b2, b3, b4⟩ := bestD_inv (gD s l nots down) l.length (2 ^ l.length)
    rw [← hM] at b1 b2 b3 ⊢
    have hmm : ((M.map (pickM l)).map encLs).length = M.length := by simp
    have hM2 : (M.map (pickM l)).length = M.length := List.length_map ..
    have hiS := insSort_len cmpSL (M.map (pickM l))
    rw [if_neg (by omega)] at hE
    conv => whnf
    repeat' (first
      | (refine Split.mk (fun h => ?_) (fun h => ?_) <;> (try simp only [decide_eq_true_eq, decide_eq_false_iff_not, Bool.not_eq_true', Bool.not_eq_false', beq_iff_eq, beq_eq_false_iff_ne, bne_iff_ne, bne_eq_false_iff_eq] at h) <;> (first | (exfalso; first | omega | exact h trivial) | (conv => whnf)))
      | (refine CondG.mk (fun h => ?_) (fun h => ?_) <;> (try simp only [decide_eq_true_eq, decide_eq_false_iff_not, Bool.not_eq_true', Bool.not_eq_false', beq_iff_eq, beq_eq_false_iff_ne, bne_iff_ne, bne_eq_false_iff_eq] at h) <;> (first | (exfalso; first | omega | exact h trivial) | (conv => whnf)))
      | (refine CallX.mk _ _ (by first | exact sortSS_pc (M.map (pickM l)) (fun m hm => by obtain ⟨a, _, rfl⟩ := List.mem_map.1 hm; exact Nat.le_trans (pickM_len l a) (by omega)) (by omega)) ?_; conv => whnf)
      | (refine CallG.mk _ _ (by first | exact sortSS_pc (M.map (pickM l)) (fun m hm => by obtain ⟨a, _, rfl⟩ := List.mem_map.1 hm; exact Nat.le_trans (pickM_len l a) (by omega)) (by omega)) ?_; conv => whnf)
      | (refine Ask.mk (by first | omega | (unfold roomOK; simp [cutRows]; done) | (unfold roomOK; simp [cutRows]; omega) | (simp [cutRows]; done) | (simp [cutRows]; omega)) ?_; conv => whnf)
      | (refine AppG.mk (by first | omega | (unfold roomOK; simp [cutRows]; done) | (unfold roomOK; simp [cutRows]; omega) | (simp [cutRows]; done) | (simp [cutRows]; omega)) ?_; conv => whnf)
      | (refine SliceG.fr ?_; conv => whnf)
      | (refine idx_at _ (by with_reducible rfl) (by first | assumption | omega) ?_; conv => whnf)
      | ((with_reducible refine row_map (by first | assumption | omega) ?_); conv => whnf)
      | ((with_reducible refine row_set (by first | assumption | omega | (simp only [List.length_set]; omega) | (simp; omega)) ?_); conv => whnf)
      | fail)
    · have h5 : 1000 < M.length := by omega
      rw [if_pos h5] at hE
      rw [hE, if_neg (by decide)] at hV
      rw [hE, hV]
      refine .weak [] (.tup _ _ rfl ?_) rfl (Nat.le_refl _)
      intro i a b ha hb
      match i with
      | 0 => cases ha; cases hb; exact .nil 1
      | 1 => cases ha; cases hb; exact .refl _
    · have h5 : ¬ 1000 < M.length := by omega
      rw [if_neg h5] at hE
      rw [hE, if_pos rfl] at hV
      rw [hE, hV]
      refine .frz 0 _ _ _ rfl (.weak [_] (.tup _ _ rfl ?_) rfl (Nat.le_refl _))
      intro i a b ha hb
      match i with
      | 0 => cases ha; cases hb; exact .fro 0 _ _ rfl
      | 1 => cases ha; cases hb; exact .refl _
end Go.Proofs.YtameoookmgkmfaaGreat

/- The document: what is sure, what is cleared. -/
namespace Go.Proofs.YtameoookmgkmfaaGreat
set_option linter.unusedVariables false
set_option linter.unusedSimpArgs false
open Abs

end Go.Proofs.YtameoookmgkmfaaGreat

/- The law of repairs. -/
namespace Go.Proofs.YtameoookmgkmfaaGreat
set_option linter.unusedVariables false
set_option linter.unusedSimpArgs false
open Abs

set_option maxRecDepth 100000 in
set_option maxHeartbeats 4000000 in
theorem blamed_pc : PCp 22 [] [] (.c (.bool true)) [] := by
  have h1 : seenErr [⟨⟨#[115]⟩, [⟨#[97]⟩], 1⟩] [⟨#[115]⟩] [] = 0 := by decide +kernel
  have h2 : susV [⟨⟨#[115]⟩, [⟨#[97]⟩], 1⟩] [⟨#[115]⟩] [] = [⟨#[97]⟩] := by decide +kernel
  have hF := suspectsP_pc [⟨⟨#[115]⟩, [⟨#[97]⟩], 1⟩] (by simp) [⟨#[115]⟩] []
  rw [if_pos h1, h2, h1] at hF
  have hG := hF.wk (gs := [.c (.lst 3 ([⟨⟨#[115]⟩, [⟨#[97]⟩], 1⟩].map encSv)), .c (.lst 1 ([⟨#[115]⟩].map encS)), .c .nils]) (P2.cons (.refl _) (P2.cons (.refl _) (P2.cons (.c (.nils 1)) P2.nil)))
  refine fn_sound (mt := mts) tab_fits tab_mixed Tryz.func22 (by rfl) (by kernel_rfl) (by kernel_rfl) Tryz.results22 (Nat.le_of_ble_eq_true (by kernel_rfl)) ?_
  conv => whnf
  repeat' (first
    | (refine Split.mk (fun h => ?_) (fun h => ?_) <;> (try simp only [decide_eq_true_eq, decide_eq_false_iff_not, Bool.not_eq_true', Bool.not_eq_false', beq_iff_eq, beq_eq_false_iff_ne, bne_iff_ne, bne_eq_false_iff_eq] at h) <;> (first | (exfalso; first | omega | exact h trivial | contradiction | (simp_all [eqRes]; done)) | (conv => whnf)))
    | (refine CondG.mk (fun h => ?_) (fun h => ?_) <;> (try simp only [decide_eq_true_eq, decide_eq_false_iff_not, Bool.not_eq_true', Bool.not_eq_false', beq_iff_eq, beq_eq_false_iff_ne, bne_iff_ne, bne_eq_false_iff_eq] at h) <;> (first | (exfalso; first | omega | exact h trivial | contradiction | (simp_all [eqRes]; done)) | (conv => whnf)))
    | (refine CallX.mk _ _ (by first | exact hG) ?_; conv => whnf)
    | (refine CallG.mk _ _ (by first | exact hG) ?_; conv => whnf)
    | (refine Ask.mk (by first | omega | (unfold roomOK; simp [cutRows]; done) | (unfold roomOK; simp [cutRows]; omega) | (simp [cutRows]; done) | (simp [cutRows]; omega)) ?_; conv => whnf)
    | (refine AppG.mk (by first | omega | (unfold roomOK; simp [cutRows]; done) | (unfold roomOK; simp [cutRows]; omega) | (simp [cutRows]; done) | (simp [cutRows]; omega)) ?_; conv => whnf)
    | (refine SliceG.fr ?_; conv => whnf)
    | (refine idx_at _ (by with_reducible rfl) (by first | assumption | omega) ?_; conv => whnf)
    | ((with_reducible refine row_map (by first | assumption | omega) ?_); conv => whnf)
    | ((with_reducible refine row_set (by first | assumption | omega | (simp only [List.length_set]; omega) | (simp; omega)) ?_); conv => whnf)
    | fail)
  refine idx_map (enc := encS) (l := [⟨#[97]⟩]) 0 (by simp) rfl ?_
  conv => whnf
  repeat' (first
    | (refine Split.mk (fun h => ?_) (fun h => ?_) <;> (try simp only [decide_eq_true_eq, decide_eq_false_iff_not, Bool.not_eq_true', Bool.not_eq_false', beq_iff_eq, beq_eq_false_iff_ne, bne_iff_ne, bne_eq_false_iff_eq] at h) <;> (first | (exfalso; first | omega | exact h trivial | contradiction | (simp_all [eqRes]; done)) | (conv => whnf)))
    | (refine CondG.mk (fun h => ?_) (fun h => ?_) <;> (try simp only [decide_eq_true_eq, decide_eq_false_iff_not, Bool.not_eq_true', Bool.not_eq_false', beq_iff_eq, beq_eq_false_iff_ne, bne_iff_ne, bne_eq_false_iff_eq] at h) <;> (first | (exfalso; first | omega | exact h trivial | contradiction | (simp_all [eqRes]; done)) | (conv => whnf)))
    | (refine Ask.mk (by first | omega | (unfold roomOK; simp [cutRows]; done) | (unfold roomOK; simp [cutRows]; omega) | (simp [cutRows]; done) | (simp [cutRows]; omega)) ?_; conv => whnf)
    | (refine AppG.mk (by first | omega | (unfold roomOK; simp [cutRows]; done) | (unfold roomOK; simp [cutRows]; omega) | (simp [cutRows]; done) | (simp [cutRows]; omega)) ?_; conv => whnf)
    | (refine SliceG.fr ?_; conv => whnf)
    | (refine idx_at _ (by with_reducible rfl) (by first | assumption | omega) ?_; conv => whnf)
    | ((with_reducible refine row_map (by first | assumption | omega) ?_); conv => whnf)
    | ((with_reducible refine row_set (by first | assumption | omega | (simp only [List.length_set]; omega) | (simp; omega)) ?_); conv => whnf)
    | fail)
  all_goals exact finb (by decide +kernel)
end Go.Proofs.YtameoookmgkmfaaGreat

/- Plain: what the document says is what the program says. -/
namespace Go.Proofs.YtameoookmgkmfaaGreat
set_option linter.unusedVariables false
set_option linter.unusedSimpArgs false
open Abs

section
variable {s : List Sv} {down up : List ByteArray}
theorem expM_eq (hs : SvOk s) (hd : StOkL s down) (hu : StOkL s up) (h14 : (susV s down up).length ≤ 14) : expM s down up = bestL s (susV s down up) down ∧ ∃ w, ∀ m ∈ expM s down up, m < 2 ^ (susV s down up).length ∧ popc m = w := by
  have hw : ∃ w, ∀ m ∈ expM s down up, m < 2 ^ (susV s down up).length ∧ popc m = w := by
    unfold expM
    rw [susD_eq hs hd hu]
    exact ⟨_, fun m hm => (bestD_inv _ _ _).1 m hm⟩
  refine ⟨?_, hw⟩
  unfold expM
  rw [susD_eq hs hd hu, unexD_eq hs hd hu]
  exact bestD_eq h14 (fun m _ => gD_good s (susV s down up) down m) _ (Nat.le_refl _)
theorem expDE_eq (hs : SvOk s) (hd : StOkL s down) (hu : StOkL s up) : expDE s down up = explE s (susV s down up) down := by
  unfold expDE explE
  rw [susD_eq hs hd hu]
  by_cases h : 14 < (susV s down up).length
  · rw [if_pos h, if_pos h]
  · rw [if_neg h, if_neg h, (expM_eq hs hd hu (by omega)).1]
theorem expD_eq (hs : SvOk s) (hd : StOkL s down) (hu : StOkL s up) : expD s down up = explV s (susV s down up) down := by
  unfold expD explV
  rw [expDE_eq hs hd hu]
  by_cases h : explE s (susV s down up) down = 0
  · have h14 : (susV s down up).length ≤ 14 := by
      unfold explE at h
      split at h <;> omega
    obtain ⟨h1, w, h2⟩ := expM_eq hs hd hu h14
    rw [if_pos h, if_pos h, susD_eq hs hd hu, ← h1]
    exact (sets_one (susV_rise s down up) h14 h2).symm
  · rw [if_neg h, if_neg h]
end
end Go.Proofs.YtameoookmgkmfaaGreat

/- The document: what to ask. -/
namespace Go.Proofs.YtameoookmgkmfaaGreat
set_option linter.unusedVariables false
set_option linter.unusedSimpArgs false
open Abs

theorem hitB_eq {s : List Sv} (hs : SvOk s) {k : Nat} (hk : k < s.length) (q : List ByteArray) : needB s q s[k].key = q.any fun z => decide (z ∈ s[k].els) := by
  rw [needB_eq]; unfold needsB; rw [svG_mem hs.rise (List.getElem_mem hk)]
theorem askK_low (s : List Sv) (L : List (List ByteArray)) (p : Sv → Bool) : ∀ (k : Nat) (b w : Nat), askK s L p k = some (b, w) → w < L.length
  | 0, b, w, h => by cases h
  | k + 1, b, w, h => by
    have ih := askK_low s L p k b w
    by_cases hk : k < s.length
    · rw [askK_succ s L p hk] at h
      split at h
      · exact ih h
      · split at h
        · rename_i hI
          cases h
          cases hst : askK s L p k with
          | none => rw [hst] at hI; simpa [askIf] using hI
          | some q => rw [hst] at hI; simp only [askIf, Bool.and_eq_true, decide_eq_true_eq] at hI; exact hI.1
        · exact ih h
    · rw [askK, List.getElem?_eq_none (by omega)] at h
      exact ih h
def leastD (L : List (List ByteArray)) : Option (Nat × Nat) → Int | none => (L.length : Int) | some (_, w) => (w : Int)
def mostD (s : List Sv) : Option (Nat × Nat) → Int | none => 0 | some (b, _) => ((s[b]?).map Sv.cust).getD 0
set_option maxRecDepth 100000 in
set_option maxHeartbeats 4000000 in
theorem rAsk_pc (s : List Sv) (hs : SvOk s) (down up : List ByteArray) (hd : down.length ≤ 1000000) (hu : up.length ≤ 1000000) (L : List (List ByteArray)) (k2 : L.length ≤ 1000) (k4 : ∀ q ∈ L, q.length ≤ 1000000) :
    PCp 24 [.c (.lst 3 (s.map encSv)), .c (.lst 1 (down.map encS)), .c (.lst 1 (up.map encS)), .c (.lst 1 (L.map encLs))] [] (.tup [.c (.str (askKey s (askV s L down up))), .c (.int .i64 (leastI (askV s L down up))), .c (.bool (askV s L down up).isSome)]) [] := by
  have hsl := hs.len
  have hLm : (L.map encLs).length = L.length := List.length_map ..
  have hsm : (s.map encSv).length = s.length := List.length_map ..
  have hne : ∀ k (hk : k < s.length), s[k].key ≠ ⟨#[]⟩ := by
    intro k hk e
    have := (hs.each _ (List.getElem_mem hk)).key
    rw [e] at this
    exact absurd this (by decide)
  refine fn_sound (mt := mts) tab_fits tab_mixed Tryz.func24 (by rfl) (by kernel_rfl) (by kernel_rfl) Tryz.results24 (Nat.le_of_ble_eq_true (by kernel_rfl)) ?_
  conv => whnf
  rw [hLm]
  refine loop_for (s.length) [] [0, 1, 2, 3, 11, 12, 13, 22, 23, 24] (fun k (_ : Unit) => [(11, .c (.str (askKey s (askK s L (skipB down up) k)))), (12, .c (.int .i64 (leastD L (askK s L (skipB down up) k)))), (13, .c (.int .i64 (mostD s (askK s L (skipB down up) k)))), (24, .c (.int .i64 (k : Int)))]) (fun k (_ : Unit) => []) (fun k (_ : Unit) => True) (()) ?_
  conv => whnf
  refine ⟨(by first | rfl | (simp; done) | (simp; rfl)), (by trivial), ?_, ?_⟩
  · intro k _ hk _
    have hA := askK_succ s L (skipB down up) hk
    have hlt := askK_lt s L (skipB down up) k
    have hlow := askK_low s L (skipB down up) k
    generalize askK s L (skipB down up) k = st at hA hlt hlow
    conv => whnf
    repeat' (first
      | (refine Split.mk (fun h => ?_) (fun h => ?_) <;> (try simp only [decide_eq_true_eq, decide_eq_false_iff_not, Bool.not_eq_true', Bool.not_eq_false', beq_iff_eq, beq_eq_false_iff_ne, bne_iff_ne, bne_eq_false_iff_eq] at h) <;> (first | (exfalso; first | omega | exact h trivial) | (conv => whnf)))
      | (refine CondG.mk (fun h => ?_) (fun h => ?_) <;> (try simp only [decide_eq_true_eq, decide_eq_false_iff_not, Bool.not_eq_true', Bool.not_eq_false', beq_iff_eq, beq_eq_false_iff_ne, bne_iff_ne, bne_eq_false_iff_eq] at h) <;> (first | (exfalso; first | omega | exact h trivial) | (conv => whnf)))
      | (refine CallX.mk _ _ (by first | exact containsS_pc _ _ hd | exact containsS_pc _ _ hu) ?_; conv => whnf)
      | (refine CallG.mk _ _ (by first | exact containsS_pc _ _ hd | exact containsS_pc _ _ hu) ?_; conv => whnf)
      | (refine Ask.mk (by first | omega | (unfold roomOK; simp [cutRows]; done) | (unfold roomOK; simp [cutRows]; omega) | (simp [cutRows]; done) | (simp [cutRows]; omega)) ?_; conv => whnf)
      | (refine AppG.mk (by first | omega | (unfold roomOK; simp [cutRows]; done) | (unfold roomOK; simp [cutRows]; omega) | (simp [cutRows]; done) | (simp [cutRows]; omega)) ?_; conv => whnf)
      | (refine SliceG.fr ?_; conv => whnf)
      | (refine idx_at _ (by with_reducible rfl) (by first | assumption | omega) ?_; conv => whnf)
      | ((with_reducible refine row_map (by first | assumption | omega) ?_); conv => whnf)
      | ((with_reducible refine row_set (by first | assumption | omega | (simp only [List.length_set]; omega) | (simp; omega)) ?_); conv => whnf)
      | fail)
    · have hsk : skipB down up s[k] = true := by unfold skipB; simp_all
      exact count_next () hk (by rw [wrap_succ hk (by omega), hA, if_pos hsk]; rfl) trivial
    · have hsk : skipB down up s[k] = true := by unfold skipB; simp_all
      exact count_next () hk (by rw [wrap_succ hk (by omega), hA, if_pos hsk]; rfl) trivial
    have hsk : ¬ skipB down up s[k] = true := by unfold skipB; simp_all
    rw [if_neg hsk] at hA
    refine loop_for (L.length) [] [0, 1, 2, 3, 11, 12, 13, 15, 16, 22, 23, 24, 38, 39, 40] (fun j (_ : Unit) => [(16, .c (.int .i64 ((hitN (L.take j) s[k] : Nat) : Int))), (40, .c (.int .i64 (j : Int)))]) (fun j (_ : Unit) => []) (fun j (_ : Unit) => True) (()) ?_
    conv => whnf
    refine ⟨(by first | rfl | (simp; done) | (simp; rfl)), (by trivial), ?_, ?_⟩
    · intro j _ hj _
      have hq := k4 _ (List.getElem_mem hj)
      have hH := hitN_succ L s[k] hj
      have hHl := hitN_le (L.take j) s[k]
      have hjl : (L.take j).length = j := by rw [List.length_take]; omega
      have hB := hitB_eq hs hk L[j]
      have hk1 : hasSv s s[k].key = true := hasSv_iff.2 ⟨_, List.getElem_mem hk, rfl⟩
      conv => whnf
      repeat' (first
        | (refine Split.mk (fun h => ?_) (fun h => ?_) <;> (try simp only [decide_eq_true_eq, decide_eq_false_iff_not, Bool.not_eq_true', Bool.not_eq_false', beq_iff_eq, beq_eq_false_iff_ne, bne_iff_ne, bne_eq_false_iff_eq] at h) <;> (first | (exfalso; first | omega | exact h trivial) | (conv => whnf)))
        | (refine CondG.mk (fun h => ?_) (fun h => ?_) <;> (try simp only [decide_eq_true_eq, decide_eq_false_iff_not, Bool.not_eq_true', Bool.not_eq_false', beq_iff_eq, beq_eq_false_iff_ne, bne_iff_ne, bne_eq_false_iff_eq] at h) <;> (first | (exfalso; first | omega | exact h trivial) | (conv => whnf)))
        | (refine CallX.mk _ _ (by first | exact rNeeds_pc s hs _ hk1 L[j] hq) ?_; conv => whnf)
        | (refine CallG.mk _ _ (by first | exact rNeeds_pc s hs _ hk1 L[j] hq) ?_; conv => whnf)
        | (refine Ask.mk (by first | omega | (unfold roomOK; simp [cutRows]; done) | (unfold roomOK; simp [cutRows]; omega) | (simp [cutRows]; done) | (simp [cutRows]; omega)) ?_; conv => whnf)
        | (refine AppG.mk (by first | omega | (unfold roomOK; simp [cutRows]; done) | (unfold roomOK; simp [cutRows]; omega) | (simp [cutRows]; done) | (simp [cutRows]; omega)) ?_; conv => whnf)
        | (refine SliceG.fr ?_; conv => whnf)
        | (refine idx_at _ (by with_reducible rfl) (by first | assumption | omega) ?_; conv => whnf)
        | ((with_reducible refine row_map (by first | assumption | omega) ?_); conv => whnf)
        | ((with_reducible refine row_set (by first | assumption | omega | (simp only [List.length_set]; omega) | (simp; omega)) ?_); conv => whnf)
        | fail)
      · have ha : (L[j].any fun z => decide (z ∈ s[k].els)) = true := by rw [← hB]; assumption
        rw [if_pos ha] at hH
        exact count_next () hj (by rw [wrap_succ hj (by omega), hH, show IntKind.i64.wrap (((hitN (L.take j) s[k] : Nat) : Int) + 1) = ((hitN (L.take j) s[k] + 1 : Nat) : Int) by rw [wrap_in (by omega) (by omega)]; rfl]; rfl) trivial
      · have ha : ¬ (L[j].any fun z => decide (z ∈ s[k].els)) = true := by rw [← hB]; simp_all
        rw [if_neg ha] at hH
        exact count_next () hj (by rw [wrap_succ hj (by omega), hH]; rfl) trivial
    · intro _ _
      rw [List.take_length]
      have hn := hitN_le L s[k]
      have hwd : worstN L s[k] = max (hitN L s[k]) (L.length - hitN L s[k]) := rfl
      have hKk : askKey s (some (k, worstN L s[k])) = s[k].key := by unfold askKey; simp only; rw [List.getElem?_eq_getElem hk]; rfl
      have hMk : mostD s (some (k, worstN L s[k])) = s[k].cust := by unfold mostD; simp only; rw [List.getElem?_eq_getElem hk]; rfl
      rcases st with _ | ⟨b, le⟩
      · rw [show askKey s none = ⟨#[]⟩ from rfl, show leastD L none = (L.length : Int) from rfl, show mostD s none = 0 from rfl]
        have hIff : askIf s L s[k] none = true ↔ worstN L s[k] < L.length := by simp only [askIf, decide_eq_true_eq]
        conv => whnf
        repeat' (first
          | (refine Split.mk (fun h => ?_) (fun h => ?_) <;> (try simp only [decide_eq_true_eq, decide_eq_false_iff_not, Bool.not_eq_true', Bool.not_eq_false', beq_iff_eq, beq_eq_false_iff_ne, bne_iff_ne, bne_eq_false_iff_eq] at h) <;> (first | (exfalso; first | omega | exact h trivial) | (conv => whnf)))
          | (refine CondG.mk (fun h => ?_) (fun h => ?_) <;> (try simp only [decide_eq_true_eq, decide_eq_false_iff_not, Bool.not_eq_true', Bool.not_eq_false', beq_iff_eq, beq_eq_false_iff_ne, bne_iff_ne, bne_eq_false_iff_eq] at h) <;> (first | (exfalso; first | omega | exact h trivial) | (conv => whnf)))
          | (refine Ask.mk (by first | omega | (unfold roomOK; simp [cutRows]; done) | (unfold roomOK; simp [cutRows]; omega) | (simp [cutRows]; done) | (simp [cutRows]; omega)) ?_; conv => whnf)
          | (refine AppG.mk (by first | omega | (unfold roomOK; simp [cutRows]; done) | (unfold roomOK; simp [cutRows]; omega) | (simp [cutRows]; done) | (simp [cutRows]; omega)) ?_; conv => whnf)
          | (refine SliceG.fr ?_; conv => whnf)
          | (refine idx_at _ (by with_reducible rfl) (by first | assumption | omega) ?_; conv => whnf)
          | ((with_reducible refine row_map (by first | assumption | omega) ?_); conv => whnf)
          | ((with_reducible refine row_set (by first | assumption | omega | (simp only [List.length_set]; omega) | (simp; omega)) ?_); conv => whnf)
          | fail)
        all_goals try simp only [worst_if k2] at *
        all_goals first | (exfalso; omega) | contradiction | skip
        all_goals
          by_cases q : worstN L s[k] < L.length
          · have hI := hIff.2 q
            rw [if_pos hI] at hA
            first
              | (exfalso; omega)
              | exact count_next () hk (by rw [wrap_succ hk (by omega), hA, hKk, hMk]; rfl) trivial
          · have hI : ¬ askIf s L s[k] none = true := fun e => q (hIff.1 e)
            rw [if_neg hI] at hA
            first
              | (exfalso; omega)
              | exact count_next () hk (by rw [wrap_succ hk (by omega), hA]; rfl) trivial
      · obtain ⟨g1, g2, g3⟩ := hlt b le rfl
        have g4 := hlow b le rfl
        have hC : ((s[b]?).map Sv.cust).getD 0 = s[b].cust := by rw [List.getElem?_eq_getElem g2]; rfl
        have hK : askKey s (some (b, le)) = s[b].key := by unfold askKey; simp only; rw [List.getElem?_eq_getElem g2]; rfl
        have hM : mostD s (some (b, le)) = s[b].cust := hC
        have hnb := hne b g2
        rw [hK, show leastD L (some (b, le)) = ((le : Nat) : Int) from rfl, hM]
        have hIff : askIf s L s[k] (some (b, le)) = true ↔ (worstN L s[k] < le ∨ (worstN L s[k] = le ∧ s[b].cust < s[k].cust)) := by
          simp only [askIf, hC, Bool.and_eq_true, Bool.or_eq_true, decide_eq_true_eq]; omega
        conv => whnf
        repeat' (first
          | (refine Split.mk (fun h => ?_) (fun h => ?_) <;> (try simp only [decide_eq_true_eq, decide_eq_false_iff_not, Bool.not_eq_true', Bool.not_eq_false', beq_iff_eq, beq_eq_false_iff_ne, bne_iff_ne, bne_eq_false_iff_eq] at h) <;> (first | (exfalso; first | omega | exact h trivial) | (conv => whnf)))
          | (refine CondG.mk (fun h => ?_) (fun h => ?_) <;> (try simp only [decide_eq_true_eq, decide_eq_false_iff_not, Bool.not_eq_true', Bool.not_eq_false', beq_iff_eq, beq_eq_false_iff_ne, bne_iff_ne, bne_eq_false_iff_eq] at h) <;> (first | (exfalso; first | omega | exact h trivial) | (conv => whnf)))
          | (refine Ask.mk (by first | omega | (unfold roomOK; simp [cutRows]; done) | (unfold roomOK; simp [cutRows]; omega) | (simp [cutRows]; done) | (simp [cutRows]; omega)) ?_; conv => whnf)
          | (refine AppG.mk (by first | omega | (unfold roomOK; simp [cutRows]; done) | (unfold roomOK; simp [cutRows]; omega) | (simp [cutRows]; done) | (simp [cutRows]; omega)) ?_; conv => whnf)
          | (refine SliceG.fr ?_; conv => whnf)
          | (refine idx_at _ (by with_reducible rfl) (by first | assumption | omega) ?_; conv => whnf)
          | ((with_reducible refine row_map (by first | assumption | omega) ?_); conv => whnf)
          | ((with_reducible refine row_set (by first | assumption | omega | (simp only [List.length_set]; omega) | (simp; omega)) ?_); conv => whnf)
          | fail)
        all_goals try simp only [worst_if k2] at *
        all_goals try simp only [toList_eq', ne_eq] at *
        all_goals first | (exfalso; omega) | contradiction | skip
        all_goals
          by_cases q : worstN L s[k] < le ∨ (worstN L s[k] = le ∧ s[b].cust < s[k].cust)
          · have hI := hIff.2 q
            rw [if_pos hI] at hA
            first
              | (exfalso; omega)
              | exact count_next () hk (by rw [wrap_succ hk (by omega), hA, hKk, hMk]; rfl) trivial
          · have hI : ¬ askIf s L s[k] (some (b, le)) = true := fun e => q (hIff.1 e)
            rw [if_neg hI] at hA
            first
              | (exfalso; omega)
              | exact count_next () hk (by rw [wrap_succ hk (by omega), hA, hK, hM]; rfl) trivial
  · intro _ _
    have hV : askV s L down up = askK s L (skipB down up) s.length := rfl
    rw [hV]
    have hlt := askK_lt s L (skipB down up) s.length
    generalize askK s L (skipB down up) s.length = st at hlt
    rcases st with _ | ⟨b, le⟩
    · rw [show askKey s none = ⟨#[]⟩ from rfl, show leastI none = 0 from rfl]
      conv => whnf
      repeat' (first
        | (refine Split.mk (fun h => ?_) (fun h => ?_) <;> (try simp only [decide_eq_true_eq, decide_eq_false_iff_not, Bool.not_eq_true', Bool.not_eq_false', beq_iff_eq, beq_eq_false_iff_ne, bne_iff_ne, bne_eq_false_iff_eq] at h) <;> (first | (exfalso; first | omega | exact h trivial) | (conv => whnf)))
        | (refine CondG.mk (fun h => ?_) (fun h => ?_) <;> (try simp only [decide_eq_true_eq, decide_eq_false_iff_not, Bool.not_eq_true', Bool.not_eq_false', beq_iff_eq, beq_eq_false_iff_ne, bne_iff_ne, bne_eq_false_iff_eq] at h) <;> (first | (exfalso; first | omega | exact h trivial) | (conv => whnf)))
        | (refine Ask.mk (by first | omega | (unfold roomOK; simp [cutRows]; done) | (unfold roomOK; simp [cutRows]; omega) | (simp [cutRows]; done) | (simp [cutRows]; omega)) ?_; conv => whnf)
        | (refine AppG.mk (by first | omega | (unfold roomOK; simp [cutRows]; done) | (unfold roomOK; simp [cutRows]; omega) | (simp [cutRows]; done) | (simp [cutRows]; omega)) ?_; conv => whnf)
        | (refine SliceG.fr ?_; conv => whnf)
        | (refine idx_at _ (by with_reducible rfl) (by first | assumption | omega) ?_; conv => whnf)
        | ((with_reducible refine row_map (by first | assumption | omega) ?_); conv => whnf)
        | ((with_reducible refine row_set (by first | assumption | omega | (simp only [List.length_set]; omega) | (simp; omega)) ?_); conv => whnf)
        | fail)
      all_goals first | exact .mk ⟨rfl, rfl⟩ | exact absurd rfl h
    · obtain ⟨g1, g2, g3⟩ := hlt b le rfl
      have hK : askKey s (some (b, le)) = s[b].key := by unfold askKey; simp only; rw [List.getElem?_eq_getElem g2]; rfl
      have hnb := hne b g2
      rw [hK]
      conv => whnf
      repeat' (first
        | (refine Split.mk (fun h => ?_) (fun h => ?_) <;> (try simp only [decide_eq_true_eq, decide_eq_false_iff_not, Bool.not_eq_true', Bool.not_eq_false', beq_iff_eq, beq_eq_false_iff_ne, bne_iff_ne, bne_eq_false_iff_eq] at h) <;> (first | (exfalso; first | omega | exact h trivial) | (conv => whnf)))
        | (refine CondG.mk (fun h => ?_) (fun h => ?_) <;> (try simp only [decide_eq_true_eq, decide_eq_false_iff_not, Bool.not_eq_true', Bool.not_eq_false', beq_iff_eq, beq_eq_false_iff_ne, bne_iff_ne, bne_eq_false_iff_eq] at h) <;> (first | (exfalso; first | omega | exact h trivial) | (conv => whnf)))
        | (refine Ask.mk (by first | omega | (unfold roomOK; simp [cutRows]; done) | (unfold roomOK; simp [cutRows]; omega) | (simp [cutRows]; done) | (simp [cutRows]; omega)) ?_; conv => whnf)
        | (refine AppG.mk (by first | omega | (unfold roomOK; simp [cutRows]; done) | (unfold roomOK; simp [cutRows]; omega) | (simp [cutRows]; done) | (simp [cutRows]; omega)) ?_; conv => whnf)
        | (refine SliceG.fr ?_; conv => whnf)
        | (refine idx_at _ (by with_reducible rfl) (by first | assumption | omega) ?_; conv => whnf)
        | ((with_reducible refine row_map (by first | assumption | omega) ?_); conv => whnf)
        | ((with_reducible refine row_set (by first | assumption | omega | (simp only [List.length_set]; omega) | (simp; omega)) ?_); conv => whnf)
        | fail)
      all_goals first | exact .mk ⟨rfl, rfl⟩ | exact absurd (toList_eq'.1 h) hnb
end Go.Proofs.YtameoookmgkmfaaGreat

/- The document: the error of services, and of those that are down and up. -/
namespace Go.Proofs.YtameoookmgkmfaaGreat
set_option linter.unusedVariables false
set_option linter.unusedSimpArgs false
open Abs

set_option maxRecDepth 100000 in
set_option maxHeartbeats 4000000 in
theorem rAtN_pc (s : List Sv) (hl : s.length ≤ 1000000) (k : ByteArray) (hk : hasSv s k = false) : PCp 86 [.c (.lst 3 (s.map encSv)), .c (.str k)] [] (.tup [.agg [.str ⟨#[]⟩, .nils, .int .i64 0], .c (.bool false)]) [] := by
  have h2 : idxP (fun x : Sv => decide (x.key = k)) s = -1 := by
    rcases idxP_or (fun x : Sv => decide (x.key = k)) s with ⟨h1, _⟩ | ⟨i, hi, _, h4, _⟩
    · exact h1
    · have h5 : hasSv s k = true := hasSv_iff.2 ⟨s[i], List.getElem_mem hi, by simpa using h4⟩
      rw [h5] at hk; cases hk
  have hc := ixSvK_pc k 107 (fun x : Sv => decide (x.key = k)) s hl (fun x _ => rAt1_pc k x)
  rw [h2] at hc
  refine fn_sound (mt := mts) tab_fits tab_mixed Tryz.func86 (by rfl) (by kernel_rfl) (by kernel_rfl) Tryz.results86 (Nat.le_of_ble_eq_true (by kernel_rfl)) ?_
  conv => whnf
  repeat' (first
    | (refine Split.mk (fun h => ?_) (fun h => ?_) <;> (try simp only [decide_eq_true_eq, decide_eq_false_iff_not, Bool.not_eq_true', Bool.not_eq_false', beq_iff_eq, beq_eq_false_iff_ne, bne_iff_ne, bne_eq_false_iff_eq] at h) <;> (first | (exfalso; first | omega | exact h trivial) | (conv => whnf)))
    | (refine CondG.mk (fun h => ?_) (fun h => ?_) <;> (try simp only [decide_eq_true_eq, decide_eq_false_iff_not, Bool.not_eq_true', Bool.not_eq_false', beq_iff_eq, beq_eq_false_iff_ne, bne_iff_ne, bne_eq_false_iff_eq] at h) <;> (first | (exfalso; first | omega | exact h trivial) | (conv => whnf)))
    | (refine CallX.mk _ _ (by first | exact hc) ?_; conv => whnf)
    | (refine CallG.mk _ _ (by first | exact hc) ?_; conv => whnf)
    | (refine Ask.mk (by first | omega | (unfold roomOK; simp [cutRows]; done) | (unfold roomOK; simp [cutRows]; omega) | (simp [cutRows]; done) | (simp [cutRows]; omega)) ?_; conv => whnf)
    | (refine AppG.mk (by first | omega | (unfold roomOK; simp [cutRows]; done) | (unfold roomOK; simp [cutRows]; omega) | (simp [cutRows]; done) | (simp [cutRows]; omega)) ?_; conv => whnf)
    | (refine SliceG.fr ?_; conv => whnf)
    | (refine idx_at _ (by with_reducible rfl) (by first | assumption | omega) ?_; conv => whnf)
    | ((with_reducible refine row_map (by first | assumption | omega) ?_); conv => whnf)
    | ((with_reducible refine row_set (by first | assumption | omega | (simp only [List.length_set]; omega) | (simp; omega)) ?_); conv => whnf)
    | fail)
  all_goals first | (exfalso; omega) | skip
  exact .mk ⟨rfl, rfl⟩
set_option maxRecDepth 100000 in
set_option maxHeartbeats 4000000 in
theorem rStates_pc (s : List Sv) (hs : SvOk s) (l : List ByteArray) : PCp 43 [.c (.lst 3 (s.map encSv)), .c (.lst 1 (l.map encS))] [] (.c (.int .i64 (stErr s l))) [] := by
  have hlm : (l.map encS).length = l.length := List.length_map ..
  have hsl := hs.len
  refine fn_sound (mt := mts) tab_fits tab_mixed Tryz.func43 (by rfl) (by kernel_rfl) (by kernel_rfl) Tryz.results43 (Nat.le_of_ble_eq_true (by kernel_rfl)) ?_
  conv => whnf
  repeat' (first
    | (refine Split.mk (fun h => ?_) (fun h => ?_) <;> (try simp only [decide_eq_true_eq, decide_eq_false_iff_not, Bool.not_eq_true', Bool.not_eq_false', beq_iff_eq, beq_eq_false_iff_ne, bne_iff_ne, bne_eq_false_iff_eq] at h) <;> (first | (exfalso; first | omega | exact h trivial) | (conv => whnf)))
    | (refine CondG.mk (fun h => ?_) (fun h => ?_) <;> (try simp only [decide_eq_true_eq, decide_eq_false_iff_not, Bool.not_eq_true', Bool.not_eq_false', beq_iff_eq, beq_eq_false_iff_ne, bne_iff_ne, bne_eq_false_iff_eq] at h) <;> (first | (exfalso; first | omega | exact h trivial) | (conv => whnf)))
    | (refine Ask.mk (by first | omega | (unfold roomOK; simp [cutRows]; done) | (unfold roomOK; simp [cutRows]; omega) | (simp [cutRows]; done) | (simp [cutRows]; omega)) ?_; conv => whnf)
    | (refine AppG.mk (by first | omega | (unfold roomOK; simp [cutRows]; done) | (unfold roomOK; simp [cutRows]; omega) | (simp [cutRows]; done) | (simp [cutRows]; omega)) ?_; conv => whnf)
    | (refine SliceG.fr ?_; conv => whnf)
    | (refine idx_at _ (by with_reducible rfl) (by first | assumption | omega) ?_; conv => whnf)
    | ((with_reducible refine row_map (by first | assumption | omega) ?_); conv => whnf)
    | ((with_reducible refine row_set (by first | assumption | omega | (simp only [List.length_set]; omega) | (simp; omega)) ?_); conv => whnf)
    | fail)
  · exact fini (by rw [stErr, if_pos (by omega)])
  have hF : stErr s l = seqErr (keyErr (hasSv s)) id false ⟨#[]⟩ l := by rw [stErr, if_neg (by omega), seqErr_first (keyErrS_first hs)]
  refine loop_for (l.length) [] [0, 5, 13, 14, 15] (fun k (_ : Unit) => [(5, .c (.str (befK id l k))), (15, .c (.int .i64 (k : Int)))]) (fun k (_ : Unit) => []) (fun k (_ : Unit) => seqErr (keyErr (hasSv s)) id false (befK id l k) (l.drop k) = stErr s l) (()) ?_
  conv => whnf
  refine ⟨(by first | rfl | (simp; done) | (simp; rfl)), ?_, ?_, ?_⟩
  · exact hF.symm
  · intro k _ hk hi
    cases hq : hasSv s l[k] with
    | false =>
      conv => whnf
      repeat' (first
        | (refine Split.mk (fun h => ?_) (fun h => ?_) <;> (try simp only [decide_eq_true_eq, decide_eq_false_iff_not, Bool.not_eq_true', Bool.not_eq_false', beq_iff_eq, beq_eq_false_iff_ne, bne_iff_ne, bne_eq_false_iff_eq] at h) <;> (first | (exfalso; first | omega | exact h trivial | contradiction | (simp_all [eqRes]; done)) | (conv => whnf)))
        | (refine CondG.mk (fun h => ?_) (fun h => ?_) <;> (try simp only [decide_eq_true_eq, decide_eq_false_iff_not, Bool.not_eq_true', Bool.not_eq_false', beq_iff_eq, beq_eq_false_iff_ne, bne_iff_ne, bne_eq_false_iff_eq] at h) <;> (first | (exfalso; first | omega | exact h trivial | contradiction | (simp_all [eqRes]; done)) | (conv => whnf)))
        | (refine CallX.mk _ _ (by first | exact rAtN_pc s (by omega) _ hq) ?_; conv => whnf)
        | (refine CallG.mk _ _ (by first | exact rAtN_pc s (by omega) _ hq) ?_; conv => whnf)
        | (refine Ask.mk (by first | omega | (unfold roomOK; simp [cutRows]; done) | (unfold roomOK; simp [cutRows]; omega) | (simp [cutRows]; done) | (simp [cutRows]; omega)) ?_; conv => whnf)
        | (refine AppG.mk (by first | omega | (unfold roomOK; simp [cutRows]; done) | (unfold roomOK; simp [cutRows]; omega) | (simp [cutRows]; done) | (simp [cutRows]; omega)) ?_; conv => whnf)
        | (refine SliceG.fr ?_; conv => whnf)
        | (refine idx_at _ (by with_reducible rfl) (by first | assumption | omega) ?_; conv => whnf)
        | ((with_reducible refine row_map (by first | assumption | omega) ?_); conv => whnf)
        | ((with_reducible refine row_set (by first | assumption | omega | (simp only [List.length_set]; omega) | (simp; omega)) ?_); conv => whnf)
        | fail)
      all_goals try simp only [toList_eq'] at *
      all_goals first
        | (refine fini (seq_hit hk hi ?_ (by decide)); clear hi hF; unfold keyErr; (repeat' split) <;> first | rfl | (exfalso; first | omega | (simp_all [leB, toList_eq']; done) | (simp_all [leB, toList_eq']; omega)))
    | true =>
      conv => whnf
      repeat' (first
        | (refine Split.mk (fun h => ?_) (fun h => ?_) <;> (try simp only [decide_eq_true_eq, decide_eq_false_iff_not, Bool.not_eq_true', Bool.not_eq_false', beq_iff_eq, beq_eq_false_iff_ne, bne_iff_ne, bne_eq_false_iff_eq] at h) <;> (first | (exfalso; first | omega | exact h trivial | contradiction | (simp_all [eqRes]; done)) | (conv => whnf)))
        | (refine CondG.mk (fun h => ?_) (fun h => ?_) <;> (try simp only [decide_eq_true_eq, decide_eq_false_iff_not, Bool.not_eq_true', Bool.not_eq_false', beq_iff_eq, beq_eq_false_iff_ne, bne_iff_ne, bne_eq_false_iff_eq] at h) <;> (first | (exfalso; first | omega | exact h trivial | contradiction | (simp_all [eqRes]; done)) | (conv => whnf)))
        | (refine CallX.mk _ _ (by first | exact rAt_pc s hs _ hq) ?_; conv => whnf)
        | (refine CallG.mk _ _ (by first | exact rAt_pc s hs _ hq) ?_; conv => whnf)
        | (refine Ask.mk (by first | omega | (unfold roomOK; simp [cutRows]; done) | (unfold roomOK; simp [cutRows]; omega) | (simp [cutRows]; done) | (simp [cutRows]; omega)) ?_; conv => whnf)
        | (refine AppG.mk (by first | omega | (unfold roomOK; simp [cutRows]; done) | (unfold roomOK; simp [cutRows]; omega) | (simp [cutRows]; done) | (simp [cutRows]; omega)) ?_; conv => whnf)
        | (refine SliceG.fr ?_; conv => whnf)
        | (refine idx_at _ (by with_reducible rfl) (by first | assumption | omega) ?_; conv => whnf)
        | ((with_reducible refine row_map (by first | assumption | omega) ?_); conv => whnf)
        | ((with_reducible refine row_set (by first | assumption | omega | (simp only [List.length_set]; omega) | (simp; omega)) ?_); conv => whnf)
        | fail)
      all_goals try simp only [toList_eq'] at *
      all_goals first
        | (refine fini (seq_hit hk hi ?_ (by decide)); clear hi hF; unfold keyErr; (repeat' split) <;> first | rfl | (exfalso; first | omega | (simp_all [leB, toList_eq']; done) | (simp_all [leB, toList_eq']; omega)))
        | (refine count_next () hk (by rw [wrap_succ hk (by omega), befK_succ hk]; rfl) (by rw [befK_succ hk]; refine seq_next hk hi ?_; clear hi hF; unfold keyErr; (repeat' split) <;> first | rfl | (exfalso; first | omega | (simp_all [leB, toList_eq']; done) | (simp_all [leB, toList_eq']; omega))))
  · intro _ hi
    conv => whnf
    repeat' (first
      | (refine Split.mk (fun h => ?_) (fun h => ?_) <;> (try simp only [decide_eq_true_eq, decide_eq_false_iff_not, Bool.not_eq_true', Bool.not_eq_false', beq_iff_eq, beq_eq_false_iff_ne, bne_iff_ne, bne_eq_false_iff_eq] at h) <;> (first | (exfalso; first | omega | exact h trivial) | (conv => whnf)))
      | (refine CondG.mk (fun h => ?_) (fun h => ?_) <;> (try simp only [decide_eq_true_eq, decide_eq_false_iff_not, Bool.not_eq_true', Bool.not_eq_false', beq_iff_eq, beq_eq_false_iff_ne, bne_iff_ne, bne_eq_false_iff_eq] at h) <;> (first | (exfalso; first | omega | exact h trivial) | (conv => whnf)))
      | (refine Ask.mk (by first | omega | (unfold roomOK; simp [cutRows]; done) | (unfold roomOK; simp [cutRows]; omega) | (simp [cutRows]; done) | (simp [cutRows]; omega)) ?_; conv => whnf)
      | (refine AppG.mk (by first | omega | (unfold roomOK; simp [cutRows]; done) | (unfold roomOK; simp [cutRows]; omega) | (simp [cutRows]; done) | (simp [cutRows]; omega)) ?_; conv => whnf)
      | (refine SliceG.fr ?_; conv => whnf)
      | (refine idx_at _ (by with_reducible rfl) (by first | assumption | omega) ?_; conv => whnf)
      | ((with_reducible refine row_map (by first | assumption | omega) ?_); conv => whnf)
      | ((with_reducible refine row_set (by first | assumption | omega | (simp only [List.length_set]; omega) | (simp; omega)) ?_); conv => whnf)
      | fail)
    exact fini (seq_end hi).symm
set_option maxRecDepth 100000 in
set_option maxHeartbeats 4000000 in
theorem rSeen1_pc (up : List ByteArray) (hl : up.length ≤ 1000000) (x : ByteArray) : PCp 45 [.c (.str x), .c (.ptr 0 0)] [.box [.lst 1 (up.map encS)]] (.c (.bool (decide (x ∈ up)))) [.box [.lst 1 (up.map encS)]] := by
  refine fn_sound (mt := mts) tab_fits tab_mixed Tryz.func45 (by rfl) (by kernel_rfl) (by kernel_rfl) Tryz.results45 (Nat.le_of_ble_eq_true (by kernel_rfl)) ?_
  conv => whnf
  repeat' (first
    | (refine Split.mk (fun h => ?_) (fun h => ?_) <;> (try simp only [decide_eq_true_eq, decide_eq_false_iff_not, Bool.not_eq_true', Bool.not_eq_false', beq_iff_eq, beq_eq_false_iff_ne, bne_iff_ne, bne_eq_false_iff_eq] at h) <;> (first | (exfalso; first | omega | exact h trivial) | (conv => whnf)))
    | (refine CondG.mk (fun h => ?_) (fun h => ?_) <;> (try simp only [decide_eq_true_eq, decide_eq_false_iff_not, Bool.not_eq_true', Bool.not_eq_false', beq_iff_eq, beq_eq_false_iff_ne, bne_iff_ne, bne_eq_false_iff_eq] at h) <;> (first | (exfalso; first | omega | exact h trivial) | (conv => whnf)))
    | (refine CallX.mk _ _ (by first | exact containsS_pc x up hl) ?_; conv => whnf)
    | (refine CallG.mk _ _ (by first | exact containsS_pc x up hl) ?_; conv => whnf)
    | (refine Ask.mk (by first | omega | (unfold roomOK; simp [cutRows]; done) | (unfold roomOK; simp [cutRows]; omega) | (simp [cutRows]; done) | (simp [cutRows]; omega)) ?_; conv => whnf)
    | (refine AppG.mk (by first | omega | (unfold roomOK; simp [cutRows]; done) | (unfold roomOK; simp [cutRows]; omega) | (simp [cutRows]; done) | (simp [cutRows]; omega)) ?_; conv => whnf)
    | (refine SliceG.fr ?_; conv => whnf)
    | (refine idx_at _ (by with_reducible rfl) (by first | assumption | omega) ?_; conv => whnf)
    | ((with_reducible refine row_map (by first | assumption | omega) ?_); conv => whnf)
    | ((with_reducible refine row_set (by first | assumption | omega | (simp only [List.length_set]; omega) | (simp; omega)) ?_); conv => whnf)
    | fail)
  exact .mk ⟨rfl, rfl⟩
set_option maxRecDepth 100000 in
set_option maxHeartbeats 4000000 in
theorem rSeen_pc (s : List Sv) (hx : ∀ x ∈ s, x.els.length ≤ 1000000) (down up : List ByteArray) : PCp 14 [.c (.lst 3 (s.map encSv)), .c (.lst 1 (down.map encS)), .c (.lst 1 (up.map encS))] [] (.c (.int .i64 (seenErr s down up))) [] := by
  have hdm : (down.map encS).length = down.length := List.length_map ..
  refine fn_sound (mt := mts) tab_fits tab_mixed Tryz.func14 (by rfl) (by kernel_rfl) (by kernel_rfl) Tryz.results14 (Nat.le_of_ble_eq_true (by kernel_rfl)) ?_
  conv => whnf
  repeat' (first
    | (refine Split.mk (fun h => ?_) (fun h => ?_) <;> (try simp only [decide_eq_true_eq, decide_eq_false_iff_not, Bool.not_eq_true', Bool.not_eq_false', beq_iff_eq, beq_eq_false_iff_ne, bne_iff_ne, bne_eq_false_iff_eq] at h) <;> (first | (exfalso; first | omega | exact h trivial) | (conv => whnf)))
    | (refine CondG.mk (fun h => ?_) (fun h => ?_) <;> (try simp only [decide_eq_true_eq, decide_eq_false_iff_not, Bool.not_eq_true', Bool.not_eq_false', beq_iff_eq, beq_eq_false_iff_ne, bne_iff_ne, bne_eq_false_iff_eq] at h) <;> (first | (exfalso; first | omega | exact h trivial) | (conv => whnf)))
    | (refine CallX.mk _ _ (by first | exact rServicesFault_pc s hx) ?_; conv => whnf)
    | (refine CallG.mk _ _ (by first | exact rServicesFault_pc s hx) ?_; conv => whnf)
    | (refine Ask.mk (by first | omega | (unfold roomOK; simp [cutRows]; done) | (unfold roomOK; simp [cutRows]; omega) | (simp [cutRows]; done) | (simp [cutRows]; omega)) ?_; conv => whnf)
    | (refine AppG.mk (by first | omega | (unfold roomOK; simp [cutRows]; done) | (unfold roomOK; simp [cutRows]; omega) | (simp [cutRows]; done) | (simp [cutRows]; omega)) ?_; conv => whnf)
    | (refine SliceG.fr ?_; conv => whnf)
    | (refine idx_at _ (by with_reducible rfl) (by first | assumption | omega) ?_; conv => whnf)
    | ((with_reducible refine row_map (by first | assumption | omega) ?_); conv => whnf)
    | ((with_reducible refine row_set (by first | assumption | omega | (simp only [List.length_set]; omega) | (simp; omega)) ?_); conv => whnf)
    | fail)
  · exact fini (by rw [seenErr, if_pos (by assumption)])
  have hs0 : svFault s = 0 := by simp_all
  have hs := svFault_ok hs0
  have e1 : IntKind.i64.wrap (0 + 1) = 1 := by decide
  have e2 : IntKind.i64.wrap (1 + 1) = 2 := by decide
  refine .un 3 ?_
  conv => whnf
  refine .mk (fun _ => ?_) (fun h => absurd h (by simp [cutRows]))
  conv => whnf
  refine .mk ⟨by decide, by simp [cutRows]⟩ ?_
  conv => whnf
  refine .mk _ (by rfl) ?_
  conv => whnf
  repeat' (first
    | (refine Split.mk (fun h => ?_) (fun h => ?_) <;> (try simp only [decide_eq_true_eq, decide_eq_false_iff_not, Bool.not_eq_true', Bool.not_eq_false', beq_iff_eq, beq_eq_false_iff_ne, bne_iff_ne, bne_eq_false_iff_eq] at h) <;> (first | (exfalso; first | omega | exact h trivial) | (conv => whnf)))
    | (refine CondG.mk (fun h => ?_) (fun h => ?_) <;> (try simp only [decide_eq_true_eq, decide_eq_false_iff_not, Bool.not_eq_true', Bool.not_eq_false', beq_iff_eq, beq_eq_false_iff_ne, bne_iff_ne, bne_eq_false_iff_eq] at h) <;> (first | (exfalso; first | omega | exact h trivial) | (conv => whnf)))
    | (refine CallX.mk _ _ (by first | exact rStates_pc s hs _) ?_; conv => whnf)
    | (refine CallG.mk _ _ (by first | exact rStates_pc s hs _) ?_; conv => whnf)
    | (refine Ask.mk (by first | omega | (unfold roomOK; simp [cutRows]; done) | (unfold roomOK; simp [cutRows]; omega) | (simp [cutRows]; done) | (simp [cutRows]; omega)) ?_; conv => whnf)
    | (refine AppG.mk (by first | omega | (unfold roomOK; simp [cutRows]; done) | (unfold roomOK; simp [cutRows]; omega) | (simp [cutRows]; done) | (simp [cutRows]; omega)) ?_; conv => whnf)
    | (refine SliceG.fr ?_; conv => whnf)
    | (refine idx_at _ (by with_reducible rfl) (by first | assumption | omega) ?_; conv => whnf)
    | ((with_reducible refine row_map (by first | assumption | omega) ?_); conv => whnf)
    | ((with_reducible refine row_set (by first | assumption | omega | (simp only [List.length_set]; omega) | (simp; omega)) ?_); conv => whnf)
    | fail)
  · refine fini ?_
    rw [seenErr, if_neg (by omega), if_pos (by assumption)]
  rotate_left
  · exact absurd (show _ < _ by rw [e1]; simp [cutRows]) h
  have hd0 : stErr s down = 0 := by assumption
  have hd := stErr_ok hd0
  have hdl := hd.len
  refine .mk ⟨by decide, by rw [e1]; simp [cutRows]⟩ ?_
  conv => whnf
  refine .mk _ (by rfl) ?_
  conv => whnf
  repeat' (first
    | (refine Split.mk (fun h => ?_) (fun h => ?_) <;> (try simp only [decide_eq_true_eq, decide_eq_false_iff_not, Bool.not_eq_true', Bool.not_eq_false', beq_iff_eq, beq_eq_false_iff_ne, bne_iff_ne, bne_eq_false_iff_eq] at h) <;> (first | (exfalso; first | omega | exact h trivial) | (conv => whnf)))
    | (refine CondG.mk (fun h => ?_) (fun h => ?_) <;> (try simp only [decide_eq_true_eq, decide_eq_false_iff_not, Bool.not_eq_true', Bool.not_eq_false', beq_iff_eq, beq_eq_false_iff_ne, bne_iff_ne, bne_eq_false_iff_eq] at h) <;> (first | (exfalso; first | omega | exact h trivial) | (conv => whnf)))
    | (refine CallX.mk _ _ (by first | exact rStates_pc s hs _) ?_; conv => whnf)
    | (refine CallG.mk _ _ (by first | exact rStates_pc s hs _) ?_; conv => whnf)
    | (refine Ask.mk (by first | omega | (unfold roomOK; simp [cutRows]; done) | (unfold roomOK; simp [cutRows]; omega) | (simp [cutRows]; done) | (simp [cutRows]; omega)) ?_; conv => whnf)
    | (refine AppG.mk (by first | omega | (unfold roomOK; simp [cutRows]; done) | (unfold roomOK; simp [cutRows]; omega) | (simp [cutRows]; done) | (simp [cutRows]; omega)) ?_; conv => whnf)
    | (refine SliceG.fr ?_; conv => whnf)
    | (refine idx_at _ (by with_reducible rfl) (by first | assumption | omega) ?_; conv => whnf)
    | ((with_reducible refine row_map (by first | assumption | omega) ?_); conv => whnf)
    | ((with_reducible refine row_set (by first | assumption | omega | (simp only [List.length_set]; omega) | (simp; omega)) ?_); conv => whnf)
    | fail)
  · refine fini ?_
    rw [seenErr, if_neg (by omega), if_neg (by omega), if_pos (by assumption)]
  · exact absurd h (by rw [e1, e2]; simp [cutRows])
  have hu0 : stErr s up = 0 := by assumption
  have hu := stErr_ok hu0
  have hul := hu.len
  repeat' (first
    | (refine Split.mk (fun h => ?_) (fun h => ?_) <;> (try simp only [decide_eq_true_eq, decide_eq_false_iff_not, Bool.not_eq_true', Bool.not_eq_false', beq_iff_eq, beq_eq_false_iff_ne, bne_iff_ne, bne_eq_false_iff_eq] at h) <;> (first | (exfalso; first | omega | exact h trivial) | (conv => whnf)))
    | (refine CondG.mk (fun h => ?_) (fun h => ?_) <;> (try simp only [decide_eq_true_eq, decide_eq_false_iff_not, Bool.not_eq_true', Bool.not_eq_false', beq_iff_eq, beq_eq_false_iff_ne, bne_iff_ne, bne_eq_false_iff_eq] at h) <;> (first | (exfalso; first | omega | exact h trivial) | (conv => whnf)))
    | (refine CallX.mk _ _ (by first | exact ixUC_pc (up.map encS) 45 (fun x => decide (x ∈ up)) down (by omega) (fun x _ => rSeen1_pc up (by omega) x)) ?_; conv => whnf)
    | (refine CallG.mk _ _ (by first | exact ixUC_pc (up.map encS) 45 (fun x => decide (x ∈ up)) down (by omega) (fun x _ => rSeen1_pc up (by omega) x)) ?_; conv => whnf)
    | (refine Ask.mk (by first | omega | (unfold roomOK; simp [cutRows]; done) | (unfold roomOK; simp [cutRows]; omega) | (simp [cutRows]; done) | (simp [cutRows]; omega)) ?_; conv => whnf)
    | (refine AppG.mk (by first | omega | (unfold roomOK; simp [cutRows]; done) | (unfold roomOK; simp [cutRows]; omega) | (simp [cutRows]; done) | (simp [cutRows]; omega)) ?_; conv => whnf)
    | (refine SliceG.fr ?_; conv => whnf)
    | (refine idx_at _ (by with_reducible rfl) (by first | assumption | omega) ?_; conv => whnf)
    | ((with_reducible refine row_map (by first | assumption | omega) ?_); conv => whnf)
    | ((with_reducible refine row_set (by first | assumption | omega | (simp only [List.length_set]; omega) | (simp; omega)) ?_); conv => whnf)
    | fail)
  all_goals
    refine fini ?_
    rw [seenErr, if_neg (by simp [hs0]), if_neg (by simp [hd0]), if_neg (by simp [hu0])]
    simp_all
end Go.Proofs.YtameoookmgkmfaaGreat

/- What is down and up, and many services: made. -/
namespace Go.Proofs.YtameoookmgkmfaaGreat
set_option linter.unusedVariables false
set_option linter.unusedSimpArgs false
open Abs

def Few (d u : List ByteArray) : Prop := d.length ≤ 6 ∧ u.length ≤ 6
set_option maxRecDepth 100000 in
set_option maxHeartbeats 4000000 in
theorem rDownUp_pc {L : List Int} {p : Int} (hst : StOk L p) (hp : p ≤ 800000000) (s : List Sv) (hs : s.length ≤ 6) :
    PCq 6 [.c (.ptr 0 0), .c (.lst 3 (s.map encSv))] [stO L p] fun r os => ∃ (down up : List ByteArray) (p' : Int), r = .tup [.c (.lst 1 (down.map encS)), .c (.lst 1 (up.map encS))] ∧ os = [stO L p'] ∧ down.length ≤ 20 ∧ up.length ≤ 20 ∧ p ≤ p' ∧ p' ≤ p + 100 := by
  have hS : ∀ x : Int, p ≤ x → x ≤ p + 100 → StOk L x := fun x h3 h4 => ⟨hst.1, by have := hst.2.1; omega, by omega⟩
  have hsm : (s.map encSv).length = s.length := List.length_map ..
  have hfin : ∀ (d u : List ByteArray) (q : Int), d.length ≤ 20 → u.length ≤ 20 → p ≤ q → q ≤ p + 100 → ∀ (r : S) (os : List Ob), r = .tup [.c (.row 1), .c (.row 2)] → (∃ e1 e2, os = [stO L q, .row e1 1 (d.map encS), .row e2 1 (u.map encS)]) → FinX (fun r os => ∃ (down up : List ByteArray) (p' : Int), r = .tup [.c (.lst 1 (down.map encS)), .c (.lst 1 (up.map encS))] ∧ os = [stO L p'] ∧ down.length ≤ 20 ∧ up.length ≤ 20 ∧ p ≤ p' ∧ p' ≤ p + 100) 1 r os := by
    rintro d u q h1 h2 h3 h4 _ _ rfl ⟨e1, e2, rfl⟩
    refine .mk _ _ ⟨d, u, q, rfl, rfl, h1, h2, h3, h4⟩ (.frz 1 _ _ _ rfl (.frz 2 _ _ _ rfl (.weak [_, _] (.tup _ _ rfl ?_) rfl (Nat.le_refl _))))
    intro i a b ha hb
    match i with
    | 0 => cases ha; cases hb; exact .fro 1 _ _ rfl
    | 1 => cases ha; cases hb; exact .fro 2 _ _ rfl
  refine fn_soundX (mt := mts) tab_fits tab_mixed Tryz.func6 (by rfl) (by kernel_rfl) (by kernel_rfl) Tryz.results6 (Nat.le_of_ble_eq_true (by kernel_rfl)) ?_
  conv => whnf
  refine loop_for3 (s.length) [.sl 6 9 1, .sl 7 9 1] [0, 6, 7, 10, 11, 12] (fun k (q : Int) (d : List ByteArray) (u : List ByteArray) => [(12, .c (.int .i64 (k : Int)))]) (fun k (q : Int) (d : List ByteArray) (u : List ByteArray) => [(0, stO L q), (1, .row 9 1 (d.map encS)), (2, .row 9 1 (u.map encS))]) (fun k (q : Int) (d : List ByteArray) (u : List ByteArray) => d.length ≤ k ∧ u.length ≤ k ∧ q = p + k) (p) ([]) ([]) ?_
  conv => whnf
  refine ⟨(by first | rfl | (simp; done) | (simp; rfl)), ?_, ?_, ?_⟩
  · exact ⟨by simp, by simp, by omega⟩
  · intro k q d u hk ⟨h1, h2, h3⟩
    have hdm : (d.map encS).length = d.length := List.length_map ..
    have hum : (u.map encS).length = u.length := List.length_map ..
    have hQ : ∀ x : Int, q ≤ x → x ≤ q + 14 → StOk L x := fun x h3 h4 => hS x (by omega) (by omega)
    conv => whnf
    repeat' (first
      | (refine Split.mk (fun h => ?_) (fun h => ?_) <;> (try simp only [decide_eq_true_eq, decide_eq_false_iff_not, Bool.not_eq_true', Bool.not_eq_false', beq_iff_eq, beq_eq_false_iff_ne, bne_iff_ne, bne_eq_false_iff_eq] at h) <;> (first | (exfalso; first | omega | exact h trivial | (simp [cutRows] at h; done) | (simp [cutRows] at h; omega)) | (conv => whnf)))
      | (refine CondG.mk (fun h => ?_) (fun h => ?_) <;> (try simp only [decide_eq_true_eq, decide_eq_false_iff_not, Bool.not_eq_true', Bool.not_eq_false', beq_iff_eq, beq_eq_false_iff_ne, bne_iff_ne, bne_eq_false_iff_eq] at h) <;> (first | (exfalso; first | omega | exact h trivial | (simp [cutRows] at h; done) | (simp [cutRows] at h; omega)) | (conv => whnf)))
      | (refine CallX.mk _ _ (by first | exact flip_ok (hQ _ (by omega) (by omega)) _ (by omega) | exact next_ok (hQ _ (by omega) (by omega)) _ (by omega) | exact range_ok (hQ _ (by omega) (by omega)) _ _ (by omega) (small_lit (by omega)) (small_lit (by omega)) | exact odd_ok (hQ _ (by omega) (by omega)) (hQ _ (by omega) (by omega)) _ _ (small_lit (by omega)) (small_lit (by omega)) (by omega) | exact pick_ok (hQ _ (by omega) (by omega)) [_] (by simp) (by simp) | exact pick_ok (hQ _ (by omega) (by omega)) [_, _] (by simp) (by simp) | exact pick_ok (hQ _ (by omega) (by omega)) [_, _, _] (by simp) (by simp) | exact pick_ok (hQ _ (by omega) (by omega)) [_, _, _, _] (by simp) (by simp) | exact pick_ok (hQ _ (by omega) (by omega)) [_, _, _, _, _] (by simp) (by simp) | exact pick_ok (hQ _ (by omega) (by omega)) [_, _, _, _, _, _] (by simp) (by simp) | exact pick_ok (hQ _ (by omega) (by omega)) [_, _, _, _, _, _, _] (by simp) (by simp) | exact pick_ok (hQ _ (by omega) (by omega)) [_, _, _, _, _, _, _, _] (by simp) (by simp) | exact pick_ok (hQ _ (by omega) (by omega)) [_, _, _, _, _, _, _, _, _] (by simp) (by simp) | exact pick_ok (hQ _ (by omega) (by omega)) [_, _, _, _, _, _, _, _, _, _] (by simp) (by simp) | exact some_ok (hQ _ (by omega) (by omega)) [_] (by simp) (by simp) | exact some_ok (hQ _ (by omega) (by omega)) [_, _] (by simp) (by simp) | exact some_ok (hQ _ (by omega) (by omega)) [_, _, _] (by simp) (by simp) | exact some_ok (hQ _ (by omega) (by omega)) [_, _, _, _] (by simp) (by simp) | exact some_ok (hQ _ (by omega) (by omega)) [_, _, _, _, _] (by simp) (by simp) | exact some_ok (hQ _ (by omega) (by omega)) [_, _, _, _, _, _] (by simp) (by simp) | exact some_ok (hQ _ (by omega) (by omega)) [_, _, _, _, _, _, _] (by simp) (by simp) | exact some_ok (hQ _ (by omega) (by omega)) [_, _, _, _, _, _, _, _] (by simp) (by simp)) ?_; conv => whnf)
      | (refine CallG.mk _ _ (by first | exact flip_ok (hQ _ (by omega) (by omega)) _ (by omega) | exact next_ok (hQ _ (by omega) (by omega)) _ (by omega) | exact range_ok (hQ _ (by omega) (by omega)) _ _ (by omega) (small_lit (by omega)) (small_lit (by omega)) | exact odd_ok (hQ _ (by omega) (by omega)) (hQ _ (by omega) (by omega)) _ _ (small_lit (by omega)) (small_lit (by omega)) (by omega) | exact pick_ok (hQ _ (by omega) (by omega)) [_] (by simp) (by simp) | exact pick_ok (hQ _ (by omega) (by omega)) [_, _] (by simp) (by simp) | exact pick_ok (hQ _ (by omega) (by omega)) [_, _, _] (by simp) (by simp) | exact pick_ok (hQ _ (by omega) (by omega)) [_, _, _, _] (by simp) (by simp) | exact pick_ok (hQ _ (by omega) (by omega)) [_, _, _, _, _] (by simp) (by simp) | exact pick_ok (hQ _ (by omega) (by omega)) [_, _, _, _, _, _] (by simp) (by simp) | exact pick_ok (hQ _ (by omega) (by omega)) [_, _, _, _, _, _, _] (by simp) (by simp) | exact pick_ok (hQ _ (by omega) (by omega)) [_, _, _, _, _, _, _, _] (by simp) (by simp) | exact pick_ok (hQ _ (by omega) (by omega)) [_, _, _, _, _, _, _, _, _] (by simp) (by simp) | exact pick_ok (hQ _ (by omega) (by omega)) [_, _, _, _, _, _, _, _, _, _] (by simp) (by simp) | exact some_ok (hQ _ (by omega) (by omega)) [_] (by simp) (by simp) | exact some_ok (hQ _ (by omega) (by omega)) [_, _] (by simp) (by simp) | exact some_ok (hQ _ (by omega) (by omega)) [_, _, _] (by simp) (by simp) | exact some_ok (hQ _ (by omega) (by omega)) [_, _, _, _] (by simp) (by simp) | exact some_ok (hQ _ (by omega) (by omega)) [_, _, _, _, _] (by simp) (by simp) | exact some_ok (hQ _ (by omega) (by omega)) [_, _, _, _, _, _] (by simp) (by simp) | exact some_ok (hQ _ (by omega) (by omega)) [_, _, _, _, _, _, _] (by simp) (by simp) | exact some_ok (hQ _ (by omega) (by omega)) [_, _, _, _, _, _, _, _] (by simp) (by simp)) ?_; conv => whnf)
      | (refine Ask.mk (by first | omega | (unfold roomOK; simp [cutRows]; done) | (unfold roomOK; simp [cutRows]; omega) | (simp [cutRows]; done) | (simp [cutRows]; omega)) ?_; conv => whnf)
      | (refine AppG.mk (by first | omega | (unfold roomOK; simp [cutRows]; done) | (unfold roomOK; simp [cutRows]; omega) | (simp [cutRows]; done) | (simp [cutRows]; omega)) ?_; conv => whnf)
      | (refine SliceG.fr ?_; conv => whnf)
      | (refine idx_at _ (by with_reducible rfl) (by first | assumption | omega) ?_; conv => whnf)
      | ((with_reducible refine row_map (by first | assumption | omega) ?_); conv => whnf)
      | (refine row_str (by rfl) (by first | (simp [cutRows]; done) | (simp [cutRows]; omega)) ?_; intro str; conv => whnf)
      | ((with_reducible refine row_set (by first | assumption | omega | (simp only [List.length_set]; omega) | (simp; omega)) ?_); conv => whnf)
      | fail)
    · exact count_next (q + 1, d ++ [_], u) hk (by rw [wrap_succ hk (by omega), List.map_append]; rfl) ⟨by simp; omega, by simp only; omega, by simp only; omega⟩
    · exact count_next (q + 1, d, u ++ [_]) hk (by rw [wrap_succ hk (by omega), List.map_append]; rfl) ⟨by simp only; omega, by simp; omega, by simp only; omega⟩
    · exact count_next (q + 1, d, u) hk (by rw [wrap_succ hk (by omega)]; rfl) ⟨by simp only; omega, by simp only; omega, by simp only; omega⟩
  · intro q d u ⟨h1, h2, h3⟩
    have hdm : (d.map encS).length = d.length := List.length_map ..
    have hum : (u.map encS).length = u.length := List.length_map ..
    have hQ : ∀ x : Int, q ≤ x → x ≤ q + 14 → StOk L x := fun x h3 h4 => hS x (by omega) (by omega)
    have hb : Few d u := ⟨by omega, by omega⟩
    have hq : p ≤ q ∧ q ≤ p + 10 := by omega
    clear h1 h2 h3
    conv => whnf
    repeat' (first
      | (refine Split.mk (fun h => ?_) (fun h => ?_) <;> (try simp only [decide_eq_true_eq, decide_eq_false_iff_not, Bool.not_eq_true', Bool.not_eq_false', beq_iff_eq, beq_eq_false_iff_ne, bne_iff_ne, bne_eq_false_iff_eq] at h) <;> (first | (exfalso; first | omega | exact h trivial | (simp [cutRows] at h; done) | (simp [cutRows] at h; omega)) | (conv => whnf)))
      | (refine CondG.mk (fun h => ?_) (fun h => ?_) <;> (try simp only [decide_eq_true_eq, decide_eq_false_iff_not, Bool.not_eq_true', Bool.not_eq_false', beq_iff_eq, beq_eq_false_iff_ne, bne_iff_ne, bne_eq_false_iff_eq] at h) <;> (first | (exfalso; first | omega | exact h trivial | (simp [cutRows] at h; done) | (simp [cutRows] at h; omega)) | (conv => whnf)))
      | (refine CallX.mk _ _ (by first | exact flip_ok (hQ _ (by omega) (by omega)) _ (by omega) | exact next_ok (hQ _ (by omega) (by omega)) _ (by omega) | exact range_ok (hQ _ (by omega) (by omega)) _ _ (by omega) (small_lit (by omega)) (small_lit (by omega)) | exact odd_ok (hQ _ (by omega) (by omega)) (hQ _ (by omega) (by omega)) _ _ (small_lit (by omega)) (small_lit (by omega)) (by omega) | exact pick_ok (hQ _ (by omega) (by omega)) [_] (by simp) (by simp) | exact pick_ok (hQ _ (by omega) (by omega)) [_, _] (by simp) (by simp) | exact pick_ok (hQ _ (by omega) (by omega)) [_, _, _] (by simp) (by simp) | exact pick_ok (hQ _ (by omega) (by omega)) [_, _, _, _] (by simp) (by simp) | exact pick_ok (hQ _ (by omega) (by omega)) [_, _, _, _, _] (by simp) (by simp) | exact pick_ok (hQ _ (by omega) (by omega)) [_, _, _, _, _, _] (by simp) (by simp) | exact pick_ok (hQ _ (by omega) (by omega)) [_, _, _, _, _, _, _] (by simp) (by simp) | exact pick_ok (hQ _ (by omega) (by omega)) [_, _, _, _, _, _, _, _] (by simp) (by simp) | exact pick_ok (hQ _ (by omega) (by omega)) [_, _, _, _, _, _, _, _, _] (by simp) (by simp) | exact pick_ok (hQ _ (by omega) (by omega)) [_, _, _, _, _, _, _, _, _, _] (by simp) (by simp) | exact some_ok (hQ _ (by omega) (by omega)) [_] (by simp) (by simp) | exact some_ok (hQ _ (by omega) (by omega)) [_, _] (by simp) (by simp) | exact some_ok (hQ _ (by omega) (by omega)) [_, _, _] (by simp) (by simp) | exact some_ok (hQ _ (by omega) (by omega)) [_, _, _, _] (by simp) (by simp) | exact some_ok (hQ _ (by omega) (by omega)) [_, _, _, _, _] (by simp) (by simp) | exact some_ok (hQ _ (by omega) (by omega)) [_, _, _, _, _, _] (by simp) (by simp) | exact some_ok (hQ _ (by omega) (by omega)) [_, _, _, _, _, _, _] (by simp) (by simp) | exact some_ok (hQ _ (by omega) (by omega)) [_, _, _, _, _, _, _, _] (by simp) (by simp)) ?_; conv => whnf)
      | (refine CallG.mk _ _ (by first | exact flip_ok (hQ _ (by omega) (by omega)) _ (by omega) | exact next_ok (hQ _ (by omega) (by omega)) _ (by omega) | exact range_ok (hQ _ (by omega) (by omega)) _ _ (by omega) (small_lit (by omega)) (small_lit (by omega)) | exact odd_ok (hQ _ (by omega) (by omega)) (hQ _ (by omega) (by omega)) _ _ (small_lit (by omega)) (small_lit (by omega)) (by omega) | exact pick_ok (hQ _ (by omega) (by omega)) [_] (by simp) (by simp) | exact pick_ok (hQ _ (by omega) (by omega)) [_, _] (by simp) (by simp) | exact pick_ok (hQ _ (by omega) (by omega)) [_, _, _] (by simp) (by simp) | exact pick_ok (hQ _ (by omega) (by omega)) [_, _, _, _] (by simp) (by simp) | exact pick_ok (hQ _ (by omega) (by omega)) [_, _, _, _, _] (by simp) (by simp) | exact pick_ok (hQ _ (by omega) (by omega)) [_, _, _, _, _, _] (by simp) (by simp) | exact pick_ok (hQ _ (by omega) (by omega)) [_, _, _, _, _, _, _] (by simp) (by simp) | exact pick_ok (hQ _ (by omega) (by omega)) [_, _, _, _, _, _, _, _] (by simp) (by simp) | exact pick_ok (hQ _ (by omega) (by omega)) [_, _, _, _, _, _, _, _, _] (by simp) (by simp) | exact pick_ok (hQ _ (by omega) (by omega)) [_, _, _, _, _, _, _, _, _, _] (by simp) (by simp) | exact some_ok (hQ _ (by omega) (by omega)) [_] (by simp) (by simp) | exact some_ok (hQ _ (by omega) (by omega)) [_, _] (by simp) (by simp) | exact some_ok (hQ _ (by omega) (by omega)) [_, _, _] (by simp) (by simp) | exact some_ok (hQ _ (by omega) (by omega)) [_, _, _, _] (by simp) (by simp) | exact some_ok (hQ _ (by omega) (by omega)) [_, _, _, _, _] (by simp) (by simp) | exact some_ok (hQ _ (by omega) (by omega)) [_, _, _, _, _, _] (by simp) (by simp) | exact some_ok (hQ _ (by omega) (by omega)) [_, _, _, _, _, _, _] (by simp) (by simp) | exact some_ok (hQ _ (by omega) (by omega)) [_, _, _, _, _, _, _, _] (by simp) (by simp)) ?_; conv => whnf)
      | (refine Ask.mk (by first | omega | (unfold roomOK; simp [cutRows]; done) | (unfold roomOK; simp [cutRows]; omega) | (simp [cutRows]; done) | (simp [cutRows]; omega)) ?_; conv => whnf)
      | (refine AppG.mk (by first | omega | (unfold roomOK; simp [cutRows]; done) | (unfold roomOK; simp [cutRows]; omega) | (simp [cutRows]; done) | (simp [cutRows]; omega)) ?_; conv => whnf)
      | (refine SliceG.fr ?_; conv => whnf)
      | (refine idx_at _ (by with_reducible rfl) (by first | assumption | omega) ?_; conv => whnf)
      | ((with_reducible refine row_map (by first | assumption | omega) ?_); conv => whnf)
      | (refine row_str (by rfl) (by first | (simp [cutRows]; done) | (simp [cutRows]; omega)) ?_; intro str; conv => whnf)
      | ((with_reducible refine row_set (by first | assumption | omega | (simp only [List.length_set]; omega) | (simp; omega)) ?_); conv => whnf)
      | fail)
    all_goals obtain ⟨h1, h2⟩ := hb
    · repeat' (first
        | (refine Split.mk (fun h => ?_) (fun h => ?_) <;> (try simp only [decide_eq_true_eq, decide_eq_false_iff_not, Bool.not_eq_true', Bool.not_eq_false', beq_iff_eq, beq_eq_false_iff_ne, bne_iff_ne, bne_eq_false_iff_eq] at h) <;> (first | (exfalso; first | omega | exact h trivial) | (conv => whnf)))
        | (refine CondG.mk (fun h => ?_) (fun h => ?_) <;> (try simp only [decide_eq_true_eq, decide_eq_false_iff_not, Bool.not_eq_true', Bool.not_eq_false', beq_iff_eq, beq_eq_false_iff_ne, bne_iff_ne, bne_eq_false_iff_eq] at h) <;> (first | (exfalso; first | omega | exact h trivial) | (conv => whnf)))
        | (refine Ask.mk (by first | omega | (unfold roomOK; simp [cutRows]; done) | (unfold roomOK; simp [cutRows]; omega) | (simp [cutRows]; done) | (simp [cutRows]; omega)) ?_; conv => whnf)
        | (refine AppG.mk (by first | omega | (unfold roomOK; simp [cutRows]; done) | (unfold roomOK; simp [cutRows]; omega) | (simp [cutRows]; done) | (simp [cutRows]; omega)) ?_; conv => whnf)
        | (refine SliceG.fr ?_; conv => whnf)
        | (refine idx_at _ (by with_reducible rfl) (by first | assumption | omega) ?_; conv => whnf)
        | ((with_reducible refine row_map (by first | assumption | omega) ?_); conv => whnf)
        | ((with_reducible refine row_set (by first | assumption | omega | (simp only [List.length_set]; omega) | (simp; omega)) ?_); conv => whnf)
        | fail)
      exact hfin (d ++ [_]) u (q + 1 + 1 + 1) (by simp; omega) (by omega) (by omega) (by omega) _ _ rfl ⟨_, _, by rw [List.map_append]; rfl⟩
    · repeat' (first
        | (refine Split.mk (fun h => ?_) (fun h => ?_) <;> (try simp only [decide_eq_true_eq, decide_eq_false_iff_not, Bool.not_eq_true', Bool.not_eq_false', beq_iff_eq, beq_eq_false_iff_ne, bne_iff_ne, bne_eq_false_iff_eq] at h) <;> (first | (exfalso; first | omega | exact h trivial) | (conv => whnf)))
        | (refine CondG.mk (fun h => ?_) (fun h => ?_) <;> (try simp only [decide_eq_true_eq, decide_eq_false_iff_not, Bool.not_eq_true', Bool.not_eq_false', beq_iff_eq, beq_eq_false_iff_ne, bne_iff_ne, bne_eq_false_iff_eq] at h) <;> (first | (exfalso; first | omega | exact h trivial) | (conv => whnf)))
        | (refine Ask.mk (by first | omega | (unfold roomOK; simp [cutRows]; done) | (unfold roomOK; simp [cutRows]; omega) | (simp [cutRows]; done) | (simp [cutRows]; omega)) ?_; conv => whnf)
        | (refine AppG.mk (by first | omega | (unfold roomOK; simp [cutRows]; done) | (unfold roomOK; simp [cutRows]; omega) | (simp [cutRows]; done) | (simp [cutRows]; omega)) ?_; conv => whnf)
        | (refine SliceG.fr ?_; conv => whnf)
        | (refine idx_at _ (by with_reducible rfl) (by first | assumption | omega) ?_; conv => whnf)
        | ((with_reducible refine row_map (by first | assumption | omega) ?_); conv => whnf)
        | ((with_reducible refine row_set (by first | assumption | omega | (simp only [List.length_set]; omega) | (simp; omega)) ?_); conv => whnf)
        | fail)
      exact hfin d (u ++ [_]) (q + 1 + 1 + 1) (by omega) (by simp; omega) (by omega) (by omega) _ _ rfl ⟨_, _, by rw [List.map_append]; rfl⟩
    · refine .fr (by unfold roomOK; simp; omega) ?_
      conv => whnf
      repeat' (first
        | (refine Split.mk (fun h => ?_) (fun h => ?_) <;> (try simp only [decide_eq_true_eq, decide_eq_false_iff_not, Bool.not_eq_true', Bool.not_eq_false', beq_iff_eq, beq_eq_false_iff_ne, bne_iff_ne, bne_eq_false_iff_eq] at h) <;> (first | (exfalso; first | omega | exact h trivial) | (conv => whnf)))
        | (refine CondG.mk (fun h => ?_) (fun h => ?_) <;> (try simp only [decide_eq_true_eq, decide_eq_false_iff_not, Bool.not_eq_true', Bool.not_eq_false', beq_iff_eq, beq_eq_false_iff_ne, bne_iff_ne, bne_eq_false_iff_eq] at h) <;> (first | (exfalso; first | omega | exact h trivial) | (conv => whnf)))
        | (refine Ask.mk (by first | omega | (unfold roomOK; simp [cutRows]; done) | (unfold roomOK; simp [cutRows]; omega) | (simp [cutRows]; done) | (simp [cutRows]; omega)) ?_; conv => whnf)
        | (refine AppG.mk (by first | omega | (unfold roomOK; simp [cutRows]; done) | (unfold roomOK; simp [cutRows]; omega) | (simp [cutRows]; done) | (simp [cutRows]; omega)) ?_; conv => whnf)
        | (refine SliceG.fr ?_; conv => whnf)
        | (refine idx_at _ (by with_reducible rfl) (by first | assumption | omega) ?_; conv => whnf)
        | ((with_reducible refine row_map (by first | assumption | omega) ?_); conv => whnf)
        | ((with_reducible refine row_set (by first | assumption | omega | (simp only [List.length_set]; omega) | (simp; omega)) ?_); conv => whnf)
        | fail)
      refine .mk _ _ ⟨d ++ u, u ++ d, q + 1 + 1, rfl, rfl, by simp; omega, by simp; omega, by omega, by omega⟩ (.frz 2 _ _ _ rfl (.weak [_, _] (.tup _ _ rfl ?_) rfl (Nat.le_refl _)))
      intro i a b ha hb
      match i with
      | 0 => cases ha; cases hb; exact .fro 1 _ _ (by rw [List.map_append]; rfl)
      | 1 => cases ha; cases hb; exact .fro 2 _ _ (by rw [List.map_append]; rfl)
    · exact hfin d u _ (by omega) (by omega) (by omega) (by omega) _ _ rfl ⟨_, _, rfl⟩
end Go.Proofs.YtameoookmgkmfaaGreat

/- All that the laws of faults ask of the program and of the document. -/
namespace Go.Proofs.YtameoookmgkmfaaGreat
set_option linter.unusedVariables false
set_option linter.unusedSimpArgs false
open Abs

structure AskC (s : List Sv) (down up : List ByteArray) (seen E : Int) (k : ByteArray) (n : Int) (ok : Bool) (L : List (List ByteArray)) : Prop where
  c1 : PCp 23 [.c (.lst 3 (s.map encSv)), .c (.lst 1 (down.map encS)), .c (.lst 1 (up.map encS))] [] (.tup [.c (.str k), .c (.int .i64 n), .c (.bool ok), .c (.int .i64 E)]) []
  c6 : PCp 14 [.c (.lst 3 (s.map encSv)), .c (.lst 1 (down.map encS)), .c (.lst 1 (up.map encS))] [] (.c (.int .i64 seen)) []
  c9 : seen = 0 → PCp 17 [.c (.lst 3 (s.map encSv)), .c (.lst 1 (down.map encS)), .c (.lst 1 (up.map encS))] [] (.tup [.c (.lst 1 (L.map encLs)), .c (.int .i64 E)]) []
  c10 : E = 0 → PCp 24 [.c (.lst 3 (s.map encSv)), .c (.lst 1 (down.map encS)), .c (.lst 1 (up.map encS)), .c (.lst 1 (L.map encLs))] [] (.tup [.c (.str k), .c (.int .i64 n), .c (.bool ok)]) []
  z1 : seen ≠ 0 → E = seen
  z2 : E ≠ 0 → k = ⟨#[]⟩ ∧ n = 0 ∧ ok = false
theorem askC (s : List Sv) (hx : ∀ x ∈ s, x.els.length ≤ 1000) (down up : List ByteArray) : ∃ seen E k n ok L, AskC s down up seen E k n ok L := by
  have hx6 : ∀ x ∈ s, x.els.length ≤ 1000000 := fun x hm => Nat.le_trans (hx x hm) (by decide)
  have c6 := rSeen_pc s hx6 down up
  by_cases h0 : seenErr s down up = 0
  · obtain ⟨hs, hd, hu⟩ := seen_ok h0
    have hdl := hd.len
    have hul := hu.len
    have c9 := rExpls_pc s hs down up hd hu
    rw [expD_eq hs hd hu, expDE_eq hs hd hu] at c9
    by_cases h1 : explE s (susV s down up) down = 0
    · obtain ⟨k1, k2, k3, k4⟩ := explV_ok (susV_rise s down up) h1
      have c1 := fAsk_pc s hx6 down up h0 h1 _ rfl
      have c10 := rAsk_pc s hs down up (by omega) (by omega) (explV s (susV s down up) down) k2 (fun q hq => (k4 q hq).2)
      rw [h1] at c9
      rw [h0] at c6
      exact ⟨0, 0, _, _, _, _, ⟨c1, c6, fun _ => c9, fun _ => c10, fun h => (h rfl).elim, fun h => (h rfl).elim⟩⟩
    · have c1 := fAskE_pc s hx6 down up (explE s (susV s down up) down) (by rw [if_pos h0]) h1
      rw [h0] at c6
      exact ⟨0, _, _, _, _, _, ⟨c1, c6, fun _ => c9, fun h => (h1 h).elim, fun h => (h rfl).elim, fun _ => ⟨rfl, rfl, rfl⟩⟩⟩
  · have c1 := fAskE_pc s hx6 down up (seenErr s down up) (by rw [if_neg h0]) h0
    exact ⟨_, _, _, _, _, [], ⟨c1, c6, fun h => (h0 h).elim, fun h => (h0 h).elim, fun _ => rfl, fun _ => ⟨rfl, rfl, rfl⟩⟩⟩
end Go.Proofs.YtameoookmgkmfaaGreat

/- The law of questions. -/
namespace Go.Proofs.YtameoookmgkmfaaGreat
set_option linter.unusedVariables false
set_option linter.unusedSimpArgs false
open Abs

set_option maxRecDepth 100000 in
set_option maxHeartbeats 4000000 in
theorem questionsAsked_pc (L : List Int) (hL : L.length ≤ 9223372036854775807) : PCp 4 [.c (.lst 1 (L.map encI))] [] (.c (.bool true)) [] := by
  have st0 : StOk L 0 := ⟨hL, by omega, by omega⟩
  refine fn_sound (mt := mts) tab_fits tab_mixed Tryz.func4 (by rfl) (by kernel_rfl) (by kernel_rfl) Tryz.results4 (Nat.le_of_ble_eq_true (by kernel_rfl)) ?_
  conv => whnf
  repeat' (first
    | (refine Split.mk (fun h => ?_) (fun h => ?_) <;> (try simp only [decide_eq_true_eq, decide_eq_false_iff_not, Bool.not_eq_true', Bool.not_eq_false', beq_iff_eq, beq_eq_false_iff_ne, bne_iff_ne, bne_eq_false_iff_eq] at h) <;> (first | (exfalso; first | omega | exact h trivial) | (conv => whnf)))
    | (refine CondG.mk (fun h => ?_) (fun h => ?_) <;> (try simp only [decide_eq_true_eq, decide_eq_false_iff_not, Bool.not_eq_true', Bool.not_eq_false', beq_iff_eq, beq_eq_false_iff_ne, bne_iff_ne, bne_eq_false_iff_eq] at h) <;> (first | (exfalso; first | omega | exact h trivial) | (conv => whnf)))
    | (refine Ask.mk (by first | omega | (unfold roomOK; simp [cutRows]; done) | (unfold roomOK; simp [cutRows]; omega) | (simp [cutRows]; done) | (simp [cutRows]; omega)) ?_; conv => whnf)
    | (refine AppG.mk (by first | omega | (unfold roomOK; simp [cutRows]; done) | (unfold roomOK; simp [cutRows]; omega) | (simp [cutRows]; done) | (simp [cutRows]; omega)) ?_; conv => whnf)
    | (refine SliceG.fr ?_; conv => whnf)
    | (refine idx_at _ (by with_reducible rfl) (by first | assumption | omega) ?_; conv => whnf)
    | ((with_reducible refine row_map (by first | assumption | omega) ?_); conv => whnf)
    | ((with_reducible refine row_set (by first | assumption | omega | (simp only [List.length_set]; omega) | (simp; omega)) ?_); conv => whnf)
    | fail)
  refine .ex _ (rServices_pc st0 (by omega)) ?_
  rintro _ _ ⟨s, p, rfl, rfl, h1, h2, h3, h4⟩
  conv => whnf
  refine .ex _ (rDownUp_pc (L := L) (p := p) ⟨hL, by omega, by omega⟩ (by omega) s h1) ?_
  rintro _ _ ⟨d, u, p2, rfl, rfl, h5, h6, h7, h8⟩
  have hdm : (d.map encS).length = d.length := List.length_map ..
  conv => whnf
  repeat' (first
    | (refine Split.mk (fun h => ?_) (fun h => ?_) <;> (try simp only [decide_eq_true_eq, decide_eq_false_iff_not, Bool.not_eq_true', Bool.not_eq_false', beq_iff_eq, beq_eq_false_iff_ne, bne_iff_ne, bne_eq_false_iff_eq] at h) <;> (first | (exfalso; first | omega | exact h trivial) | (conv => whnf)))
    | (refine CondG.mk (fun h => ?_) (fun h => ?_) <;> (try simp only [decide_eq_true_eq, decide_eq_false_iff_not, Bool.not_eq_true', Bool.not_eq_false', beq_iff_eq, beq_eq_false_iff_ne, bne_iff_ne, bne_eq_false_iff_eq] at h) <;> (first | (exfalso; first | omega | exact h trivial) | (conv => whnf)))
    | (refine CallX.mk _ _ (by first | exact flip_ok (L := L) (p := p2) ⟨hL, by omega, by omega⟩ _ (by omega)) ?_; conv => whnf)
    | (refine CallG.mk _ _ (by first | exact flip_ok (L := L) (p := p2) ⟨hL, by omega, by omega⟩ _ (by omega)) ?_; conv => whnf)
    | (refine Ask.mk (by first | omega | (unfold roomOK; simp [cutRows]; done) | (unfold roomOK; simp [cutRows]; omega) | (simp [cutRows]; done) | (simp [cutRows]; omega)) ?_; conv => whnf)
    | (refine AppG.mk (by first | omega | (unfold roomOK; simp [cutRows]; done) | (unfold roomOK; simp [cutRows]; omega) | (simp [cutRows]; done) | (simp [cutRows]; omega)) ?_; conv => whnf)
    | (refine SliceG.fr ?_; conv => whnf)
    | (refine idx_at _ (by with_reducible rfl) (by first | assumption | omega) ?_; conv => whnf)
    | ((with_reducible refine row_map (by first | assumption | omega) ?_); conv => whnf)
    | ((with_reducible refine row_set (by first | assumption | omega | (simp only [List.length_set]; omega) | (simp; omega)) ?_); conv => whnf)
    | fail)
  · clear h
    have hsub : (d.take 1).map encS = sub (d.map encS) 0 (Int.toNat 1) := by simp [sub, List.map_take]
    obtain ⟨seen, E, k, n, ok, LL, hC⟩ := askC s (fun x hm => Nat.le_trans (h2 x hm).1 (by decide)) (d.take 1) u
    obtain ⟨c1, c6, c9, c10, z1, z2⟩ := hC
    rw [hsub] at c1 c6 c9 c10
    by_cases h0 : seen = 0
    · replace c9 := c9 h0
      subst h0
      clear z1
      by_cases h1 : E = 0
      · replace c10 := c10 h1
        subst h1
        clear z2
        as_aux_lemma =>
         repeat' (first
           | (refine Split.mk (fun h => ?_) (fun h => ?_) <;> (try simp only [decide_eq_true_eq, decide_eq_false_iff_not, Bool.not_eq_true', Bool.not_eq_false', beq_iff_eq, beq_eq_false_iff_ne, bne_iff_ne, bne_eq_false_iff_eq] at h) <;> (first | (exfalso; first | omega | exact h trivial | contradiction | (simp_all [eqRes]; done)) | (conv => whnf)))
           | (refine CondG.mk (fun h => ?_) (fun h => ?_) <;> (try simp only [decide_eq_true_eq, decide_eq_false_iff_not, Bool.not_eq_true', Bool.not_eq_false', beq_iff_eq, beq_eq_false_iff_ne, bne_iff_ne, bne_eq_false_iff_eq] at h) <;> (first | (exfalso; first | omega | exact h trivial | contradiction | (simp_all [eqRes]; done)) | (conv => whnf)))
           | (refine CallX.mk _ _ (by first | exact c1 | exact c6 | exact c9 | exact c10 | exact blamed_pc) ?_; conv => whnf)
           | (refine CallG.mk _ _ (by first | exact c1 | exact c6 | exact c9 | exact c10 | exact blamed_pc) ?_; conv => whnf)
           | (refine Ask.mk (by first | omega | (unfold roomOK; simp [cutRows]; done) | (unfold roomOK; simp [cutRows]; omega) | (simp [cutRows]; done) | (simp [cutRows]; omega)) ?_; conv => whnf)
           | (refine AppG.mk (by first | omega | (unfold roomOK; simp [cutRows]; done) | (unfold roomOK; simp [cutRows]; omega) | (simp [cutRows]; done) | (simp [cutRows]; omega)) ?_; conv => whnf)
           | (refine SliceG.fr ?_; conv => whnf)
           | (refine idx_at _ (by with_reducible rfl) (by first | assumption | omega) ?_; conv => whnf)
           | ((with_reducible refine row_map (by first | assumption | omega) ?_); conv => whnf)
           | ((with_reducible refine row_set (by first | assumption | omega | (simp only [List.length_set]; omega) | (simp; omega)) ?_); conv => whnf)
           | fail)
         all_goals first | exact finb rfl | contradiction | (rename_i h; simp at h; done) | trace_state
      · obtain ⟨rfl, rfl, rfl⟩ := z2 h1
        as_aux_lemma =>
         repeat' (first
           | (refine Split.mk (fun h => ?_) (fun h => ?_) <;> (try simp only [decide_eq_true_eq, decide_eq_false_iff_not, Bool.not_eq_true', Bool.not_eq_false', beq_iff_eq, beq_eq_false_iff_ne, bne_iff_ne, bne_eq_false_iff_eq] at h) <;> (first | (exfalso; first | omega | exact h trivial | contradiction | (simp_all [eqRes]; done)) | (conv => whnf)))
           | (refine CondG.mk (fun h => ?_) (fun h => ?_) <;> (try simp only [decide_eq_true_eq, decide_eq_false_iff_not, Bool.not_eq_true', Bool.not_eq_false', beq_iff_eq, beq_eq_false_iff_ne, bne_iff_ne, bne_eq_false_iff_eq] at h) <;> (first | (exfalso; first | omega | exact h trivial | contradiction | (simp_all [eqRes]; done)) | (conv => whnf)))
           | (refine CallX.mk _ _ (by first | exact c1 | exact c6 | exact c9 | exact blamed_pc) ?_; conv => whnf)
           | (refine CallG.mk _ _ (by first | exact c1 | exact c6 | exact c9 | exact blamed_pc) ?_; conv => whnf)
           | (refine Ask.mk (by first | omega | (unfold roomOK; simp [cutRows]; done) | (unfold roomOK; simp [cutRows]; omega) | (simp [cutRows]; done) | (simp [cutRows]; omega)) ?_; conv => whnf)
           | (refine AppG.mk (by first | omega | (unfold roomOK; simp [cutRows]; done) | (unfold roomOK; simp [cutRows]; omega) | (simp [cutRows]; done) | (simp [cutRows]; omega)) ?_; conv => whnf)
           | (refine SliceG.fr ?_; conv => whnf)
           | (refine idx_at _ (by with_reducible rfl) (by first | assumption | omega) ?_; conv => whnf)
           | ((with_reducible refine row_map (by first | assumption | omega) ?_); conv => whnf)
           | ((with_reducible refine row_set (by first | assumption | omega | (simp only [List.length_set]; omega) | (simp; omega)) ?_); conv => whnf)
           | fail)
         all_goals first | exact finb rfl | contradiction | (rename_i h; simp at h; done) | trace_state
    · have hE := z1 h0
      subst hE
      obtain ⟨rfl, rfl, rfl⟩ := z2 h0
      as_aux_lemma =>
       repeat' (first
         | (refine Split.mk (fun h => ?_) (fun h => ?_) <;> (try simp only [decide_eq_true_eq, decide_eq_false_iff_not, Bool.not_eq_true', Bool.not_eq_false', beq_iff_eq, beq_eq_false_iff_ne, bne_iff_ne, bne_eq_false_iff_eq] at h) <;> (first | (exfalso; first | omega | exact h trivial | contradiction | (simp_all [eqRes]; done)) | (conv => whnf)))
         | (refine CondG.mk (fun h => ?_) (fun h => ?_) <;> (try simp only [decide_eq_true_eq, decide_eq_false_iff_not, Bool.not_eq_true', Bool.not_eq_false', beq_iff_eq, beq_eq_false_iff_ne, bne_iff_ne, bne_eq_false_iff_eq] at h) <;> (first | (exfalso; first | omega | exact h trivial | contradiction | (simp_all [eqRes]; done)) | (conv => whnf)))
         | (refine CallX.mk _ _ (by first | exact c1 | exact c6 | exact blamed_pc) ?_; conv => whnf)
         | (refine CallG.mk _ _ (by first | exact c1 | exact c6 | exact blamed_pc) ?_; conv => whnf)
         | (refine Ask.mk (by first | omega | (unfold roomOK; simp [cutRows]; done) | (unfold roomOK; simp [cutRows]; omega) | (simp [cutRows]; done) | (simp [cutRows]; omega)) ?_; conv => whnf)
         | (refine AppG.mk (by first | omega | (unfold roomOK; simp [cutRows]; done) | (unfold roomOK; simp [cutRows]; omega) | (simp [cutRows]; done) | (simp [cutRows]; omega)) ?_; conv => whnf)
         | (refine SliceG.fr ?_; conv => whnf)
         | (refine idx_at _ (by with_reducible rfl) (by first | assumption | omega) ?_; conv => whnf)
         | ((with_reducible refine row_map (by first | assumption | omega) ?_); conv => whnf)
         | ((with_reducible refine row_set (by first | assumption | omega | (simp only [List.length_set]; omega) | (simp; omega)) ?_); conv => whnf)
         | fail)
       all_goals first | exact finb rfl | contradiction | (rename_i h; simp at h; done) | trace_state
  · clear h
    obtain ⟨seen, E, k, n, ok, LL, hC⟩ := askC s (fun x hm => Nat.le_trans (h2 x hm).1 (by decide)) d u
    obtain ⟨c1, c6, c9, c10, z1, z2⟩ := hC
    skip
    by_cases h0 : seen = 0
    · replace c9 := c9 h0
      subst h0
      clear z1
      by_cases h1 : E = 0
      · replace c10 := c10 h1
        subst h1
        clear z2
        as_aux_lemma =>
         repeat' (first
           | (refine Split.mk (fun h => ?_) (fun h => ?_) <;> (try simp only [decide_eq_true_eq, decide_eq_false_iff_not, Bool.not_eq_true', Bool.not_eq_false', beq_iff_eq, beq_eq_false_iff_ne, bne_iff_ne, bne_eq_false_iff_eq] at h) <;> (first | (exfalso; first | omega | exact h trivial | contradiction | (simp_all [eqRes]; done)) | (conv => whnf)))
           | (refine CondG.mk (fun h => ?_) (fun h => ?_) <;> (try simp only [decide_eq_true_eq, decide_eq_false_iff_not, Bool.not_eq_true', Bool.not_eq_false', beq_iff_eq, beq_eq_false_iff_ne, bne_iff_ne, bne_eq_false_iff_eq] at h) <;> (first | (exfalso; first | omega | exact h trivial | contradiction | (simp_all [eqRes]; done)) | (conv => whnf)))
           | (refine CallX.mk _ _ (by first | exact c1 | exact c6 | exact c9 | exact c10 | exact blamed_pc) ?_; conv => whnf)
           | (refine CallG.mk _ _ (by first | exact c1 | exact c6 | exact c9 | exact c10 | exact blamed_pc) ?_; conv => whnf)
           | (refine Ask.mk (by first | omega | (unfold roomOK; simp [cutRows]; done) | (unfold roomOK; simp [cutRows]; omega) | (simp [cutRows]; done) | (simp [cutRows]; omega)) ?_; conv => whnf)
           | (refine AppG.mk (by first | omega | (unfold roomOK; simp [cutRows]; done) | (unfold roomOK; simp [cutRows]; omega) | (simp [cutRows]; done) | (simp [cutRows]; omega)) ?_; conv => whnf)
           | (refine SliceG.fr ?_; conv => whnf)
           | (refine idx_at _ (by with_reducible rfl) (by first | assumption | omega) ?_; conv => whnf)
           | ((with_reducible refine row_map (by first | assumption | omega) ?_); conv => whnf)
           | ((with_reducible refine row_set (by first | assumption | omega | (simp only [List.length_set]; omega) | (simp; omega)) ?_); conv => whnf)
           | fail)
         all_goals first | exact finb rfl | contradiction | (rename_i h; simp at h; done) | trace_state
      · obtain ⟨rfl, rfl, rfl⟩ := z2 h1
        as_aux_lemma =>
         repeat' (first
           | (refine Split.mk (fun h => ?_) (fun h => ?_) <;> (try simp only [decide_eq_true_eq, decide_eq_false_iff_not, Bool.not_eq_true', Bool.not_eq_false', beq_iff_eq, beq_eq_false_iff_ne, bne_iff_ne, bne_eq_false_iff_eq] at h) <;> (first | (exfalso; first | omega | exact h trivial | contradiction | (simp_all [eqRes]; done)) | (conv => whnf)))
           | (refine CondG.mk (fun h => ?_) (fun h => ?_) <;> (try simp only [decide_eq_true_eq, decide_eq_false_iff_not, Bool.not_eq_true', Bool.not_eq_false', beq_iff_eq, beq_eq_false_iff_ne, bne_iff_ne, bne_eq_false_iff_eq] at h) <;> (first | (exfalso; first | omega | exact h trivial | contradiction | (simp_all [eqRes]; done)) | (conv => whnf)))
           | (refine CallX.mk _ _ (by first | exact c1 | exact c6 | exact c9 | exact blamed_pc) ?_; conv => whnf)
           | (refine CallG.mk _ _ (by first | exact c1 | exact c6 | exact c9 | exact blamed_pc) ?_; conv => whnf)
           | (refine Ask.mk (by first | omega | (unfold roomOK; simp [cutRows]; done) | (unfold roomOK; simp [cutRows]; omega) | (simp [cutRows]; done) | (simp [cutRows]; omega)) ?_; conv => whnf)
           | (refine AppG.mk (by first | omega | (unfold roomOK; simp [cutRows]; done) | (unfold roomOK; simp [cutRows]; omega) | (simp [cutRows]; done) | (simp [cutRows]; omega)) ?_; conv => whnf)
           | (refine SliceG.fr ?_; conv => whnf)
           | (refine idx_at _ (by with_reducible rfl) (by first | assumption | omega) ?_; conv => whnf)
           | ((with_reducible refine row_map (by first | assumption | omega) ?_); conv => whnf)
           | ((with_reducible refine row_set (by first | assumption | omega | (simp only [List.length_set]; omega) | (simp; omega)) ?_); conv => whnf)
           | fail)
         all_goals first | exact finb rfl | contradiction | (rename_i h; simp at h; done) | trace_state
    · have hE := z1 h0
      subst hE
      obtain ⟨rfl, rfl, rfl⟩ := z2 h0
      as_aux_lemma =>
       repeat' (first
         | (refine Split.mk (fun h => ?_) (fun h => ?_) <;> (try simp only [decide_eq_true_eq, decide_eq_false_iff_not, Bool.not_eq_true', Bool.not_eq_false', beq_iff_eq, beq_eq_false_iff_ne, bne_iff_ne, bne_eq_false_iff_eq] at h) <;> (first | (exfalso; first | omega | exact h trivial | contradiction | (simp_all [eqRes]; done)) | (conv => whnf)))
         | (refine CondG.mk (fun h => ?_) (fun h => ?_) <;> (try simp only [decide_eq_true_eq, decide_eq_false_iff_not, Bool.not_eq_true', Bool.not_eq_false', beq_iff_eq, beq_eq_false_iff_ne, bne_iff_ne, bne_eq_false_iff_eq] at h) <;> (first | (exfalso; first | omega | exact h trivial | contradiction | (simp_all [eqRes]; done)) | (conv => whnf)))
         | (refine CallX.mk _ _ (by first | exact c1 | exact c6 | exact blamed_pc) ?_; conv => whnf)
         | (refine CallG.mk _ _ (by first | exact c1 | exact c6 | exact blamed_pc) ?_; conv => whnf)
         | (refine Ask.mk (by first | omega | (unfold roomOK; simp [cutRows]; done) | (unfold roomOK; simp [cutRows]; omega) | (simp [cutRows]; done) | (simp [cutRows]; omega)) ?_; conv => whnf)
         | (refine AppG.mk (by first | omega | (unfold roomOK; simp [cutRows]; done) | (unfold roomOK; simp [cutRows]; omega) | (simp [cutRows]; done) | (simp [cutRows]; omega)) ?_; conv => whnf)
         | (refine SliceG.fr ?_; conv => whnf)
         | (refine idx_at _ (by with_reducible rfl) (by first | assumption | omega) ?_; conv => whnf)
         | ((with_reducible refine row_map (by first | assumption | omega) ?_); conv => whnf)
         | ((with_reducible refine row_set (by first | assumption | omega | (simp only [List.length_set]; omega) | (simp; omega)) ?_); conv => whnf)
         | fail)
       all_goals first | exact finb rfl | contradiction | (rename_i h; simp at h; done) | trace_state
  · clear h
    obtain ⟨seen, E, k, n, ok, LL, hC⟩ := askC s (fun x hm => Nat.le_trans (h2 x hm).1 (by decide)) d u
    obtain ⟨c1, c6, c9, c10, z1, z2⟩ := hC
    skip
    by_cases h0 : seen = 0
    · replace c9 := c9 h0
      subst h0
      clear z1
      by_cases h1 : E = 0
      · replace c10 := c10 h1
        subst h1
        clear z2
        as_aux_lemma =>
         repeat' (first
           | (refine Split.mk (fun h => ?_) (fun h => ?_) <;> (try simp only [decide_eq_true_eq, decide_eq_false_iff_not, Bool.not_eq_true', Bool.not_eq_false', beq_iff_eq, beq_eq_false_iff_ne, bne_iff_ne, bne_eq_false_iff_eq] at h) <;> (first | (exfalso; first | omega | exact h trivial | contradiction | (simp_all [eqRes]; done)) | (conv => whnf)))
           | (refine CondG.mk (fun h => ?_) (fun h => ?_) <;> (try simp only [decide_eq_true_eq, decide_eq_false_iff_not, Bool.not_eq_true', Bool.not_eq_false', beq_iff_eq, beq_eq_false_iff_ne, bne_iff_ne, bne_eq_false_iff_eq] at h) <;> (first | (exfalso; first | omega | exact h trivial | contradiction | (simp_all [eqRes]; done)) | (conv => whnf)))
           | (refine CallX.mk _ _ (by first | exact c1 | exact c6 | exact c9 | exact c10 | exact blamed_pc) ?_; conv => whnf)
           | (refine CallG.mk _ _ (by first | exact c1 | exact c6 | exact c9 | exact c10 | exact blamed_pc) ?_; conv => whnf)
           | (refine Ask.mk (by first | omega | (unfold roomOK; simp [cutRows]; done) | (unfold roomOK; simp [cutRows]; omega) | (simp [cutRows]; done) | (simp [cutRows]; omega)) ?_; conv => whnf)
           | (refine AppG.mk (by first | omega | (unfold roomOK; simp [cutRows]; done) | (unfold roomOK; simp [cutRows]; omega) | (simp [cutRows]; done) | (simp [cutRows]; omega)) ?_; conv => whnf)
           | (refine SliceG.fr ?_; conv => whnf)
           | (refine idx_at _ (by with_reducible rfl) (by first | assumption | omega) ?_; conv => whnf)
           | ((with_reducible refine row_map (by first | assumption | omega) ?_); conv => whnf)
           | ((with_reducible refine row_set (by first | assumption | omega | (simp only [List.length_set]; omega) | (simp; omega)) ?_); conv => whnf)
           | fail)
         all_goals first | exact finb rfl | contradiction | (rename_i h; simp at h; done) | trace_state
      · obtain ⟨rfl, rfl, rfl⟩ := z2 h1
        as_aux_lemma =>
         repeat' (first
           | (refine Split.mk (fun h => ?_) (fun h => ?_) <;> (try simp only [decide_eq_true_eq, decide_eq_false_iff_not, Bool.not_eq_true', Bool.not_eq_false', beq_iff_eq, beq_eq_false_iff_ne, bne_iff_ne, bne_eq_false_iff_eq] at h) <;> (first | (exfalso; first | omega | exact h trivial | contradiction | (simp_all [eqRes]; done)) | (conv => whnf)))
           | (refine CondG.mk (fun h => ?_) (fun h => ?_) <;> (try simp only [decide_eq_true_eq, decide_eq_false_iff_not, Bool.not_eq_true', Bool.not_eq_false', beq_iff_eq, beq_eq_false_iff_ne, bne_iff_ne, bne_eq_false_iff_eq] at h) <;> (first | (exfalso; first | omega | exact h trivial | contradiction | (simp_all [eqRes]; done)) | (conv => whnf)))
           | (refine CallX.mk _ _ (by first | exact c1 | exact c6 | exact c9 | exact blamed_pc) ?_; conv => whnf)
           | (refine CallG.mk _ _ (by first | exact c1 | exact c6 | exact c9 | exact blamed_pc) ?_; conv => whnf)
           | (refine Ask.mk (by first | omega | (unfold roomOK; simp [cutRows]; done) | (unfold roomOK; simp [cutRows]; omega) | (simp [cutRows]; done) | (simp [cutRows]; omega)) ?_; conv => whnf)
           | (refine AppG.mk (by first | omega | (unfold roomOK; simp [cutRows]; done) | (unfold roomOK; simp [cutRows]; omega) | (simp [cutRows]; done) | (simp [cutRows]; omega)) ?_; conv => whnf)
           | (refine SliceG.fr ?_; conv => whnf)
           | (refine idx_at _ (by with_reducible rfl) (by first | assumption | omega) ?_; conv => whnf)
           | ((with_reducible refine row_map (by first | assumption | omega) ?_); conv => whnf)
           | ((with_reducible refine row_set (by first | assumption | omega | (simp only [List.length_set]; omega) | (simp; omega)) ?_); conv => whnf)
           | fail)
         all_goals first | exact finb rfl | contradiction | (rename_i h; simp at h; done) | trace_state
    · have hE := z1 h0
      subst hE
      obtain ⟨rfl, rfl, rfl⟩ := z2 h0
      as_aux_lemma =>
       repeat' (first
         | (refine Split.mk (fun h => ?_) (fun h => ?_) <;> (try simp only [decide_eq_true_eq, decide_eq_false_iff_not, Bool.not_eq_true', Bool.not_eq_false', beq_iff_eq, beq_eq_false_iff_ne, bne_iff_ne, bne_eq_false_iff_eq] at h) <;> (first | (exfalso; first | omega | exact h trivial | contradiction | (simp_all [eqRes]; done)) | (conv => whnf)))
         | (refine CondG.mk (fun h => ?_) (fun h => ?_) <;> (try simp only [decide_eq_true_eq, decide_eq_false_iff_not, Bool.not_eq_true', Bool.not_eq_false', beq_iff_eq, beq_eq_false_iff_ne, bne_iff_ne, bne_eq_false_iff_eq] at h) <;> (first | (exfalso; first | omega | exact h trivial | contradiction | (simp_all [eqRes]; done)) | (conv => whnf)))
         | (refine CallX.mk _ _ (by first | exact c1 | exact c6 | exact blamed_pc) ?_; conv => whnf)
         | (refine CallG.mk _ _ (by first | exact c1 | exact c6 | exact blamed_pc) ?_; conv => whnf)
         | (refine Ask.mk (by first | omega | (unfold roomOK; simp [cutRows]; done) | (unfold roomOK; simp [cutRows]; omega) | (simp [cutRows]; done) | (simp [cutRows]; omega)) ?_; conv => whnf)
         | (refine AppG.mk (by first | omega | (unfold roomOK; simp [cutRows]; done) | (unfold roomOK; simp [cutRows]; omega) | (simp [cutRows]; done) | (simp [cutRows]; omega)) ?_; conv => whnf)
         | (refine SliceG.fr ?_; conv => whnf)
         | (refine idx_at _ (by with_reducible rfl) (by first | assumption | omega) ?_; conv => whnf)
         | ((with_reducible refine row_map (by first | assumption | omega) ?_); conv => whnf)
         | ((with_reducible refine row_set (by first | assumption | omega | (simp only [List.length_set]; omega) | (simp; omega)) ?_); conv => whnf)
         | fail)
       all_goals first | exact finb rfl | contradiction | (rename_i h; simp at h; done) | trace_state
end Go.Proofs.YtameoookmgkmfaaGreat
