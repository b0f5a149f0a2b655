/- Parts of the proof, in order. -/
import Derived.Test.YteccacaonllceaaGreatDoorMRepairsOrdered2

/- What each element affects by itself, by the document; the law. -/
namespace Go.Proofs.YteccacaonllceaaGreatDoor
set_option linter.unusedVariables false
set_option linter.unusedSimpArgs false
open Abs

def stC (m : MN) (a b : ByteArray × ByteArray) : Int := sgn (IntKind.i64.wrap ((m.get b.1).getD 0 - (m.get a.1).getD 0))
set_option maxRecDepth 100000 in
set_option maxHeartbeats 4000000 in
theorem so2_pc (m : MN) (a b : ByteArray × ByteArray) : PCp 40 [.agg (encPs a), .agg (encPs b), .c (.ptr 0 0)] [.box [.mp 1], smO ekB evN m] (.c (.int .i64 (stC m a b))) [.box [.mp 1], smO ekB evN m] := by
  refine fn_sound (mt := mts) tab_fits tab_mixed Tryz.func40 (by rfl) (by kernel_rfl) (by kernel_rfl) Tryz.results40 (Nat.le_of_ble_eq_true (by kernel_rfl)) ?_
  conv => whnf
  repeat' (first
    | (refine Split.mk (fun h => ?_) (fun h => ?_) <;> (try simp only [decide_eq_true_eq, decide_eq_false_iff_not, Bool.not_eq_true', Bool.not_eq_false', beq_iff_eq, beq_eq_false_iff_ne, bne_iff_ne, bne_eq_false_iff_eq] at h) <;> (first | (exfalso; first | omega | exact h trivial) | (conv => whnf)))
    | (refine CondG.mk (fun h => ?_) (fun h => ?_) <;> (try simp only [decide_eq_true_eq, decide_eq_false_iff_not, Bool.not_eq_true', Bool.not_eq_false', beq_iff_eq, beq_eq_false_iff_ne, bne_iff_ne, bne_eq_false_iff_eq] at h) <;> (first | (exfalso; first | omega | exact h trivial) | (conv => whnf)))
    | (refine CallX.mk _ _ (by first | exact sign_pc _) ?_; conv => whnf)
    | (refine CallG.mk _ _ (by first | exact sign_pc _) ?_; conv => whnf)
    | (refine Ask.mk (by first | omega | (unfold roomOK; simp [cutRows]; done) | (unfold roomOK; simp [cutRows]; omega) | (simp [cutRows]; done) | (simp [cutRows]; omega)) ?_; conv => whnf)
    | (refine SliceG.fr ?_; conv => whnf)
    | (refine idx_at _ (by with_reducible rfl) (by first | assumption | omega) ?_; conv => whnf)
    | ((with_reducible refine row_map (by first | assumption | omega) ?_); conv => whnf)
    | ((with_reducible refine row_set (by first | assumption | omega | (simp only [List.length_set]; omega) | (simp; omega)) ?_); conv => whnf)
    | ((with_reducible refine sm_look (ek := ekB) (ev := evN) keyStr _ _ ((0 : Int)) ?_ ?_); exact rfl; conv => whnf)
    | ((with_reducible refine sm_upd (ek := ekB) (ev := evN) keyStr _ _ _ ?_); conv => whnf)
    | ((with_reducible refine sm_del (ek := ekB) (ev := evN) keyStr _ _ ?_); conv => whnf)
    | ((with_reducible refine sm_entry (ek := ekB) (ev := evN) keyStr _ _ ((0 : Int)) ?_ ?_); exact rfl; conv => whnf)
    | fail)
  exact .mk ⟨rfl, rfl⟩
set_option maxRecDepth 100000 in
set_option maxHeartbeats 4000000 in
theorem so1_pc (k : ByteArray) : PCp 38 [.c (.str k)] [] (.c (.bool true)) [] := by
  refine fn_sound (mt := mts) tab_fits tab_mixed Tryz.func38 (by rfl) (by kernel_rfl) (by kernel_rfl) Tryz.results38 (Nat.le_of_ble_eq_true (by kernel_rfl)) ?_
  conv => whnf
  exact .mk ⟨rfl, rfl⟩
set_option maxRecDepth 100000 in
set_option maxHeartbeats 4000000 in
theorem insPr_pc (m : MN) (g : Nat) (c : (ByteArray × ByteArray) → (ByteArray × ByteArray) → Int) (hg : ∀ x y : (ByteArray × ByteArray), PCp g [.agg (encPs x), .agg (encPs y), .c (.ptr 0 0)] [.box [.mp 1], smO ekB evN m] (.c (.int .i64 (c x y))) [.box [.mp 1], smO ekB evN m]) (a b : Nat) (l : List (ByteArray × ByteArray)) (ha : a ≤ l.length) (hb : b ≤ l.length) (hl : l.length ≤ 1000000000) :
    PCp 80 [.c (.row 0), .c (.int .i64 a), .c (.int .i64 b), .c (.fn g [.ptr 1 0])] [.row 44 2 (l.map encPs), .box [.mp 2], smO ekB evN m] (.tup []) [.row 44 2 ((insTo c a (b - (a + 1)) l).map encPs), .box [.mp 2], smO ekB evN m] := by
  have hw : IntKind.i64.wrap ((a : Int) + 1) = ((a + 1 : Nat) : Int) := by rw [wrap_in (by omega) (by omega)]; rfl
  refine fn_sound (mt := mts) tab_fits tab_mixed Tryz.func80 (by rfl) (by kernel_rfl) (by kernel_rfl) Tryz.results80 (Nat.le_of_ble_eq_true (by kernel_rfl)) ?_
  conv => whnf
  rw [hw]
  refine loop_count (b - (a + 1)) [] [0, 1, 2, 3, 8] (fun k (_ : Unit) => ⟨[(0, .c (.row 0)), (1, .c (.int .i64 a)), (2, .c (.int .i64 b)), (3, .c (.fn g [.ptr 1 0])), (8, .c (.int .i64 ((a + 1 + k : Nat) : Int)))], [(0, .row 44 2 ((insTo c a k l).map encPs)), (1, .box [.mp 2]), (2, smO ekB evN m)], 3⟩) (fun k (_ : Unit) => True) (()) ?_ ?_ ?_
  · conv => whnf
    exact ⟨rfl, trivial⟩
  · intro k _ hk _
    have hlen := insTo_len c a k l
    conv => whnf
    refine .mk (fun h => ?_) (fun h => ?_)
    rotate_left
    · simp at h; omega
    conv => whnf
    refine loop_meas2 (fun (j : Nat) (q : List (ByteArray × ByteArray)) => j) [] [0, 1, 2, 3, 8, 9] (fun (j : Nat) (q : List (ByteArray × ByteArray)) => ⟨[(0, .c (.row 0)), (1, .c (.int .i64 a)), (2, .c (.int .i64 b)), (3, .c (.fn g [.ptr 1 0])), (8, .c (.int .i64 ((a + 1 + k : Nat) : Int))), (9, .c (.int .i64 ((j : Nat) : Int)))], [(0, .row 44 2 (q.map encPs)), (1, .box [.mp 2]), (2, smO ekB evN m)], 3⟩) (fun (j : Nat) (q : List (ByteArray × ByteArray)) => insDown c a j q = insTo c a (k + 1) l ∧ j < l.length ∧ q.length = l.length) (a + 1 + k) (insTo c a k l) ?_ ?_
    · conv => whnf
      exact ⟨rfl, rfl, by omega, by omega⟩
    · intro j q ⟨h1, h2, h3⟩
      conv => whnf
      repeat' (first
        | (refine Split.mk (fun h => ?_) (fun h => ?_) <;> (try simp only [decide_eq_true_eq, decide_eq_false_iff_not, Bool.not_eq_true', Bool.not_eq_false', beq_iff_eq, beq_eq_false_iff_ne] at h) <;> (first | (exfalso; first | omega | exact h trivial) | (conv => whnf)))
        | (refine CondG.mk (fun h => ?_) (fun h => ?_) <;> (try simp only [decide_eq_true_eq, decide_eq_false_iff_not, Bool.not_eq_true', Bool.not_eq_false', beq_iff_eq, beq_eq_false_iff_ne] at h) <;> (first | (exfalso; first | omega | exact h trivial) | (conv => whnf)))
        | (refine Ask.mk (by first | omega | (unfold roomOK; simp [cutRows]; done) | (unfold roomOK; simp [cutRows]; omega)) ?_; conv => whnf)
        | (refine SliceG.fr ?_; conv => whnf)
        | fail)
      · -- one more to the left?
        obtain ⟨i, rfl⟩ : ∃ i, j = i + 1 := ⟨j - 1, by omega⟩
        have hw2 : IntKind.i64.wrap (((i + 1 : Nat) : Int) - 1) = ((i : Nat) : Int) := by rw [wrap_in (by omega) (by omega)]; omega
        refine .mk (by rw [List.length_map]; omega) ?_
        conv => whnf
        refine row_at (i + 1) toN (by omega) ?_
        conv => whnf
        rw [hw2]
        refine .mk (by rw [List.length_map]; omega) ?_
        conv => whnf
        refine row_at i toN (by omega) ?_
        conv => whnf
        repeat' (first
          | (refine Split.mk (fun h => ?_) (fun h => ?_) <;> (try simp only [decide_eq_true_eq, decide_eq_false_iff_not, Bool.not_eq_true', Bool.not_eq_false', beq_iff_eq, beq_eq_false_iff_ne] at h) <;> (first | (exfalso; first | omega | exact h trivial) | (conv => whnf)))
          | (refine CondG.mk (fun h => ?_) (fun h => ?_) <;> (try simp only [decide_eq_true_eq, decide_eq_false_iff_not, Bool.not_eq_true', Bool.not_eq_false', beq_iff_eq, beq_eq_false_iff_ne] at h) <;> (first | (exfalso; first | omega | exact h trivial) | (conv => whnf)))
          | (refine CallX.mk _ _ (by first | exact hg _ _) ?_; conv => whnf)
          | (refine CallG.mk _ _ (by first | exact hg _ _) ?_; conv => whnf)
          | (refine Ask.mk (by first | omega | (unfold roomOK; simp [cutRows]; done) | (unfold roomOK; simp [cutRows]; omega)) ?_; conv => whnf)
          | (refine SliceG.fr ?_; conv => whnf)
          | fail)
        · rw [insDown_step (by omega) (by omega) h] at h1
          repeat' (first
            | (refine Split.mk (fun h => ?_) (fun h => ?_) <;> (try simp only [decide_eq_true_eq, decide_eq_false_iff_not, Bool.not_eq_true', Bool.not_eq_false', beq_iff_eq, beq_eq_false_iff_ne] at h) <;> (first | (exfalso; first | omega | exact h trivial) | (conv => whnf)))
            | (refine CondG.mk (fun h => ?_) (fun h => ?_) <;> (try simp only [decide_eq_true_eq, decide_eq_false_iff_not, Bool.not_eq_true', Bool.not_eq_false', beq_iff_eq, beq_eq_false_iff_ne] at h) <;> (first | (exfalso; first | omega | exact h trivial) | (conv => whnf)))
            | (refine Ask.mk (by first | omega | (unfold roomOK; simp [cutRows]; done) | (unfold roomOK; simp [cutRows]; omega)) ?_; conv => whnf)
            | (refine SliceG.fr ?_; conv => whnf)
            | fail)
          rw [hw2]
          refine .mk (by rw [List.length_map]; omega) ?_
          conv => whnf
          refine row_at i toN (by omega) ?_
          conv => whnf
          refine .mk (by rw [List.length_map]; omega) ?_
          conv => whnf
          refine row_at (i + 1) toN (by omega) ?_
          conv => whnf
          refine .mk (by rw [List.length_map]; omega) ?_
          conv => whnf
          refine row_at (i + 1) toN (by omega) ?_
          conv => whnf
          refine .mk (by rw [List.length_set, List.length_map]; omega) ?_
          conv => whnf
          refine .mk (encPs (q[i]'(by omega))) (by rw [toN, toN, List.getElem?_set_ne (by omega)]; simp [show i < q.length by omega]) ?_
          conv => whnf
          refine meas_next (i, (q.set (i + 1) (q[i]'(by omega))).set i (q[i + 1]'(by omega))) (by simp only; omega) (by rw [toN, toN, hw2]; simp only [List.map_set]; rfl) ⟨h1, by simp only; omega, by simp [h3]⟩
        · rw [insDown_stop (by omega) h] at h1
          conv => whnf
          refine count_next () hk (by rw [h1, show IntKind.i64.wrap (((a + 1 + k : Nat) : Int) + 1) = ((a + 1 + (k + 1) : Nat) : Int) by rw [wrap_in (by omega) (by omega)]; omega]; rfl) trivial
      · rw [insDown_low (by omega)] at h1
        refine count_next () hk (by rw [h1, show IntKind.i64.wrap (((a + 1 + k : Nat) : Int) + 1) = ((a + 1 + (k + 1) : Nat) : Int) by rw [wrap_in (by omega) (by omega)]; omega]; rfl) trivial
  · intro _ _
    have hlen := insTo_len c a (b - (a + 1)) l
    conv => whnf
    repeat' (first
      | (refine Split.mk (fun h => ?_) (fun h => ?_) <;> (try simp only [decide_eq_true_eq, decide_eq_false_iff_not, Bool.not_eq_true', Bool.not_eq_false', beq_iff_eq, beq_eq_false_iff_ne] at h) <;> (first | (exfalso; first | omega | exact h trivial) | (conv => whnf)))
      | (refine CondG.mk (fun h => ?_) (fun h => ?_) <;> (try simp only [decide_eq_true_eq, decide_eq_false_iff_not, Bool.not_eq_true', Bool.not_eq_false', beq_iff_eq, beq_eq_false_iff_ne] at h) <;> (first | (exfalso; first | omega | exact h trivial) | (conv => whnf)))
      | (refine Ask.mk (by first | omega | (unfold roomOK; simp [cutRows]; done) | (unfold roomOK; simp [cutRows]; omega)) ?_; conv => whnf)
      | (refine SliceG.fr ?_; conv => whnf)
      | fail)
    exact .mk ⟨rfl, rfl⟩
set_option maxRecDepth 100000 in
set_option maxHeartbeats 4000000 in
theorem stPr_pc (m : MN) (g : Nat) (c : (ByteArray × ByteArray) → (ByteArray × ByteArray) → Int) (hg : ∀ x y : (ByteArray × ByteArray), PCp g [.agg (encPs x), .agg (encPs y), .c (.ptr 0 0)] [.box [.mp 1], smO ekB evN m] (.c (.int .i64 (c x y))) [.box [.mp 1], smO ekB evN m]) (l : List (ByteArray × ByteArray)) (hl : l.length < 20) :
    PCp 39 [.c (.row 0), .c (.fn g [.ptr 1 0])] [.row 44 2 (l.map encPs), .box [.mp 2], smO ekB evN m] (.tup []) [.row 44 2 ((insSort c l).map encPs), .box [.mp 2], smO ekB evN m] := by
  have hlm : (l.map encPs).length = l.length := List.length_map ..
  have hst : PCp 60 [.c (.row 0), .c (.int .i64 l.length), .c (.fn g [.ptr 1 0])] [.row 44 2 (l.map encPs), .box [.mp 2], smO ekB evN m] (.tup []) [.row 44 2 ((insSort c l).map encPs), .box [.mp 2], smO ekB evN m] := by
    refine fn_sound (mt := mts) tab_fits tab_mixed Tryz.func60 (by rfl) (by kernel_rfl) (by kernel_rfl) Tryz.results60 (Nat.le_of_ble_eq_true (by kernel_rfl)) ?_
    conv => whnf
    refine .un 1 ?_
    conv => whnf
    repeat' (first
      | (refine Split.mk (fun h => ?_) (fun h => ?_) <;> (try simp only [decide_eq_true_eq, decide_eq_false_iff_not, Bool.not_eq_true', Bool.not_eq_false', beq_iff_eq, beq_eq_false_iff_ne] at h) <;> (first | (exfalso; first | omega | exact h trivial) | (conv => whnf)))
      | (refine CondG.mk (fun h => ?_) (fun h => ?_) <;> (try simp only [decide_eq_true_eq, decide_eq_false_iff_not, Bool.not_eq_true', Bool.not_eq_false', beq_iff_eq, beq_eq_false_iff_ne] at h) <;> (first | (exfalso; first | omega | exact h trivial) | (conv => whnf)))
      | (refine Ask.mk (by first | omega | (unfold roomOK; simp [cutRows]; done) | (unfold roomOK; simp [cutRows]; omega)) ?_; conv => whnf)
      | (refine SliceG.fr ?_; conv => whnf)
      | fail)
    refine .mk _ _ (insPr_pc m g c hg 0 l.length l (Nat.zero_le _) (Nat.le_refl _) (by omega)) ?_
    conv => whnf
    refine .un 1 ?_
    conv => whnf
    repeat' (first
      | (refine Split.mk (fun h => ?_) (fun h => ?_) <;> (try simp only [decide_eq_true_eq, decide_eq_false_iff_not, Bool.not_eq_true', Bool.not_eq_false', beq_iff_eq, beq_eq_false_iff_ne] at h) <;> (first | (exfalso; first | omega | exact h trivial) | (conv => whnf)))
      | (refine CondG.mk (fun h => ?_) (fun h => ?_) <;> (try simp only [decide_eq_true_eq, decide_eq_false_iff_not, Bool.not_eq_true', Bool.not_eq_false', beq_iff_eq, beq_eq_false_iff_ne] at h) <;> (first | (exfalso; first | omega | exact h trivial) | (conv => whnf)))
      | (refine Ask.mk (by first | omega | (unfold roomOK; simp [cutRows]; done) | (unfold roomOK; simp [cutRows]; omega)) ?_; conv => whnf)
      | (refine SliceG.fr ?_; conv => whnf)
      | fail)
    exact .mk ⟨rfl, rfl⟩
  refine fn_sound (mt := mts) tab_fits tab_mixed Tryz.func39 (by rfl) (by kernel_rfl) (by kernel_rfl) Tryz.results39 (Nat.le_of_ble_eq_true (by kernel_rfl)) ?_
  conv => whnf
  rw [hlm]
  repeat' (first
    | (refine Split.mk (fun h => ?_) (fun h => ?_) <;> (try simp only [decide_eq_true_eq, decide_eq_false_iff_not, Bool.not_eq_true', Bool.not_eq_false', beq_iff_eq, beq_eq_false_iff_ne] at h) <;> (first | (exfalso; first | omega | exact h trivial) | (conv => whnf)))
    | (refine CondG.mk (fun h => ?_) (fun h => ?_) <;> (try simp only [decide_eq_true_eq, decide_eq_false_iff_not, Bool.not_eq_true', Bool.not_eq_false', beq_iff_eq, beq_eq_false_iff_ne] at h) <;> (first | (exfalso; first | omega | exact h trivial) | (conv => whnf)))
    | (refine CallX.mk _ _ (by first | exact hst) ?_; conv => whnf)
    | (refine CallG.mk _ _ (by first | exact hst) ?_; conv => whnf)
    | (refine Ask.mk (by first | omega | (unfold roomOK; simp [cutRows]; done) | (unfold roomOK; simp [cutRows]; omega)) ?_; conv => whnf)
    | (refine SliceG.fr ?_; conv => whnf)
    | fail)
  exact .mk ⟨rfl, rfl⟩
def wtM (s : List Sv) (l : List ByteArray) : MN := l.foldl (fun m e => m.put e (affN s [e])) SM.nil
theorem wtM_succ (s : List Sv) (l : List ByteArray) {k : Nat} (h : k < l.length) : wtM s (l.take (k + 1)) = (wtM s (l.take k)).put l[k] (affN s [l[k]]) := by
  unfold wtM; rw [List.take_succ_eq_append_getElem h, List.foldl_append]; rfl
theorem wtM_get (s : List Sv) (x : ByteArray) : ∀ l : List ByteArray, x ∈ l → ((wtM s l).get x).getD 0 = affN s [x] := by
  refine rev_ind (by simp) ?_
  intro l e ih hx
  have h1 : wtM s (l ++ [e]) = (wtM s l).put e (affN s [e]) := by unfold wtM; rw [List.foldl_append]; rfl
  rw [h1, SM.get_put]
  by_cases h : e = x
  · rw [if_pos h, h]; rfl
  · rw [if_neg h]
    refine ih ?_
    rcases List.mem_append.1 hx with h2 | h2
    · exact h2
    · simp at h2; exact absurd h2.symm h
theorem els_names (s : List Sv) : (elsV s fun _ => true).Perm (nmS (prsOf s)) := by
  refine perm_of_nodup (rise_nd (elsV_rise s _)) (nmS_nd _) fun x => ?_
  rw [elsV_mem, nmS_mem]
  unfold elsAll prsOf
  rw [List.mem_flatMap]
  constructor
  · rintro ⟨y, hy, hx⟩
    exact ⟨(x, y.cust), List.mem_flatMap.2 ⟨y, (List.mem_filter.1 hy).1, List.mem_map.2 ⟨x, hx, rfl⟩⟩, rfl⟩
  · rintro ⟨p, hp, rfl⟩
    obtain ⟨y, hy, hp⟩ := List.mem_flatMap.1 hp
    obtain ⟨e, he, rfl⟩ := List.mem_map.1 hp
    exact ⟨y, List.mem_filter.2 ⟨hy, rfl⟩, he⟩
theorem stable_eq {s : List Sv} (hb : ∀ e, 0 ≤ affN s [e] ∧ affN s [e] ≤ 100000000000) (m : MN) (hm : ∀ x ∈ elsV s (fun _ => true), (m.get x).getD 0 = affN s [x]) :
    insSort (stC m) ((elsV s fun _ => true).map fun e => (e, itoaB (affN s [e]))) = prV s := by
  have hr := elsV_rise s fun _ => true
  have hp := els_names s
  generalize elsV s (fun _ => true) = E at hr hp hm
  have h1 : insSort (stC m) (E.map fun e => (e, itoaB (affN s [e]))) = insSort (fun a b => sgC (fun e => affN s [e]) a.1 b.1) (E.map fun e => (e, itoaB (affN s [e]))) := by
    refine insSort_congr ?_
    intro i j hi hj
    rw [List.length_map] at hj
    simp only [List.getElem_map]
    unfold stC sgC firstErr firstErr firstErr
    rw [hm _ (List.getElem_mem _), hm _ (List.getElem_mem _)]
    have b1 := hb E[i]
    have b2 := hb E[j]
    have hlt := hr.at hi hj
    simp only [id] at hlt
    have hn : ¬ cmpS E[j] E[i] < 0 := by rw [cmp_lt, ltB_asym hlt]; decide
    rw [sgn_sub (by omega) (by omega)]
    by_cases q : cmpI (affN s [E[i]]) (affN s [E[j]]) = 0
    · rw [q, if_pos rfl]
      constructor
      · intro h; omega
      · intro h; split at h <;> omega
    · rw [if_neg q]
  rw [h1]
  generalize hL : insSort (fun a b : ByteArray × ByteArray => sgC (fun e => affN s [e]) a.1 b.1) (E.map fun e => (e, itoaB (affN s [e]))) = L2
  have hswo : SWOc fun a b : ByteArray × ByteArray => sgC (fun e => affN s [e]) a.1 b.1 := by
    have := (sgC_cmp fun e => affN s [e]).swo
    exact ⟨fun x => this.irrefl x.1, fun x y z => this.trans x.1 y.1 z.1, fun x y z => this.ntrans x.1 y.1 z.1⟩
  have hp2 : L2.Perm (E.map fun e => (e, itoaB (affN s [e]))) := by rw [← hL]; exact insSort_perm ..
  have hs2 := insSort_srt hswo (E.map fun e => (e, itoaB (affN s [e])))
  rw [hL] at hs2
  have hfst : L2.map (·.1) = sgV s := by
    refine sgC_one (w := fun e => affN s [e]) ?_ ?_ ?_
    · have := hp2.map (·.1)
      rw [List.map_map] at this
      have e : ((·.1) ∘ fun e : ByteArray => (e, itoaB (affN s [e]))) = id := rfl
      rw [e, List.map_id] at this
      unfold sgV
      exact this.trans (hp.trans (insSort_perm ..).symm)
    · rw [List.pairwise_map]; exact hs2
    · unfold sgV; exact insSort_srt (sgC_cmp _).swo _
  unfold prV
  rw [← hfst, List.map_map]
  conv => lhs; rw [← List.map_id L2]
  apply List.map_congr_left
  intro q hq
  obtain ⟨e, _, rfl⟩ := List.mem_map.1 (hp2.mem_iff.1 hq)
  rfl
set_option maxRecDepth 100000 in
set_option maxHeartbeats 4000000 in
theorem singleOf_pc (s : List Sv) (hs : SvOk s) (hN : ∀ x ∈ s, ∀ e ∈ x.els, e ∈ svNames) :
    PCp 12 [.c (.lst 3 (s.map encSv))] [] (.c (.lst 2 ((prV s).map encPs))) [] := by
  have hsl := hs.len
  have hsm : (s.map encSv).length = s.length := List.length_map ..
  have hx : ∀ x ∈ s, (1 ≤ x.cust ∧ x.cust ≤ 100000) ∧ x.els.length ≤ 1000000 := fun x hx => ⟨(hs.each x hx).cust, Nat.le_trans (hs.each x hx).len (by decide)⟩
  have haf : ∀ e, 0 ≤ affN s [e] ∧ affN s [e] ≤ 100000 * s.length := fun e => affN_in (fun x hm => (hs.each x hm).cust) [e]
  have hit : ∀ e, 0 ≤ affN s [e] ∧ affN s [e] ≤ 50000000 := fun e => by have := haf e; omega
  have hel : (elsV s fun _ => true).length ≤ 10 := by rw [(els_names s).length_eq]; exact nms_few hN
  have hst := stable_eq (s := s) (fun e => by have := hit e; omega) (wtM s (elsV s fun _ => true)) (fun x hx => wtM_get s x _ hx)
  refine fn_sound (mt := mts) tab_fits tab_mixed Tryz.func12 (by rfl) (by kernel_rfl) (by kernel_rfl) Tryz.results12 (Nat.le_of_ble_eq_true (by kernel_rfl)) ?_
  conv => whnf
  repeat' (first
    | (refine Split.mk (fun h => ?_) (fun h => ?_) <;> (try simp only [decide_eq_true_eq, decide_eq_false_iff_not, Bool.not_eq_true', Bool.not_eq_false', beq_iff_eq, beq_eq_false_iff_ne, bne_iff_ne, bne_eq_false_iff_eq] at h) <;> (first | (exfalso; first | omega | exact h trivial) | (conv => whnf)))
    | (refine CondG.mk (fun h => ?_) (fun h => ?_) <;> (try simp only [decide_eq_true_eq, decide_eq_false_iff_not, Bool.not_eq_true', Bool.not_eq_false', beq_iff_eq, beq_eq_false_iff_ne, bne_iff_ne, bne_eq_false_iff_eq] at h) <;> (first | (exfalso; first | omega | exact h trivial) | (conv => whnf)))
    | (refine CallX.mk _ _ (by first | exact rEls_pc 38 (fun _ => true) (fun k => so1_pc k) s (by omega) (fun x hm => Nat.le_trans (hs.each x hm).len (by decide))) ?_; conv => whnf)
    | (refine CallG.mk _ _ (by first | exact rEls_pc 38 (fun _ => true) (fun k => so1_pc k) s (by omega) (fun x hm => Nat.le_trans (hs.each x hm).len (by decide))) ?_; conv => whnf)
    | (refine Ask.mk (by first | omega | (unfold roomOK; simp [cutRows]; done) | (unfold roomOK; simp [cutRows]; omega) | (simp [cutRows]; done) | (simp [cutRows]; omega)) ?_; conv => whnf)
    | (refine SliceG.fr ?_; conv => whnf)
    | (refine idx_at _ (by with_reducible rfl) (by first | assumption | omega) ?_; conv => whnf)
    | ((with_reducible refine row_map (by first | assumption | omega) ?_); conv => whnf)
    | ((with_reducible refine row_set (by first | assumption | omega | (simp only [List.length_set]; omega) | (simp; omega)) ?_); conv => whnf)
    | fail)
  generalize elsV s (fun _ => true) = E at hel hst
  have hem : (E.map encS).length = E.length := List.length_map ..
  refine loop_for (E.length) [.sl 3 44 2] [0, 3, 4, 11, 12, 13] (fun k (_ : Unit) => [(13, .c (.int .i64 (k : Int)))]) (fun k (_ : Unit) => [(0, .row 44 2 (((E.take k).map fun e => (e, itoaB (affN s [e]))).map encPs)), (2, smO ekB evN (wtM s (E.take k)))]) (fun k (_ : Unit) => True) (()) ?_
  conv => whnf
  refine ⟨(by first | rfl | (simp; done) | (simp; rfl)), (by trivial), ?_, ?_⟩
  · intro k _ hk _
    have hbe := haf E[k]
    have hol : (((E.take k).map fun e => (e, itoaB (affN s [e]))).map encPs).length = k := by simp; omega
    conv => whnf
    repeat' (first
      | (refine Split.mk (fun h => ?_) (fun h => ?_) <;> (try simp only [decide_eq_true_eq, decide_eq_false_iff_not, Bool.not_eq_true', Bool.not_eq_false', beq_iff_eq, beq_eq_false_iff_ne, bne_iff_ne, bne_eq_false_iff_eq] at h) <;> (first | (exfalso; first | omega | exact h trivial) | (conv => whnf)))
      | (refine CondG.mk (fun h => ?_) (fun h => ?_) <;> (try simp only [decide_eq_true_eq, decide_eq_false_iff_not, Bool.not_eq_true', Bool.not_eq_false', beq_iff_eq, beq_eq_false_iff_ne, bne_iff_ne, bne_eq_false_iff_eq] at h) <;> (first | (exfalso; first | omega | exact h trivial) | (conv => whnf)))
      | (refine CallX.mk _ _ (by first | exact rAffected_pc s (by omega) hx [E[k]] (by simp) | exact itoa_pc _ (Int.le_trans (by decide) (hit _).1) (Int.le_trans (hit _).2 (by decide))) ?_; conv => whnf)
      | (refine CallG.mk _ _ (by first | exact rAffected_pc s (by omega) hx [E[k]] (by simp) | exact itoa_pc _ (Int.le_trans (by decide) (hit _).1) (Int.le_trans (hit _).2 (by decide))) ?_; conv => whnf)
      | (refine Ask.mk (by first | omega | (unfold roomOK; simp [cutRows]; done) | (unfold roomOK; simp [cutRows]; omega) | (simp [cutRows]; done) | (simp [cutRows]; omega)) ?_; conv => whnf)
      | (refine SliceG.fr ?_; conv => whnf)
      | (refine idx_at _ (by with_reducible rfl) (by first | assumption | omega) ?_; conv => whnf)
      | ((with_reducible refine row_map (by first | assumption | omega) ?_); conv => whnf)
      | ((with_reducible refine row_set (by first | assumption | omega | (simp only [List.length_set]; omega) | (simp; omega)) ?_); conv => whnf)
      | ((with_reducible refine sm_look (ek := ekB) (ev := evN) keyStr _ _ ((0 : Int)) ?_ ?_); exact rfl; conv => whnf)
      | ((with_reducible refine sm_upd (ek := ekB) (ev := evN) keyStr _ _ _ ?_); conv => whnf)
      | ((with_reducible refine sm_del (ek := ekB) (ev := evN) keyStr _ _ ?_); conv => whnf)
      | ((with_reducible refine sm_entry (ek := ekB) (ev := evN) keyStr _ _ ((0 : Int)) ?_ ?_); exact rfl; conv => whnf)
      | fail)
    exact count_next () hk (by rw [wrap_succ hk (by omega), wtM_succ s E hk, List.take_succ_eq_append_getElem hk, List.map_append, List.map_append]; rfl) trivial
  · intro _ _
    rw [List.take_length]
    conv => whnf
    repeat' (first
      | (refine Split.mk (fun h => ?_) (fun h => ?_) <;> (try simp only [decide_eq_true_eq, decide_eq_false_iff_not, Bool.not_eq_true', Bool.not_eq_false', beq_iff_eq, beq_eq_false_iff_ne, bne_iff_ne, bne_eq_false_iff_eq] at h) <;> (first | (exfalso; first | omega | exact h trivial) | (conv => whnf)))
      | (refine CondG.mk (fun h => ?_) (fun h => ?_) <;> (try simp only [decide_eq_true_eq, decide_eq_false_iff_not, Bool.not_eq_true', Bool.not_eq_false', beq_iff_eq, beq_eq_false_iff_ne, bne_iff_ne, bne_eq_false_iff_eq] at h) <;> (first | (exfalso; first | omega | exact h trivial) | (conv => whnf)))
      | (refine CallX.mk _ _ (by first | exact stPr_pc (wtM s E) 40 (stC (wtM s E)) (fun x y => so2_pc _ x y) (E.map fun e => (e, itoaB (affN s [e]))) (by rw [List.length_map]; omega)) ?_; conv => whnf)
      | (refine CallG.mk _ _ (by first | exact stPr_pc (wtM s E) 40 (stC (wtM s E)) (fun x y => so2_pc _ x y) (E.map fun e => (e, itoaB (affN s [e]))) (by rw [List.length_map]; omega)) ?_; conv => whnf)
      | (refine Ask.mk (by first | omega | (unfold roomOK; simp [cutRows]; done) | (unfold roomOK; simp [cutRows]; omega) | (simp [cutRows]; done) | (simp [cutRows]; omega)) ?_; conv => whnf)
      | (refine SliceG.fr ?_; conv => whnf)
      | (refine idx_at _ (by with_reducible rfl) (by first | assumption | omega) ?_; conv => whnf)
      | ((with_reducible refine row_map (by first | assumption | omega) ?_); conv => whnf)
      | ((with_reducible refine row_set (by first | assumption | omega | (simp only [List.length_set]; omega) | (simp; omega)) ?_); conv => whnf)
      | fail)
    rw [hst]
    first
      | exact .frz 0 _ _ _ rfl (.weak [_] (.fro 0 _ _ rfl) rfl (Nat.le_refl _))
      | exact .frz 0 _ _ _ rfl (.weak [_, _] (.fro 0 _ _ rfl) rfl (Nat.le_refl _))
end Go.Proofs.YteccacaonllceaaGreatDoor

/- The law of repairs. -/
namespace Go.Proofs.YteccacaonllceaaGreatDoor
set_option linter.unusedVariables false
set_option linter.unusedSimpArgs false
open Abs

set_option maxRecDepth 100000 in
set_option maxHeartbeats 4000000 in
theorem eqPsS_pc (l : List (ByteArray × ByteArray)) (hl : l.length ≤ 1000000) : PCp 14 [.c (.lst 2 (l.map encPs)), .c (.lst 2 (l.map encPs))] [] (.c (.bool true)) [] := by
  have hlm : (l.map encPs).length = l.length := List.length_map ..
  refine fn_sound (mt := mts) tab_fits tab_mixed Tryz.func14 (by rfl) (by kernel_rfl) (by kernel_rfl) Tryz.results14 (Nat.le_of_ble_eq_true (by kernel_rfl)) ?_
  conv => whnf
  repeat' (first
    | (refine Split.mk (fun h => ?_) (fun h => ?_) <;> (try simp only [decide_eq_true_eq, decide_eq_false_iff_not, Bool.not_eq_true', Bool.not_eq_false', beq_iff_eq, beq_eq_false_iff_ne, bne_iff_ne, bne_eq_false_iff_eq] at h) <;> (first | (exfalso; first | omega | exact h trivial | contradiction | (simp_all [eqRes]; done)) | (conv => whnf)))
    | (refine CondG.mk (fun h => ?_) (fun h => ?_) <;> (try simp only [decide_eq_true_eq, decide_eq_false_iff_not, Bool.not_eq_true', Bool.not_eq_false', beq_iff_eq, beq_eq_false_iff_ne, bne_iff_ne, bne_eq_false_iff_eq] at h) <;> (first | (exfalso; first | omega | exact h trivial | contradiction | (simp_all [eqRes]; done)) | (conv => whnf)))
    | (refine Ask.mk (by first | omega | (unfold roomOK; simp [cutRows]; done) | (unfold roomOK; simp [cutRows]; omega) | (simp [cutRows]; done) | (simp [cutRows]; omega)) ?_; conv => whnf)
    | (refine SliceG.fr ?_; conv => whnf)
    | (refine idx_at _ (by with_reducible rfl) (by first | assumption | omega) ?_; conv => whnf)
    | ((with_reducible refine row_map (by first | assumption | omega) ?_); conv => whnf)
    | ((with_reducible refine row_set (by first | assumption | omega | (simp only [List.length_set]; omega) | (simp; omega)) ?_); conv => whnf)
    | fail)
  refine loop_for (l.length) [] [0, 1, 12, 13] (fun k (_ : Unit) => [(13, .c (.int .i64 (k : Int)))]) (fun k (_ : Unit) => []) (fun k (_ : Unit) => True) (()) ?_
  conv => whnf
  refine ⟨(by first | rfl | (simp; done) | (simp; rfl)), (by trivial), ?_, ?_⟩
  · intro k _ hk _
    conv => whnf
    repeat' (first
      | (refine Split.mk (fun h => ?_) (fun h => ?_) <;> (try simp only [decide_eq_true_eq, decide_eq_false_iff_not, Bool.not_eq_true', Bool.not_eq_false', beq_iff_eq, beq_eq_false_iff_ne, bne_iff_ne, bne_eq_false_iff_eq] at h) <;> (first | (exfalso; first | omega | exact h trivial | contradiction | (simp_all [eqRes]; done)) | (conv => whnf)))
      | (refine CondG.mk (fun h => ?_) (fun h => ?_) <;> (try simp only [decide_eq_true_eq, decide_eq_false_iff_not, Bool.not_eq_true', Bool.not_eq_false', beq_iff_eq, beq_eq_false_iff_ne, bne_iff_ne, bne_eq_false_iff_eq] at h) <;> (first | (exfalso; first | omega | exact h trivial | contradiction | (simp_all [eqRes]; done)) | (conv => whnf)))
      | (refine Ask.mk (by first | omega | (unfold roomOK; simp [cutRows]; done) | (unfold roomOK; simp [cutRows]; omega) | (simp [cutRows]; done) | (simp [cutRows]; omega)) ?_; conv => whnf)
      | (refine SliceG.fr ?_; conv => whnf)
      | (refine idx_at _ (by with_reducible rfl) (by first | assumption | omega) ?_; conv => whnf)
      | ((with_reducible refine row_map (by first | assumption | omega) ?_); conv => whnf)
      | ((with_reducible refine row_set (by first | assumption | omega | (simp only [List.length_set]; omega) | (simp; omega)) ?_); conv => whnf)
      | fail)
    all_goals exact count_next () hk (by rw [wrap_succ hk (by omega)]; rfl) trivial
  · intro _ _
    conv => whnf
    repeat' (first
      | (refine Split.mk (fun h => ?_) (fun h => ?_) <;> (try simp only [decide_eq_true_eq, decide_eq_false_iff_not, Bool.not_eq_true', Bool.not_eq_false', beq_iff_eq, beq_eq_false_iff_ne, bne_iff_ne, bne_eq_false_iff_eq] at h) <;> (first | (exfalso; first | omega | exact h trivial | contradiction | (simp_all [eqRes]; done)) | (conv => whnf)))
      | (refine CondG.mk (fun h => ?_) (fun h => ?_) <;> (try simp only [decide_eq_true_eq, decide_eq_false_iff_not, Bool.not_eq_true', Bool.not_eq_false', beq_iff_eq, beq_eq_false_iff_ne, bne_iff_ne, bne_eq_false_iff_eq] at h) <;> (first | (exfalso; first | omega | exact h trivial | contradiction | (simp_all [eqRes]; done)) | (conv => whnf)))
      | (refine Ask.mk (by first | omega | (unfold roomOK; simp [cutRows]; done) | (unfold roomOK; simp [cutRows]; omega) | (simp [cutRows]; done) | (simp [cutRows]; omega)) ?_; conv => whnf)
      | (refine SliceG.fr ?_; conv => whnf)
      | (refine idx_at _ (by with_reducible rfl) (by first | assumption | omega) ?_; conv => whnf)
      | ((with_reducible refine row_map (by first | assumption | omega) ?_); conv => whnf)
      | ((with_reducible refine row_set (by first | assumption | omega | (simp only [List.length_set]; omega) | (simp; omega)) ?_); conv => whnf)
      | fail)
    all_goals exact .mk ⟨rfl, rfl⟩
theorem eqPsN : PCp 14 [.c (.lst 2 []), .c .nils] [] (.c (.bool true)) [] := (eqPsS_pc [] (by simp)).wk (P2.cons (.refl _) (P2.cons (.c (.nils 2)) P2.nil))
theorem eqSsS (l : List ByteArray) (hl : l.length ≤ 1000000) : PCp 13 [.c (.lst 1 (l.map encS)), .c (.lst 1 (l.map encS))] [] (.c (.bool true)) [] := by
  have := equalS_pc l l hl
  rwa [decide_eq_true rfl] at this
theorem eqSsN : PCp 13 [.c (.lst 1 []), .c .nils] [] (.c (.bool true)) [] := (eqSsS [] (by simp)).wk (P2.cons (.refl _) (P2.cons (.c (.nils 1)) P2.nil))
set_option maxRecDepth 100000 in
set_option maxHeartbeats 4000000 in
theorem blamed_pc : PCp 15 [] [] (.c (.bool true)) [] := by
  have h1 : seenErr [⟨⟨#[115]⟩, [⟨#[97]⟩], 1⟩] [⟨#[115]⟩] [] = 0 := by decide +kernel
  have h2 : susV [⟨⟨#[115]⟩, [⟨#[97]⟩], 1⟩] [⟨#[115]⟩] [] = [⟨#[97]⟩] := by decide +kernel
  have hF := suspectsP_pc [⟨⟨#[115]⟩, [⟨#[97]⟩], 1⟩] (by simp) [⟨#[115]⟩] []
  rw [if_pos h1, h2, h1] at hF
  have hG := hF.wk (gs := [.c (.lst 3 ([⟨⟨#[115]⟩, [⟨#[97]⟩], 1⟩].map encSv)), .c (.lst 1 ([⟨#[115]⟩].map encS)), .c .nils]) (P2.cons (.refl _) (P2.cons (.refl _) (P2.cons (.c (.nils 1)) P2.nil)))
  refine fn_sound (mt := mts) tab_fits tab_mixed Tryz.func15 (by rfl) (by kernel_rfl) (by kernel_rfl) Tryz.results15 (Nat.le_of_ble_eq_true (by kernel_rfl)) ?_
  conv => whnf
  repeat' (first
    | (refine Split.mk (fun h => ?_) (fun h => ?_) <;> (try simp only [decide_eq_true_eq, decide_eq_false_iff_not, Bool.not_eq_true', Bool.not_eq_false', beq_iff_eq, beq_eq_false_iff_ne, bne_iff_ne, bne_eq_false_iff_eq] at h) <;> (first | (exfalso; first | omega | exact h trivial | contradiction | (simp_all [eqRes]; done)) | (conv => whnf)))
    | (refine CondG.mk (fun h => ?_) (fun h => ?_) <;> (try simp only [decide_eq_true_eq, decide_eq_false_iff_not, Bool.not_eq_true', Bool.not_eq_false', beq_iff_eq, beq_eq_false_iff_ne, bne_iff_ne, bne_eq_false_iff_eq] at h) <;> (first | (exfalso; first | omega | exact h trivial | contradiction | (simp_all [eqRes]; done)) | (conv => whnf)))
    | (refine CallX.mk _ _ (by first | exact hG) ?_; conv => whnf)
    | (refine CallG.mk _ _ (by first | exact hG) ?_; conv => whnf)
    | (refine Ask.mk (by first | omega | (unfold roomOK; simp [cutRows]; done) | (unfold roomOK; simp [cutRows]; omega) | (simp [cutRows]; done) | (simp [cutRows]; omega)) ?_; conv => whnf)
    | (refine SliceG.fr ?_; conv => whnf)
    | (refine idx_at _ (by with_reducible rfl) (by first | assumption | omega) ?_; conv => whnf)
    | ((with_reducible refine row_map (by first | assumption | omega) ?_); conv => whnf)
    | ((with_reducible refine row_set (by first | assumption | omega | (simp only [List.length_set]; omega) | (simp; omega)) ?_); conv => whnf)
    | fail)
  refine idx_map (enc := encS) (l := [⟨#[97]⟩]) 0 (by simp) rfl ?_
  conv => whnf
  repeat' (first
    | (refine Split.mk (fun h => ?_) (fun h => ?_) <;> (try simp only [decide_eq_true_eq, decide_eq_false_iff_not, Bool.not_eq_true', Bool.not_eq_false', beq_iff_eq, beq_eq_false_iff_ne, bne_iff_ne, bne_eq_false_iff_eq] at h) <;> (first | (exfalso; first | omega | exact h trivial | contradiction | (simp_all [eqRes]; done)) | (conv => whnf)))
    | (refine CondG.mk (fun h => ?_) (fun h => ?_) <;> (try simp only [decide_eq_true_eq, decide_eq_false_iff_not, Bool.not_eq_true', Bool.not_eq_false', beq_iff_eq, beq_eq_false_iff_ne, bne_iff_ne, bne_eq_false_iff_eq] at h) <;> (first | (exfalso; first | omega | exact h trivial | contradiction | (simp_all [eqRes]; done)) | (conv => whnf)))
    | (refine Ask.mk (by first | omega | (unfold roomOK; simp [cutRows]; done) | (unfold roomOK; simp [cutRows]; omega) | (simp [cutRows]; done) | (simp [cutRows]; omega)) ?_; conv => whnf)
    | (refine SliceG.fr ?_; conv => whnf)
    | (refine idx_at _ (by with_reducible rfl) (by first | assumption | omega) ?_; conv => whnf)
    | ((with_reducible refine row_map (by first | assumption | omega) ?_); conv => whnf)
    | ((with_reducible refine row_set (by first | assumption | omega | (simp only [List.length_set]; omega) | (simp; omega)) ?_); conv => whnf)
    | fail)
  all_goals exact finb (by decide +kernel)
set_option maxRecDepth 100000 in
set_option maxHeartbeats 4000000 in
theorem repairs_bad (s : List Sv) (hx : ∀ x ∈ s, x.els.length ≤ 1000000) (b : List ByteArray) (hb : b.length ≤ 1000000) (h0 : setErr s b ≠ 0) :
    PCp 6 [.c (.lst 3 (s.map encSv)), .c (.lst 1 (b.map encS))] [] (.tup [.c (.lst 1 []), .c (.int .i64 (setErr s b))]) [] := by
  refine fn_sound (mt := mts) tab_fits tab_mixed Tryz.func6 (by rfl) (by kernel_rfl) (by kernel_rfl) Tryz.results6 (Nat.le_of_ble_eq_true (by kernel_rfl)) ?_
  conv => whnf
  repeat' (first
    | (refine Split.mk (fun h => ?_) (fun h => ?_) <;> (try simp only [decide_eq_true_eq, decide_eq_false_iff_not, Bool.not_eq_true', Bool.not_eq_false', beq_iff_eq, beq_eq_false_iff_ne, bne_iff_ne, bne_eq_false_iff_eq] at h) <;> (first | (exfalso; first | omega | exact h trivial | contradiction | (simp_all [eqRes]; done)) | (conv => whnf)))
    | (refine CondG.mk (fun h => ?_) (fun h => ?_) <;> (try simp only [decide_eq_true_eq, decide_eq_false_iff_not, Bool.not_eq_true', Bool.not_eq_false', beq_iff_eq, beq_eq_false_iff_ne, bne_iff_ne, bne_eq_false_iff_eq] at h) <;> (first | (exfalso; first | omega | exact h trivial | contradiction | (simp_all [eqRes]; done)) | (conv => whnf)))
    | (refine CallX.mk _ _ (by first | exact fSetFault_pc s hx b hb) ?_; conv => whnf)
    | (refine CallG.mk _ _ (by first | exact fSetFault_pc s hx b hb) ?_; conv => whnf)
    | (refine Ask.mk (by first | omega | (unfold roomOK; simp [cutRows]; done) | (unfold roomOK; simp [cutRows]; omega) | (simp [cutRows]; done) | (simp [cutRows]; omega)) ?_; conv => whnf)
    | (refine SliceG.fr ?_; conv => whnf)
    | (refine idx_at _ (by with_reducible rfl) (by first | assumption | omega) ?_; conv => whnf)
    | ((with_reducible refine row_map (by first | assumption | omega) ?_); conv => whnf)
    | ((with_reducible refine row_set (by first | assumption | omega | (simp only [List.length_set]; omega) | (simp; omega)) ?_); conv => whnf)
    | fail)
  refine .weak [] (.tup _ _ rfl ?_) rfl (Nat.le_refl _)
  intro i a b ha hb
  match i with
  | 0 => cases ha; cases hb; exact .nil 1
  | 1 => cases ha; cases hb; exact .refl _
set_option maxRecDepth 100000 in
set_option maxHeartbeats 4000000 in
theorem single_bad (s : List Sv) (hx : ∀ x ∈ s, x.els.length ≤ 1000000) (h0 : svFault s ≠ 0) :
    PCp 7 [.c (.lst 3 (s.map encSv))] [] (.tup [.c (.lst 2 []), .c (.int .i64 (svFault s))]) [] := by
  refine fn_sound (mt := mts) tab_fits tab_mixed Tryz.func7 (by rfl) (by kernel_rfl) (by kernel_rfl) Tryz.results7 (Nat.le_of_ble_eq_true (by kernel_rfl)) ?_
  conv => whnf
  repeat' (first
    | (refine Split.mk (fun h => ?_) (fun h => ?_) <;> (try simp only [decide_eq_true_eq, decide_eq_false_iff_not, Bool.not_eq_true', Bool.not_eq_false', beq_iff_eq, beq_eq_false_iff_ne, bne_iff_ne, bne_eq_false_iff_eq] at h) <;> (first | (exfalso; first | omega | exact h trivial | contradiction | (simp_all [eqRes]; done)) | (conv => whnf)))
    | (refine CondG.mk (fun h => ?_) (fun h => ?_) <;> (try simp only [decide_eq_true_eq, decide_eq_false_iff_not, Bool.not_eq_true', Bool.not_eq_false', beq_iff_eq, beq_eq_false_iff_ne, bne_iff_ne, bne_eq_false_iff_eq] at h) <;> (first | (exfalso; first | omega | exact h trivial | contradiction | (simp_all [eqRes]; done)) | (conv => whnf)))
    | (refine CallX.mk _ _ (by first | exact checkServices_pc s hx) ?_; conv => whnf)
    | (refine CallG.mk _ _ (by first | exact checkServices_pc s hx) ?_; conv => whnf)
    | (refine Ask.mk (by first | omega | (unfold roomOK; simp [cutRows]; done) | (unfold roomOK; simp [cutRows]; omega) | (simp [cutRows]; done) | (simp [cutRows]; omega)) ?_; conv => whnf)
    | (refine SliceG.fr ?_; conv => whnf)
    | (refine idx_at _ (by with_reducible rfl) (by first | assumption | omega) ?_; conv => whnf)
    | ((with_reducible refine row_map (by first | assumption | omega) ?_); conv => whnf)
    | ((with_reducible refine row_set (by first | assumption | omega | (simp only [List.length_set]; omega) | (simp; omega)) ?_); conv => whnf)
    | fail)
  refine .weak [] (.tup _ _ rfl ?_) rfl (Nat.le_refl _)
  intro i a b ha hb
  match i with
  | 0 => cases ha; cases hb; exact .nil 2
  | 1 => cases ha; cases hb; exact .refl _
theorem setErr_first (s : List Sv) (b : List ByteArray) : firstErr [svFault s, elsFault b] = setErr s b := by
  unfold setErr firstErr firstErr firstErr
  (repeat' split) <;> simp_all
theorem repV_len (s : List Sv) : ∀ (n : Nat) (l : List ByteArray), (repV s n l).length = n
  | 0, _ => rfl
  | n + 1, l => by rw [repV, List.length_cons, repV_len s n]
set_option maxRecDepth 100000 in
set_option maxHeartbeats 4000000 in
theorem repairsOrdered_pc (L : List Int) (hL : L.length ≤ 9223372036854775807) : PCp 3 [.c (.lst 1 (L.map encI))] [] (.c (.bool true)) [] := by
  have st0 : StOk L 0 := ⟨hL, by omega, by omega⟩
  refine fn_sound (mt := mts) tab_fits tab_mixed Tryz.func3 (by rfl) (by kernel_rfl) (by kernel_rfl) Tryz.results3 (Nat.le_of_ble_eq_true (by kernel_rfl)) ?_
  conv => whnf
  repeat' (first
    | (refine Split.mk (fun h => ?_) (fun h => ?_) <;> (try simp only [decide_eq_true_eq, decide_eq_false_iff_not, Bool.not_eq_true', Bool.not_eq_false', beq_iff_eq, beq_eq_false_iff_ne, bne_iff_ne, bne_eq_false_iff_eq] at h) <;> (first | (exfalso; first | omega | exact h trivial) | (conv => whnf)))
    | (refine CondG.mk (fun h => ?_) (fun h => ?_) <;> (try simp only [decide_eq_true_eq, decide_eq_false_iff_not, Bool.not_eq_true', Bool.not_eq_false', beq_iff_eq, beq_eq_false_iff_ne, bne_iff_ne, bne_eq_false_iff_eq] at h) <;> (first | (exfalso; first | omega | exact h trivial) | (conv => whnf)))
    | (refine Ask.mk (by first | omega | (unfold roomOK; simp [cutRows]; done) | (unfold roomOK; simp [cutRows]; omega) | (simp [cutRows]; done) | (simp [cutRows]; omega)) ?_; conv => whnf)
    | (refine SliceG.fr ?_; conv => whnf)
    | (refine idx_at _ (by with_reducible rfl) (by first | assumption | omega) ?_; conv => whnf)
    | ((with_reducible refine row_map (by first | assumption | omega) ?_); conv => whnf)
    | ((with_reducible refine row_set (by first | assumption | omega | (simp only [List.length_set]; omega) | (simp; omega)) ?_); conv => whnf)
    | fail)
  refine .ex _ (rServices_pc st0 (by omega)) ?_
  rintro _ _ ⟨s, p, rfl, rfl, h1, h2, h3, h4⟩
  conv => whnf
  refine .ex _ (rElements_pc (L := L) (p := p) ⟨hL, by omega, by omega⟩ (by omega)) ?_
  rintro _ _ ⟨b, p2, rfl, rfl, h5, h6, h7⟩
  conv => whnf
  have hx : ∀ x ∈ s, x.els.length ≤ 1000000 := fun x hm => Nat.le_trans (h2 x hm).1 (by decide)
  have hN : ∀ x ∈ s, ∀ e ∈ x.els, e ∈ svNames := fun x hm => (h2 x hm).2
  have c1 := errs_pc [svFault s, elsFault b] (by simp)
  rw [setErr_first] at c1
  by_cases hs0 : svFault s = 0
  · have hs := svFault_ok hs0
    have hse : setErr s b = elsFault b := by rw [setErr, if_neg (by omega)]
    have c2 := single_pc s hs hs0 hN
    have hpl : (prV s).length ≤ 1000000 := by
      have := nms_few hN
      unfold prV sgV; rw [List.length_map, insSort_len]; omega
    by_cases hb0 : elsFault b = 0
    · have he : setErr s b = 0 := by omega
      have c3 := repairs_pc s hs b hb0 he
      rw [he] at c1
      repeat' (first
        | (refine Split.mk (fun h => ?_) (fun h => ?_) <;> (try simp only [decide_eq_true_eq, decide_eq_false_iff_not, Bool.not_eq_true', Bool.not_eq_false', beq_iff_eq, beq_eq_false_iff_ne, bne_iff_ne, bne_eq_false_iff_eq] at h) <;> (first | (exfalso; first | omega | exact h trivial) | (conv => whnf)))
        | (refine CondG.mk (fun h => ?_) (fun h => ?_) <;> (try simp only [decide_eq_true_eq, decide_eq_false_iff_not, Bool.not_eq_true', Bool.not_eq_false', beq_iff_eq, beq_eq_false_iff_ne, bne_iff_ne, bne_eq_false_iff_eq] at h) <;> (first | (exfalso; first | omega | exact h trivial) | (conv => whnf)))
        | (refine CallX.mk _ _ (by first | exact c2 | exact c3 | exact rServicesFault_pc s hx | exact rSetFault_pc b | exact c1 | exact rRepairs_pc s hs b hb0 | exact singleOf_pc s hs hN | exact eqSsS (repV s b.length b) (by rw [repV_len]; omega) | exact eqPsS_pc (prV s) hpl | exact blamed_pc) ?_; conv => whnf)
        | (refine CallG.mk _ _ (by first | exact c2 | exact c3 | exact rServicesFault_pc s hx | exact rSetFault_pc b | exact c1 | exact rRepairs_pc s hs b hb0 | exact singleOf_pc s hs hN | exact eqSsS (repV s b.length b) (by rw [repV_len]; omega) | exact eqPsS_pc (prV s) hpl | exact blamed_pc) ?_; conv => whnf)
        | (refine Ask.mk (by first | omega | (unfold roomOK; simp [cutRows]; done) | (unfold roomOK; simp [cutRows]; omega) | (simp [cutRows]; done) | (simp [cutRows]; omega)) ?_; conv => whnf)
        | (refine SliceG.fr ?_; conv => whnf)
        | (refine idx_at _ (by with_reducible rfl) (by first | assumption | omega) ?_; conv => whnf)
        | ((with_reducible refine row_map (by first | assumption | omega) ?_); conv => whnf)
        | ((with_reducible refine row_set (by first | assumption | omega | (simp only [List.length_set]; omega) | (simp; omega)) ?_); conv => whnf)
        | fail)
      all_goals first | exact finb rfl | contradiction | (rename_i h; simp at h; done)
    · have he : setErr s b ≠ 0 := by omega
      have c3 := repairs_bad s hx b (by omega) he
      clear hse
      generalize setErr s b = E at he c1 c3
      repeat' (first
        | (refine Split.mk (fun h => ?_) (fun h => ?_) <;> (try simp only [decide_eq_true_eq, decide_eq_false_iff_not, Bool.not_eq_true', Bool.not_eq_false', beq_iff_eq, beq_eq_false_iff_ne, bne_iff_ne, bne_eq_false_iff_eq] at h) <;> (first | (exfalso; first | omega | exact h trivial) | (conv => whnf)))
        | (refine CondG.mk (fun h => ?_) (fun h => ?_) <;> (try simp only [decide_eq_true_eq, decide_eq_false_iff_not, Bool.not_eq_true', Bool.not_eq_false', beq_iff_eq, beq_eq_false_iff_ne, bne_iff_ne, bne_eq_false_iff_eq] at h) <;> (first | (exfalso; first | omega | exact h trivial) | (conv => whnf)))
        | (refine CallX.mk _ _ (by first | exact c2 | exact c3 | exact rServicesFault_pc s hx | exact rSetFault_pc b | exact c1 | exact singleOf_pc s hs hN | exact eqSsN | exact eqPsS_pc (prV s) hpl | exact blamed_pc) ?_; conv => whnf)
        | (refine CallG.mk _ _ (by first | exact c2 | exact c3 | exact rServicesFault_pc s hx | exact rSetFault_pc b | exact c1 | exact singleOf_pc s hs hN | exact eqSsN | exact eqPsS_pc (prV s) hpl | exact blamed_pc) ?_; conv => whnf)
        | (refine Ask.mk (by first | omega | (unfold roomOK; simp [cutRows]; done) | (unfold roomOK; simp [cutRows]; omega) | (simp [cutRows]; done) | (simp [cutRows]; omega)) ?_; conv => whnf)
        | (refine SliceG.fr ?_; conv => whnf)
        | (refine idx_at _ (by with_reducible rfl) (by first | assumption | omega) ?_; conv => whnf)
        | ((with_reducible refine row_map (by first | assumption | omega) ?_); conv => whnf)
        | ((with_reducible refine row_set (by first | assumption | omega | (simp only [List.length_set]; omega) | (simp; omega)) ?_); conv => whnf)
        | fail)
      all_goals first | exact finb rfl | contradiction | (rename_i h; simp at h; done)
  · have he : setErr s b ≠ 0 := by rw [setErr, if_pos hs0]; exact hs0
    have c3 := repairs_bad s hx b (by omega) he
    have c2 := single_bad s hx hs0
    generalize setErr s b = E at he c1 c3
    repeat' (first
      | (refine Split.mk (fun h => ?_) (fun h => ?_) <;> (try simp only [decide_eq_true_eq, decide_eq_false_iff_not, Bool.not_eq_true', Bool.not_eq_false', beq_iff_eq, beq_eq_false_iff_ne, bne_iff_ne, bne_eq_false_iff_eq] at h) <;> (first | (exfalso; first | omega | exact h trivial) | (conv => whnf)))
      | (refine CondG.mk (fun h => ?_) (fun h => ?_) <;> (try simp only [decide_eq_true_eq, decide_eq_false_iff_not, Bool.not_eq_true', Bool.not_eq_false', beq_iff_eq, beq_eq_false_iff_ne, bne_iff_ne, bne_eq_false_iff_eq] at h) <;> (first | (exfalso; first | omega | exact h trivial) | (conv => whnf)))
      | (refine CallX.mk _ _ (by first | exact c2 | exact c3 | exact rServicesFault_pc s hx | exact rSetFault_pc b | exact c1 | exact eqSsN | exact eqPsN | exact blamed_pc) ?_; conv => whnf)
      | (refine CallG.mk _ _ (by first | exact c2 | exact c3 | exact rServicesFault_pc s hx | exact rSetFault_pc b | exact c1 | exact eqSsN | exact eqPsN | exact blamed_pc) ?_; conv => whnf)
      | (refine Ask.mk (by first | omega | (unfold roomOK; simp [cutRows]; done) | (unfold roomOK; simp [cutRows]; omega) | (simp [cutRows]; done) | (simp [cutRows]; omega)) ?_; conv => whnf)
      | (refine SliceG.fr ?_; conv => whnf)
      | (refine idx_at _ (by with_reducible rfl) (by first | assumption | omega) ?_; conv => whnf)
      | ((with_reducible refine row_map (by first | assumption | omega) ?_); conv => whnf)
      | ((with_reducible refine row_set (by first | assumption | omega | (simp only [List.length_set]; omega) | (simp; omega)) ?_); conv => whnf)
      | fail)
    all_goals first | exact finb rfl | contradiction | (rename_i h; simp at h; done)
end Go.Proofs.YteccacaonllceaaGreatDoor
