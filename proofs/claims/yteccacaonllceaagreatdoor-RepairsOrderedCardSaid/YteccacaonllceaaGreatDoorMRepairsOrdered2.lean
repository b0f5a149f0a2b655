/- Parts of the proof, in order. -/
import Derived.Test.YteccacaonllceaaGreatDoorMRepairsOrdered1

/- Services and elements are made. -/
namespace Go.Proofs.YteccacaonllceaaGreatDoor
set_option linter.unusedVariables false
set_option linter.unusedSimpArgs false
open Abs

theorem row_strm {N : List ByteArray} {rows : List (List V)} {i : Nat} {k : List V → Prop} (h : rows = (rows.map strOf).map encS) (hN : (rows.map strOf).all (fun s => decide (s ∈ N)) = true) (hi : i < rows.length) (hk : ∀ s : ByteArray, s ∈ N → k (encS s)) : RowG rows i k := by
  refine .mk _ (List.getElem?_eq_getElem hi) ?_
  have h1 : rows[i] = encS (strOf rows[i]) := by
    conv => lhs; rw [List.getElem_of_eq h hi]
    simp
  rw [h1]
  refine hk _ ?_
  have h2 := List.all_eq_true.1 hN (strOf rows[i]) (List.mem_map.2 ⟨_, List.getElem_mem hi, rfl⟩)
  simpa using h2
def svNames : List ByteArray := [⟨#[97]⟩, ⟨#[98]⟩, ⟨#[99]⟩, ⟨#[100]⟩, ⟨#[101]⟩, ⟨#[102]⟩, ⟨#[103]⟩, ⟨#[122, 122]⟩, ⟨#[]⟩, ⟨#[66]⟩]
def svKeys : List ByteArray := [⟨#[115, 49]⟩, ⟨#[115, 50]⟩, ⟨#[115, 51]⟩, ⟨#[115, 52]⟩, ⟨#[115, 53]⟩, ⟨#[115, 54]⟩]
theorem someV_mem (L : List Int) (p : Int) (l : List ByteArray) (h : 1 ≤ l.length) (hl : l.length ≤ 1000000) : someV L p l ∈ l := by
  have := nextV_lt L p l.length (by omega)
  unfold someV
  rw [List.getD_eq_getElem?_getD, List.getElem?_eq_getElem (show (nextV L p l.length).toNat < l.length by omega)]
  exact List.getElem_mem _
theorem all_names {l N : List ByteArray} (h : l.all (fun s => decide (s ∈ N)) = true) {x : ByteArray} (hx : x ∈ l) : x ∈ N := by
  have := List.all_eq_true.1 h x hx
  simpa using this
set_option maxRecDepth 100000 in
set_option maxHeartbeats 4000000 in
theorem rElements_pc {L : List Int} {p : Int} (hst : StOk L p) (hp : p ≤ 800000000) :
    PCq 5 [.c (.ptr 0 0)] [stO L p] fun r os => ∃ (l : List ByteArray) (p' : Int), r = .c (.lst 1 (l.map encS)) ∧ os = [stO L p'] ∧ l.length ≤ 6 ∧ p ≤ p' ∧ p' ≤ p + 100 := by
  have hS : ∀ x : Int, p ≤ x → x ≤ p + 100 → StOk L x := fun x h3 h4 => ⟨hst.1, by have := hst.2.1; omega, by omega⟩
  refine fn_soundX (mt := mts) tab_fits tab_mixed Tryz.func5 (by rfl) (by kernel_rfl) (by kernel_rfl) Tryz.results5 (Nat.le_of_ble_eq_true (by kernel_rfl)) ?_
  conv => whnf
  refine loop_for2 (5) [.sl 3 9 1] [0, 3, 6, 7, 8] (fun k (q : Int) (l : List ByteArray) => [(8, .c (.int .i64 (k : Int)))]) (fun k (q : Int) (l : List ByteArray) => [(0, stO L q), (1, .row 9 1 (l.map encS))]) (fun k (q : Int) (l : List ByteArray) => l.length ≤ k ∧ q = p + k) (p) ([]) ?_
  conv => whnf
  refine ⟨(by first | rfl | (simp; done) | (simp; rfl)), ?_, ?_, ?_⟩
  · exact ⟨by simp, by omega⟩
  · intro k q l hk ⟨h1, h2⟩
    have hlm : (l.map encS).length = l.length := List.length_map ..
    have hQ : ∀ x : Int, q ≤ x → x ≤ q + 14 → StOk L x := fun x h3 h4 => hS x (by omega) (by omega)
    conv => whnf
    repeat' (first
      | (refine Split.mk (fun h => ?_) (fun h => ?_) <;> (try simp only [decide_eq_true_eq, decide_eq_false_iff_not, Bool.not_eq_true', Bool.not_eq_false', beq_iff_eq, beq_eq_false_iff_ne, bne_iff_ne, bne_eq_false_iff_eq] at h) <;> (first | (exfalso; first | omega | exact h trivial | (simp [cutRows] at h; done) | (simp [cutRows] at h; omega)) | (conv => whnf)))
      | (refine CondG.mk (fun h => ?_) (fun h => ?_) <;> (try simp only [decide_eq_true_eq, decide_eq_false_iff_not, Bool.not_eq_true', Bool.not_eq_false', beq_iff_eq, beq_eq_false_iff_ne, bne_iff_ne, bne_eq_false_iff_eq] at h) <;> (first | (exfalso; first | omega | exact h trivial | (simp [cutRows] at h; done) | (simp [cutRows] at h; omega)) | (conv => whnf)))
      | (refine CallX.mk _ _ (by first | exact flip_ok (hQ _ (by omega) (by omega)) _ (by omega) | exact next_ok (hQ _ (by omega) (by omega)) _ (by omega) | exact range_ok (hQ _ (by omega) (by omega)) _ _ (by omega) (small_lit (by omega)) (small_lit (by omega)) | exact odd_ok (hQ _ (by omega) (by omega)) (hQ _ (by omega) (by omega)) _ _ (small_lit (by omega)) (small_lit (by omega)) (by omega) | exact pick_ok (hQ _ (by omega) (by omega)) [_] (by simp) (by simp) | exact pick_ok (hQ _ (by omega) (by omega)) [_, _] (by simp) (by simp) | exact pick_ok (hQ _ (by omega) (by omega)) [_, _, _] (by simp) (by simp) | exact pick_ok (hQ _ (by omega) (by omega)) [_, _, _, _] (by simp) (by simp) | exact pick_ok (hQ _ (by omega) (by omega)) [_, _, _, _, _] (by simp) (by simp) | exact pick_ok (hQ _ (by omega) (by omega)) [_, _, _, _, _, _] (by simp) (by simp) | exact pick_ok (hQ _ (by omega) (by omega)) [_, _, _, _, _, _, _] (by simp) (by simp) | exact pick_ok (hQ _ (by omega) (by omega)) [_, _, _, _, _, _, _, _] (by simp) (by simp) | exact pick_ok (hQ _ (by omega) (by omega)) [_, _, _, _, _, _, _, _, _] (by simp) (by simp) | exact pick_ok (hQ _ (by omega) (by omega)) [_, _, _, _, _, _, _, _, _, _] (by simp) (by simp) | exact some_ok (hQ _ (by omega) (by omega)) [_] (by simp) (by simp) | exact some_ok (hQ _ (by omega) (by omega)) [_, _] (by simp) (by simp) | exact some_ok (hQ _ (by omega) (by omega)) [_, _, _] (by simp) (by simp) | exact some_ok (hQ _ (by omega) (by omega)) [_, _, _, _] (by simp) (by simp) | exact some_ok (hQ _ (by omega) (by omega)) [_, _, _, _, _] (by simp) (by simp) | exact some_ok (hQ _ (by omega) (by omega)) [_, _, _, _, _, _] (by simp) (by simp) | exact some_ok (hQ _ (by omega) (by omega)) [_, _, _, _, _, _, _] (by simp) (by simp) | exact some_ok (hQ _ (by omega) (by omega)) [_, _, _, _, _, _, _, _] (by simp) (by simp)) ?_; conv => whnf)
      | (refine CallG.mk _ _ (by first | exact flip_ok (hQ _ (by omega) (by omega)) _ (by omega) | exact next_ok (hQ _ (by omega) (by omega)) _ (by omega) | exact range_ok (hQ _ (by omega) (by omega)) _ _ (by omega) (small_lit (by omega)) (small_lit (by omega)) | exact odd_ok (hQ _ (by omega) (by omega)) (hQ _ (by omega) (by omega)) _ _ (small_lit (by omega)) (small_lit (by omega)) (by omega) | exact pick_ok (hQ _ (by omega) (by omega)) [_] (by simp) (by simp) | exact pick_ok (hQ _ (by omega) (by omega)) [_, _] (by simp) (by simp) | exact pick_ok (hQ _ (by omega) (by omega)) [_, _, _] (by simp) (by simp) | exact pick_ok (hQ _ (by omega) (by omega)) [_, _, _, _] (by simp) (by simp) | exact pick_ok (hQ _ (by omega) (by omega)) [_, _, _, _, _] (by simp) (by simp) | exact pick_ok (hQ _ (by omega) (by omega)) [_, _, _, _, _, _] (by simp) (by simp) | exact pick_ok (hQ _ (by omega) (by omega)) [_, _, _, _, _, _, _] (by simp) (by simp) | exact pick_ok (hQ _ (by omega) (by omega)) [_, _, _, _, _, _, _, _] (by simp) (by simp) | exact pick_ok (hQ _ (by omega) (by omega)) [_, _, _, _, _, _, _, _, _] (by simp) (by simp) | exact pick_ok (hQ _ (by omega) (by omega)) [_, _, _, _, _, _, _, _, _, _] (by simp) (by simp) | exact some_ok (hQ _ (by omega) (by omega)) [_] (by simp) (by simp) | exact some_ok (hQ _ (by omega) (by omega)) [_, _] (by simp) (by simp) | exact some_ok (hQ _ (by omega) (by omega)) [_, _, _] (by simp) (by simp) | exact some_ok (hQ _ (by omega) (by omega)) [_, _, _, _] (by simp) (by simp) | exact some_ok (hQ _ (by omega) (by omega)) [_, _, _, _, _] (by simp) (by simp) | exact some_ok (hQ _ (by omega) (by omega)) [_, _, _, _, _, _] (by simp) (by simp) | exact some_ok (hQ _ (by omega) (by omega)) [_, _, _, _, _, _, _] (by simp) (by simp) | exact some_ok (hQ _ (by omega) (by omega)) [_, _, _, _, _, _, _, _] (by simp) (by simp)) ?_; conv => whnf)
      | (refine Ask.mk (by first | omega | (unfold roomOK; simp [cutRows]; done) | (unfold roomOK; simp [cutRows]; omega) | (simp [cutRows]; done) | (simp [cutRows]; omega)) ?_; conv => whnf)
      | (refine SliceG.fr ?_; conv => whnf)
      | (refine idx_at _ (by with_reducible rfl) (by first | assumption | omega) ?_; conv => whnf)
      | ((with_reducible refine row_map (by first | assumption | omega) ?_); conv => whnf)
      | (refine row_str (by rfl) (by first | (simp [cutRows]; done) | (simp [cutRows]; omega)) ?_; intro str; conv => whnf)
      | ((with_reducible refine row_set (by first | assumption | omega | (simp only [List.length_set]; omega) | (simp; omega)) ?_); conv => whnf)
      | fail)
    · exact count_next (_, l ++ [_]) hk (by rw [wrap_succ hk (by omega), List.map_append]; rfl) ⟨by simp; omega, by simp only; omega⟩
    · exact count_next (_, l) hk (by rw [wrap_succ hk (by omega)]; rfl) ⟨by simp only; omega, by simp only; omega⟩
  · intro q l ⟨h1, h2⟩
    have hlm : (l.map encS).length = l.length := List.length_map ..
    have hQ : ∀ x : Int, q ≤ x → x ≤ q + 14 → StOk L x := fun x h3 h4 => hS x (by omega) (by omega)
    conv => whnf
    repeat' (first
      | (refine Split.mk (fun h => ?_) (fun h => ?_) <;> (try simp only [decide_eq_true_eq, decide_eq_false_iff_not, Bool.not_eq_true', Bool.not_eq_false', beq_iff_eq, beq_eq_false_iff_ne, bne_iff_ne, bne_eq_false_iff_eq] at h) <;> (first | (exfalso; first | omega | exact h trivial | (simp [cutRows] at h; done) | (simp [cutRows] at h; omega)) | (conv => whnf)))
      | (refine CondG.mk (fun h => ?_) (fun h => ?_) <;> (try simp only [decide_eq_true_eq, decide_eq_false_iff_not, Bool.not_eq_true', Bool.not_eq_false', beq_iff_eq, beq_eq_false_iff_ne, bne_iff_ne, bne_eq_false_iff_eq] at h) <;> (first | (exfalso; first | omega | exact h trivial | (simp [cutRows] at h; done) | (simp [cutRows] at h; omega)) | (conv => whnf)))
      | (refine CallX.mk _ _ (by first | exact flip_ok (hQ _ (by omega) (by omega)) _ (by omega) | exact next_ok (hQ _ (by omega) (by omega)) _ (by omega) | exact range_ok (hQ _ (by omega) (by omega)) _ _ (by omega) (small_lit (by omega)) (small_lit (by omega)) | exact odd_ok (hQ _ (by omega) (by omega)) (hQ _ (by omega) (by omega)) _ _ (small_lit (by omega)) (small_lit (by omega)) (by omega) | exact pick_ok (hQ _ (by omega) (by omega)) [_] (by simp) (by simp) | exact pick_ok (hQ _ (by omega) (by omega)) [_, _] (by simp) (by simp) | exact pick_ok (hQ _ (by omega) (by omega)) [_, _, _] (by simp) (by simp) | exact pick_ok (hQ _ (by omega) (by omega)) [_, _, _, _] (by simp) (by simp) | exact pick_ok (hQ _ (by omega) (by omega)) [_, _, _, _, _] (by simp) (by simp) | exact pick_ok (hQ _ (by omega) (by omega)) [_, _, _, _, _, _] (by simp) (by simp) | exact pick_ok (hQ _ (by omega) (by omega)) [_, _, _, _, _, _, _] (by simp) (by simp) | exact pick_ok (hQ _ (by omega) (by omega)) [_, _, _, _, _, _, _, _] (by simp) (by simp) | exact pick_ok (hQ _ (by omega) (by omega)) [_, _, _, _, _, _, _, _, _] (by simp) (by simp) | exact pick_ok (hQ _ (by omega) (by omega)) [_, _, _, _, _, _, _, _, _, _] (by simp) (by simp) | exact some_ok (hQ _ (by omega) (by omega)) [_] (by simp) (by simp) | exact some_ok (hQ _ (by omega) (by omega)) [_, _] (by simp) (by simp) | exact some_ok (hQ _ (by omega) (by omega)) [_, _, _] (by simp) (by simp) | exact some_ok (hQ _ (by omega) (by omega)) [_, _, _, _] (by simp) (by simp) | exact some_ok (hQ _ (by omega) (by omega)) [_, _, _, _, _] (by simp) (by simp) | exact some_ok (hQ _ (by omega) (by omega)) [_, _, _, _, _, _] (by simp) (by simp) | exact some_ok (hQ _ (by omega) (by omega)) [_, _, _, _, _, _, _] (by simp) (by simp) | exact some_ok (hQ _ (by omega) (by omega)) [_, _, _, _, _, _, _, _] (by simp) (by simp)) ?_; conv => whnf)
      | (refine CallG.mk _ _ (by first | exact flip_ok (hQ _ (by omega) (by omega)) _ (by omega) | exact next_ok (hQ _ (by omega) (by omega)) _ (by omega) | exact range_ok (hQ _ (by omega) (by omega)) _ _ (by omega) (small_lit (by omega)) (small_lit (by omega)) | exact odd_ok (hQ _ (by omega) (by omega)) (hQ _ (by omega) (by omega)) _ _ (small_lit (by omega)) (small_lit (by omega)) (by omega) | exact pick_ok (hQ _ (by omega) (by omega)) [_] (by simp) (by simp) | exact pick_ok (hQ _ (by omega) (by omega)) [_, _] (by simp) (by simp) | exact pick_ok (hQ _ (by omega) (by omega)) [_, _, _] (by simp) (by simp) | exact pick_ok (hQ _ (by omega) (by omega)) [_, _, _, _] (by simp) (by simp) | exact pick_ok (hQ _ (by omega) (by omega)) [_, _, _, _, _] (by simp) (by simp) | exact pick_ok (hQ _ (by omega) (by omega)) [_, _, _, _, _, _] (by simp) (by simp) | exact pick_ok (hQ _ (by omega) (by omega)) [_, _, _, _, _, _, _] (by simp) (by simp) | exact pick_ok (hQ _ (by omega) (by omega)) [_, _, _, _, _, _, _, _] (by simp) (by simp) | exact pick_ok (hQ _ (by omega) (by omega)) [_, _, _, _, _, _, _, _, _] (by simp) (by simp) | exact pick_ok (hQ _ (by omega) (by omega)) [_, _, _, _, _, _, _, _, _, _] (by simp) (by simp) | exact some_ok (hQ _ (by omega) (by omega)) [_] (by simp) (by simp) | exact some_ok (hQ _ (by omega) (by omega)) [_, _] (by simp) (by simp) | exact some_ok (hQ _ (by omega) (by omega)) [_, _, _] (by simp) (by simp) | exact some_ok (hQ _ (by omega) (by omega)) [_, _, _, _] (by simp) (by simp) | exact some_ok (hQ _ (by omega) (by omega)) [_, _, _, _, _] (by simp) (by simp) | exact some_ok (hQ _ (by omega) (by omega)) [_, _, _, _, _, _] (by simp) (by simp) | exact some_ok (hQ _ (by omega) (by omega)) [_, _, _, _, _, _, _] (by simp) (by simp) | exact some_ok (hQ _ (by omega) (by omega)) [_, _, _, _, _, _, _, _] (by simp) (by simp)) ?_; conv => whnf)
      | (refine Ask.mk (by first | omega | (unfold roomOK; simp [cutRows]; done) | (unfold roomOK; simp [cutRows]; omega) | (simp [cutRows]; done) | (simp [cutRows]; omega)) ?_; conv => whnf)
      | (refine SliceG.fr ?_; conv => whnf)
      | (refine idx_at _ (by with_reducible rfl) (by first | assumption | omega) ?_; conv => whnf)
      | ((with_reducible refine row_map (by first | assumption | omega) ?_); conv => whnf)
      | (refine row_str (by rfl) (by first | (simp [cutRows]; done) | (simp [cutRows]; omega)) ?_; intro str; conv => whnf)
      | ((with_reducible refine row_set (by first | assumption | omega | (simp only [List.length_set]; omega) | (simp; omega)) ?_); conv => whnf)
      | fail)
    · exact .mk _ _ ⟨l ++ [_], _, rfl, rfl, by simp; omega, by omega, by omega⟩ (.frz 1 _ _ _ rfl (.weak [_] (.fro 1 _ _ (by rw [List.map_append]; rfl)) rfl (Nat.le_refl _)))
    · exact .mk _ _ ⟨l, _, rfl, rfl, by omega, by omega, by omega⟩ (.frz 1 _ _ _ rfl (.weak [_] (.fro 1 _ _ rfl) rfl (Nat.le_refl _)))
def SvG (x : Sv) : Prop := x.els.length ≤ 7 ∧ ∀ e ∈ x.els, e ∈ svNames
set_option maxRecDepth 100000 in
set_option maxHeartbeats 4000000 in
theorem rServices_pc {L : List Int} {p : Int} (hst : StOk L p) (hp : p ≤ 800000000) :
    PCq 4 [.c (.ptr 0 0)] [stO L p] fun r os => ∃ (l : List Sv) (p' : Int), r = .c (.lst 3 (l.map encSv)) ∧ os = [stO L p'] ∧ l.length ≤ 6 ∧ (∀ x ∈ l, SvG x) ∧ p ≤ p' ∧ p' ≤ p + 100 := by
  have hS : ∀ x : Int, p ≤ x → x ≤ p + 100 → StOk L x := fun x h3 h4 => ⟨hst.1, by have := hst.2.1; omega, by omega⟩
  refine fn_soundX (mt := mts) tab_fits tab_mixed Tryz.func4 (by rfl) (by kernel_rfl) (by kernel_rfl) Tryz.results4 (Nat.le_of_ble_eq_true (by kernel_rfl)) ?_
  conv => whnf
  refine loop_for2 (6) [.sl 3 50 3] [0, 3, 10, 11, 12] (fun k (q : Int) (l : List Sv) => [(12, .c (.int .i64 (k : Int)))]) (fun k (q : Int) (l : List Sv) => [(0, stO L q), (1, .row 50 3 (l.map encSv))]) (fun k (q : Int) (l : List Sv) => l.length ≤ k ∧ (∀ x ∈ l, SvG x ∧ x.els.length ≤ 6) ∧ p ≤ q ∧ q ≤ p + 10 * k) (p) ([]) ?_
  conv => whnf
  refine ⟨(by first | rfl | (simp; done) | (simp; rfl)), ?_, ?_, ?_⟩
  · exact ⟨by simp, by simp, by omega, by omega⟩
  · intro k q l hk ⟨h1, h2, h3, h4⟩
    as_aux_lemma =>
     have hlm : (l.map encSv).length = l.length := List.length_map ..
     have hQ : ∀ x : Int, q ≤ x → x ≤ q + 14 → StOk L x := fun x h3 h4 => hS x (by omega) (by omega)
     conv => whnf
     repeat' (first
       | (refine Split.mk (fun h => ?_) (fun h => ?_) <;> (try simp only [decide_eq_true_eq, decide_eq_false_iff_not, Bool.not_eq_true', Bool.not_eq_false', beq_iff_eq, beq_eq_false_iff_ne, bne_iff_ne, bne_eq_false_iff_eq] at h) <;> (first | (exfalso; first | omega | exact h trivial | (simp [cutRows] at h; done) | (simp [cutRows] at h; omega)) | (conv => whnf)))
       | (refine CondG.mk (fun h => ?_) (fun h => ?_) <;> (try simp only [decide_eq_true_eq, decide_eq_false_iff_not, Bool.not_eq_true', Bool.not_eq_false', beq_iff_eq, beq_eq_false_iff_ne, bne_iff_ne, bne_eq_false_iff_eq] at h) <;> (first | (exfalso; first | omega | exact h trivial | (simp [cutRows] at h; done) | (simp [cutRows] at h; omega)) | (conv => whnf)))
       | (refine CallX.mk _ _ (by first | exact flip_ok (hQ _ (by omega) (by omega)) _ (by omega) | exact next_ok (hQ _ (by omega) (by omega)) _ (by omega) | exact range_ok (hQ _ (by omega) (by omega)) _ _ (by omega) (small_lit (by omega)) (small_lit (by omega)) | exact odd_ok (hQ _ (by omega) (by omega)) (hQ _ (by omega) (by omega)) _ _ (small_lit (by omega)) (small_lit (by omega)) (by omega) | exact pick_ok (hQ _ (by omega) (by omega)) [_] (by simp) (by simp) | exact pick_ok (hQ _ (by omega) (by omega)) [_, _] (by simp) (by simp) | exact pick_ok (hQ _ (by omega) (by omega)) [_, _, _] (by simp) (by simp) | exact pick_ok (hQ _ (by omega) (by omega)) [_, _, _, _] (by simp) (by simp) | exact pick_ok (hQ _ (by omega) (by omega)) [_, _, _, _, _] (by simp) (by simp) | exact pick_ok (hQ _ (by omega) (by omega)) [_, _, _, _, _, _] (by simp) (by simp) | exact pick_ok (hQ _ (by omega) (by omega)) [_, _, _, _, _, _, _] (by simp) (by simp) | exact pick_ok (hQ _ (by omega) (by omega)) [_, _, _, _, _, _, _, _] (by simp) (by simp) | exact pick_ok (hQ _ (by omega) (by omega)) [_, _, _, _, _, _, _, _, _] (by simp) (by simp) | exact pick_ok (hQ _ (by omega) (by omega)) [_, _, _, _, _, _, _, _, _, _] (by simp) (by simp) | exact some_ok (hQ _ (by omega) (by omega)) [_] (by simp) (by simp) | exact some_ok (hQ _ (by omega) (by omega)) [_, _] (by simp) (by simp) | exact some_ok (hQ _ (by omega) (by omega)) [_, _, _] (by simp) (by simp) | exact some_ok (hQ _ (by omega) (by omega)) [_, _, _, _] (by simp) (by simp) | exact some_ok (hQ _ (by omega) (by omega)) [_, _, _, _, _] (by simp) (by simp) | exact some_ok (hQ _ (by omega) (by omega)) [_, _, _, _, _, _] (by simp) (by simp) | exact some_ok (hQ _ (by omega) (by omega)) [_, _, _, _, _, _, _] (by simp) (by simp) | exact some_ok (hQ _ (by omega) (by omega)) [_, _, _, _, _, _, _, _] (by simp) (by simp)) ?_; conv => whnf)
       | (refine CallG.mk _ _ (by first | exact flip_ok (hQ _ (by omega) (by omega)) _ (by omega) | exact next_ok (hQ _ (by omega) (by omega)) _ (by omega) | exact range_ok (hQ _ (by omega) (by omega)) _ _ (by omega) (small_lit (by omega)) (small_lit (by omega)) | exact odd_ok (hQ _ (by omega) (by omega)) (hQ _ (by omega) (by omega)) _ _ (small_lit (by omega)) (small_lit (by omega)) (by omega) | exact pick_ok (hQ _ (by omega) (by omega)) [_] (by simp) (by simp) | exact pick_ok (hQ _ (by omega) (by omega)) [_, _] (by simp) (by simp) | exact pick_ok (hQ _ (by omega) (by omega)) [_, _, _] (by simp) (by simp) | exact pick_ok (hQ _ (by omega) (by omega)) [_, _, _, _] (by simp) (by simp) | exact pick_ok (hQ _ (by omega) (by omega)) [_, _, _, _, _] (by simp) (by simp) | exact pick_ok (hQ _ (by omega) (by omega)) [_, _, _, _, _, _] (by simp) (by simp) | exact pick_ok (hQ _ (by omega) (by omega)) [_, _, _, _, _, _, _] (by simp) (by simp) | exact pick_ok (hQ _ (by omega) (by omega)) [_, _, _, _, _, _, _, _] (by simp) (by simp) | exact pick_ok (hQ _ (by omega) (by omega)) [_, _, _, _, _, _, _, _, _] (by simp) (by simp) | exact pick_ok (hQ _ (by omega) (by omega)) [_, _, _, _, _, _, _, _, _, _] (by simp) (by simp) | exact some_ok (hQ _ (by omega) (by omega)) [_] (by simp) (by simp) | exact some_ok (hQ _ (by omega) (by omega)) [_, _] (by simp) (by simp) | exact some_ok (hQ _ (by omega) (by omega)) [_, _, _] (by simp) (by simp) | exact some_ok (hQ _ (by omega) (by omega)) [_, _, _, _] (by simp) (by simp) | exact some_ok (hQ _ (by omega) (by omega)) [_, _, _, _, _] (by simp) (by simp) | exact some_ok (hQ _ (by omega) (by omega)) [_, _, _, _, _, _] (by simp) (by simp) | exact some_ok (hQ _ (by omega) (by omega)) [_, _, _, _, _, _, _] (by simp) (by simp) | exact some_ok (hQ _ (by omega) (by omega)) [_, _, _, _, _, _, _, _] (by simp) (by simp)) ?_; conv => whnf)
       | (refine Ask.mk (by first | omega | (unfold roomOK; simp [cutRows]; done) | (unfold roomOK; simp [cutRows]; omega) | (simp [cutRows]; done) | (simp [cutRows]; omega)) ?_; conv => whnf)
       | (refine SliceG.fr ?_; conv => whnf)
       | (refine idx_at _ (by with_reducible rfl) (by first | assumption | omega) ?_; conv => whnf)
       | ((with_reducible refine row_map (by first | assumption | omega) ?_); conv => whnf)
       | (refine row_str (by rfl) (by first | (simp [cutRows]; done) | (simp [cutRows]; omega)) ?_; intro str; conv => whnf)
       | ((with_reducible refine row_set (by first | assumption | omega | (simp only [List.length_set]; omega) | (simp; omega)) ?_); conv => whnf)
       | fail)
     · exact count_next (q + 1, l) hk (by rw [wrap_succ hk (by omega)]; rfl) ⟨by simp only; omega, h2, by simp only; omega, by simp only; omega⟩
     refine loop_for2 (6) [.bx 6 1 9 1] [0, 3, 6, 10, 11, 12, 23, 24, 25] (fun k (q' : Int) (ks : List ByteArray) => [(25, .c (.int .i64 (k : Int)))]) (fun k (q' : Int) (ks : List ByteArray) => [(0, stO L q'), (3, .row 9 1 (ks.map encS))]) (fun k (q' : Int) (ks : List ByteArray) => ks.length ≤ k ∧ (∀ e ∈ ks, e ∈ svNames) ∧ q' = q + 1 + 1 + k) (q + 1 + 1) ([]) ?_
     conv => whnf
     refine ⟨(by first | rfl | (simp; done) | (simp; rfl)), ?_, ?_, ?_⟩
     · exact ⟨by simp, by simp, by omega⟩
     · intro j q' ks hj ⟨g1, g2, g3⟩
       as_aux_lemma =>
        have hkm : (ks.map encS).length = ks.length := List.length_map ..
        have hQ : ∀ x : Int, q ≤ x → x ≤ q + 14 → StOk L x := fun x h3 h4 => hS x (by omega) (by omega)
        conv => whnf
        repeat' (first
          | (refine Split.mk (fun h => ?_) (fun h => ?_) <;> (try simp only [decide_eq_true_eq, decide_eq_false_iff_not, Bool.not_eq_true', Bool.not_eq_false', beq_iff_eq, beq_eq_false_iff_ne, bne_iff_ne, bne_eq_false_iff_eq] at h) <;> (first | (exfalso; first | omega | exact h trivial | (simp [cutRows] at h; done) | (simp [cutRows] at h; omega)) | (conv => whnf)))
          | (refine CondG.mk (fun h => ?_) (fun h => ?_) <;> (try simp only [decide_eq_true_eq, decide_eq_false_iff_not, Bool.not_eq_true', Bool.not_eq_false', beq_iff_eq, beq_eq_false_iff_ne, bne_iff_ne, bne_eq_false_iff_eq] at h) <;> (first | (exfalso; first | omega | exact h trivial | (simp [cutRows] at h; done) | (simp [cutRows] at h; omega)) | (conv => whnf)))
          | (refine CallX.mk _ _ (by first | exact flip_ok (hQ _ (by omega) (by omega)) _ (by omega) | exact next_ok (hQ _ (by omega) (by omega)) _ (by omega) | exact range_ok (hQ _ (by omega) (by omega)) _ _ (by omega) (small_lit (by omega)) (small_lit (by omega)) | exact odd_ok (hQ _ (by omega) (by omega)) (hQ _ (by omega) (by omega)) _ _ (small_lit (by omega)) (small_lit (by omega)) (by omega) | exact pick_ok (hQ _ (by omega) (by omega)) [_] (by simp) (by simp) | exact pick_ok (hQ _ (by omega) (by omega)) [_, _] (by simp) (by simp) | exact pick_ok (hQ _ (by omega) (by omega)) [_, _, _] (by simp) (by simp) | exact pick_ok (hQ _ (by omega) (by omega)) [_, _, _, _] (by simp) (by simp) | exact pick_ok (hQ _ (by omega) (by omega)) [_, _, _, _, _] (by simp) (by simp) | exact pick_ok (hQ _ (by omega) (by omega)) [_, _, _, _, _, _] (by simp) (by simp) | exact pick_ok (hQ _ (by omega) (by omega)) [_, _, _, _, _, _, _] (by simp) (by simp) | exact pick_ok (hQ _ (by omega) (by omega)) [_, _, _, _, _, _, _, _] (by simp) (by simp) | exact pick_ok (hQ _ (by omega) (by omega)) [_, _, _, _, _, _, _, _, _] (by simp) (by simp) | exact pick_ok (hQ _ (by omega) (by omega)) [_, _, _, _, _, _, _, _, _, _] (by simp) (by simp) | exact some_ok (hQ _ (by omega) (by omega)) [_] (by simp) (by simp) | exact some_ok (hQ _ (by omega) (by omega)) [_, _] (by simp) (by simp) | exact some_ok (hQ _ (by omega) (by omega)) [_, _, _] (by simp) (by simp) | exact some_ok (hQ _ (by omega) (by omega)) [_, _, _, _] (by simp) (by simp) | exact some_ok (hQ _ (by omega) (by omega)) [_, _, _, _, _] (by simp) (by simp) | exact some_ok (hQ _ (by omega) (by omega)) [_, _, _, _, _, _] (by simp) (by simp) | exact some_ok (hQ _ (by omega) (by omega)) [_, _, _, _, _, _, _] (by simp) (by simp) | exact some_ok (hQ _ (by omega) (by omega)) [_, _, _, _, _, _, _, _] (by simp) (by simp)) ?_; conv => whnf)
          | (refine CallG.mk _ _ (by first | exact flip_ok (hQ _ (by omega) (by omega)) _ (by omega) | exact next_ok (hQ _ (by omega) (by omega)) _ (by omega) | exact range_ok (hQ _ (by omega) (by omega)) _ _ (by omega) (small_lit (by omega)) (small_lit (by omega)) | exact odd_ok (hQ _ (by omega) (by omega)) (hQ _ (by omega) (by omega)) _ _ (small_lit (by omega)) (small_lit (by omega)) (by omega) | exact pick_ok (hQ _ (by omega) (by omega)) [_] (by simp) (by simp) | exact pick_ok (hQ _ (by omega) (by omega)) [_, _] (by simp) (by simp) | exact pick_ok (hQ _ (by omega) (by omega)) [_, _, _] (by simp) (by simp) | exact pick_ok (hQ _ (by omega) (by omega)) [_, _, _, _] (by simp) (by simp) | exact pick_ok (hQ _ (by omega) (by omega)) [_, _, _, _, _] (by simp) (by simp) | exact pick_ok (hQ _ (by omega) (by omega)) [_, _, _, _, _, _] (by simp) (by simp) | exact pick_ok (hQ _ (by omega) (by omega)) [_, _, _, _, _, _, _] (by simp) (by simp) | exact pick_ok (hQ _ (by omega) (by omega)) [_, _, _, _, _, _, _, _] (by simp) (by simp) | exact pick_ok (hQ _ (by omega) (by omega)) [_, _, _, _, _, _, _, _, _] (by simp) (by simp) | exact pick_ok (hQ _ (by omega) (by omega)) [_, _, _, _, _, _, _, _, _, _] (by simp) (by simp) | exact some_ok (hQ _ (by omega) (by omega)) [_] (by simp) (by simp) | exact some_ok (hQ _ (by omega) (by omega)) [_, _] (by simp) (by simp) | exact some_ok (hQ _ (by omega) (by omega)) [_, _, _] (by simp) (by simp) | exact some_ok (hQ _ (by omega) (by omega)) [_, _, _, _] (by simp) (by simp) | exact some_ok (hQ _ (by omega) (by omega)) [_, _, _, _, _] (by simp) (by simp) | exact some_ok (hQ _ (by omega) (by omega)) [_, _, _, _, _, _] (by simp) (by simp) | exact some_ok (hQ _ (by omega) (by omega)) [_, _, _, _, _, _, _] (by simp) (by simp) | exact some_ok (hQ _ (by omega) (by omega)) [_, _, _, _, _, _, _, _] (by simp) (by simp)) ?_; conv => whnf)
          | (refine Ask.mk (by first | omega | (unfold roomOK; simp [cutRows]; done) | (unfold roomOK; simp [cutRows]; omega) | (simp [cutRows]; done) | (simp [cutRows]; omega)) ?_; conv => whnf)
          | (refine SliceG.fr ?_; conv => whnf)
          | (refine idx_at _ (by with_reducible rfl) (by first | assumption | omega) ?_; conv => whnf)
          | ((with_reducible refine row_map (by first | assumption | omega) ?_); conv => whnf)
          | (refine row_strm (N := svNames) (by rfl) (by rfl) (by first | (simp [cutRows]; done) | (simp [cutRows]; omega)) ?_; intro str hstr; conv => whnf)
          | ((with_reducible refine row_set (by first | assumption | omega | (simp only [List.length_set]; omega) | (simp; omega)) ?_); conv => whnf)
          | fail)
        · refine count_next (q' + 1, ks ++ [_]) hj (by rw [wrap_succ hj (by omega), List.map_append]; rfl) ⟨by simp; omega, ?_, by simp only; omega⟩
          intro e he
          rcases List.mem_append.1 he with he | he
          · exact g2 e he
          · simp at he; subst he; assumption
        · exact count_next (q' + 1, ks) hj (by rw [wrap_succ hj (by omega)]; rfl) ⟨by simp only; omega, g2, by simp only; omega⟩
     · intro q' ks ⟨g1, g2, g3⟩
       as_aux_lemma =>
        have hkm : (ks.map encS).length = ks.length := List.length_map ..
        conv => whnf
        repeat' (first
          | (refine Split.mk (fun h => ?_) (fun h => ?_) <;> (try simp only [decide_eq_true_eq, decide_eq_false_iff_not, Bool.not_eq_true', Bool.not_eq_false', beq_iff_eq, beq_eq_false_iff_ne, bne_iff_ne, bne_eq_false_iff_eq] at h) <;> (first | (exfalso; first | omega | exact h trivial | (simp [cutRows] at h; done) | (simp [cutRows] at h; omega)) | (conv => whnf)))
          | (refine CondG.mk (fun h => ?_) (fun h => ?_) <;> (try simp only [decide_eq_true_eq, decide_eq_false_iff_not, Bool.not_eq_true', Bool.not_eq_false', beq_iff_eq, beq_eq_false_iff_ne, bne_iff_ne, bne_eq_false_iff_eq] at h) <;> (first | (exfalso; first | omega | exact h trivial | (simp [cutRows] at h; done) | (simp [cutRows] at h; omega)) | (conv => whnf)))
          | (refine CallX.mk _ _ (by first | exact flip_ok (hQ _ (by omega) (by omega)) _ (by omega) | exact next_ok (hQ _ (by omega) (by omega)) _ (by omega) | exact range_ok (hQ _ (by omega) (by omega)) _ _ (by omega) (small_lit (by omega)) (small_lit (by omega)) | exact odd_ok (hQ _ (by omega) (by omega)) (hQ _ (by omega) (by omega)) _ _ (small_lit (by omega)) (small_lit (by omega)) (by omega) | exact pick_ok (hQ _ (by omega) (by omega)) [_] (by simp) (by simp) | exact pick_ok (hQ _ (by omega) (by omega)) [_, _] (by simp) (by simp) | exact pick_ok (hQ _ (by omega) (by omega)) [_, _, _] (by simp) (by simp) | exact pick_ok (hQ _ (by omega) (by omega)) [_, _, _, _] (by simp) (by simp) | exact pick_ok (hQ _ (by omega) (by omega)) [_, _, _, _, _] (by simp) (by simp) | exact pick_ok (hQ _ (by omega) (by omega)) [_, _, _, _, _, _] (by simp) (by simp) | exact pick_ok (hQ _ (by omega) (by omega)) [_, _, _, _, _, _, _] (by simp) (by simp) | exact pick_ok (hQ _ (by omega) (by omega)) [_, _, _, _, _, _, _, _] (by simp) (by simp) | exact pick_ok (hQ _ (by omega) (by omega)) [_, _, _, _, _, _, _, _, _] (by simp) (by simp) | exact pick_ok (hQ _ (by omega) (by omega)) [_, _, _, _, _, _, _, _, _, _] (by simp) (by simp) | exact some_ok (hQ _ (by omega) (by omega)) [_] (by simp) (by simp) | exact some_ok (hQ _ (by omega) (by omega)) [_, _] (by simp) (by simp) | exact some_ok (hQ _ (by omega) (by omega)) [_, _, _] (by simp) (by simp) | exact some_ok (hQ _ (by omega) (by omega)) [_, _, _, _] (by simp) (by simp) | exact some_ok (hQ _ (by omega) (by omega)) [_, _, _, _, _] (by simp) (by simp) | exact some_ok (hQ _ (by omega) (by omega)) [_, _, _, _, _, _] (by simp) (by simp) | exact some_ok (hQ _ (by omega) (by omega)) [_, _, _, _, _, _, _] (by simp) (by simp) | exact some_ok (hQ _ (by omega) (by omega)) [_, _, _, _, _, _, _, _] (by simp) (by simp)) ?_; conv => whnf)
          | (refine CallG.mk _ _ (by first | exact flip_ok (hQ _ (by omega) (by omega)) _ (by omega) | exact next_ok (hQ _ (by omega) (by omega)) _ (by omega) | exact range_ok (hQ _ (by omega) (by omega)) _ _ (by omega) (small_lit (by omega)) (small_lit (by omega)) | exact odd_ok (hQ _ (by omega) (by omega)) (hQ _ (by omega) (by omega)) _ _ (small_lit (by omega)) (small_lit (by omega)) (by omega) | exact pick_ok (hQ _ (by omega) (by omega)) [_] (by simp) (by simp) | exact pick_ok (hQ _ (by omega) (by omega)) [_, _] (by simp) (by simp) | exact pick_ok (hQ _ (by omega) (by omega)) [_, _, _] (by simp) (by simp) | exact pick_ok (hQ _ (by omega) (by omega)) [_, _, _, _] (by simp) (by simp) | exact pick_ok (hQ _ (by omega) (by omega)) [_, _, _, _, _] (by simp) (by simp) | exact pick_ok (hQ _ (by omega) (by omega)) [_, _, _, _, _, _] (by simp) (by simp) | exact pick_ok (hQ _ (by omega) (by omega)) [_, _, _, _, _, _, _] (by simp) (by simp) | exact pick_ok (hQ _ (by omega) (by omega)) [_, _, _, _, _, _, _, _] (by simp) (by simp) | exact pick_ok (hQ _ (by omega) (by omega)) [_, _, _, _, _, _, _, _, _] (by simp) (by simp) | exact pick_ok (hQ _ (by omega) (by omega)) [_, _, _, _, _, _, _, _, _, _] (by simp) (by simp) | exact some_ok (hQ _ (by omega) (by omega)) [_] (by simp) (by simp) | exact some_ok (hQ _ (by omega) (by omega)) [_, _] (by simp) (by simp) | exact some_ok (hQ _ (by omega) (by omega)) [_, _, _] (by simp) (by simp) | exact some_ok (hQ _ (by omega) (by omega)) [_, _, _, _] (by simp) (by simp) | exact some_ok (hQ _ (by omega) (by omega)) [_, _, _, _, _] (by simp) (by simp) | exact some_ok (hQ _ (by omega) (by omega)) [_, _, _, _, _, _] (by simp) (by simp) | exact some_ok (hQ _ (by omega) (by omega)) [_, _, _, _, _, _, _] (by simp) (by simp) | exact some_ok (hQ _ (by omega) (by omega)) [_, _, _, _, _, _, _, _] (by simp) (by simp)) ?_; conv => whnf)
          | (refine Ask.mk (by first | omega | (unfold roomOK; simp [cutRows]; done) | (unfold roomOK; simp [cutRows]; omega) | (simp [cutRows]; done) | (simp [cutRows]; omega)) ?_; conv => whnf)
          | (refine SliceG.fr ?_; conv => whnf)
          | (refine idx_at _ (by with_reducible rfl) (by first | assumption | omega) ?_; conv => whnf)
          | ((with_reducible refine row_map (by first | assumption | omega) ?_); conv => whnf)
          | (refine row_str (by rfl) (by first | (simp [cutRows]; done) | (simp [cutRows]; omega)) ?_; intro str; conv => whnf)
          | ((with_reducible refine row_set (by first | assumption | omega | (simp only [List.length_set]; omega) | (simp; omega)) ?_); conv => whnf)
          | fail)
        · refine count_next (q' + 1, l ++ [(⟨_, [_], _⟩ : Sv)]) hk (by rw [wrap_succ hk (by omega), List.map_append]; rfl) ⟨by simp; omega, ?_, by simp only; omega, by simp only; omega⟩
          intro x hx
          rcases List.mem_append.1 hx with hx | hx
          · exact h2 x hx
          · simp at hx; subst hx
            refine ⟨⟨by simp, fun e he => ?_⟩, by simp⟩
            simp at he; subst he
            exact all_names (by rfl) (someV_mem _ _ _ (by simp) (by simp))
        · refine count_next (q', l ++ [(⟨_, ks, _⟩ : Sv)]) hk (by rw [wrap_succ hk (by omega), List.map_append]; rfl) ⟨by simp; omega, ?_, by simp only; omega, by simp only; omega⟩
          intro x hx
          rcases List.mem_append.1 hx with hx | hx
          · exact h2 x hx
          · simp at hx; subst hx
            exact ⟨⟨by simp only; omega, g2⟩, by simp only; omega⟩
  · intro q l ⟨h1, h2, h3, h4⟩
    as_aux_lemma =>
     have hlm : (l.map encSv).length = l.length := List.length_map ..
     have hQ : ∀ x : Int, q ≤ x → x ≤ q + 14 → StOk L x := fun x h3 h4 => hS x (by omega) (by omega)
     have ni : 0 < (((l.map encSv).length : Nat) : Int) → 0 ≤ nextV L (q + 1) ((l.map encSv).length : Nat) ∧ nextV L (q + 1) ((l.map encSv).length : Nat) < ((l.map encSv).length : Nat) := fun h => nextV_lt _ _ _ (by omega)
     have hset : ∀ (i : Nat) (hi : i < l.length) (y : Sv), SvG y → ∀ x ∈ l.set i y, SvG x := by
       intro i hi y hy x hx
       rcases List.mem_or_eq_of_mem_set hx with hx | rfl
       · exact (h2 x hx).1
       · exact hy
     have hG : ∀ (i : Nat) (hi : i < l.length), SvG l[i] := fun i hi => (h2 _ (List.getElem_mem hi)).1
     conv => whnf
     repeat' (first
       | (refine Split.mk (fun h => ?_) (fun h => ?_) <;> (try simp only [decide_eq_true_eq, decide_eq_false_iff_not, Bool.not_eq_true', Bool.not_eq_false', beq_iff_eq, beq_eq_false_iff_ne, bne_iff_ne, bne_eq_false_iff_eq] at h) <;> (first | (exfalso; first | omega | exact h trivial | (simp [cutRows] at h; done) | (simp [cutRows] at h; omega)) | (conv => whnf)))
       | (refine CondG.mk (fun h => ?_) (fun h => ?_) <;> (try simp only [decide_eq_true_eq, decide_eq_false_iff_not, Bool.not_eq_true', Bool.not_eq_false', beq_iff_eq, beq_eq_false_iff_ne, bne_iff_ne, bne_eq_false_iff_eq] at h) <;> (first | (exfalso; first | omega | exact h trivial | (simp [cutRows] at h; done) | (simp [cutRows] at h; omega)) | (conv => whnf)))
       | (refine CallX.mk _ _ (by first | exact flip_ok (hQ _ (by omega) (by omega)) _ (by omega) | exact next_ok (hQ _ (by omega) (by omega)) _ (by omega) | exact range_ok (hQ _ (by omega) (by omega)) _ _ (by omega) (small_lit (by omega)) (small_lit (by omega)) | exact odd_ok (hQ _ (by omega) (by omega)) (hQ _ (by omega) (by omega)) _ _ (small_lit (by omega)) (small_lit (by omega)) (by omega) | exact pick_ok (hQ _ (by omega) (by omega)) [_] (by simp) (by simp) | exact pick_ok (hQ _ (by omega) (by omega)) [_, _] (by simp) (by simp) | exact pick_ok (hQ _ (by omega) (by omega)) [_, _, _] (by simp) (by simp) | exact pick_ok (hQ _ (by omega) (by omega)) [_, _, _, _] (by simp) (by simp) | exact pick_ok (hQ _ (by omega) (by omega)) [_, _, _, _, _] (by simp) (by simp) | exact pick_ok (hQ _ (by omega) (by omega)) [_, _, _, _, _, _] (by simp) (by simp) | exact pick_ok (hQ _ (by omega) (by omega)) [_, _, _, _, _, _, _] (by simp) (by simp) | exact pick_ok (hQ _ (by omega) (by omega)) [_, _, _, _, _, _, _, _] (by simp) (by simp) | exact pick_ok (hQ _ (by omega) (by omega)) [_, _, _, _, _, _, _, _, _] (by simp) (by simp) | exact pick_ok (hQ _ (by omega) (by omega)) [_, _, _, _, _, _, _, _, _, _] (by simp) (by simp) | exact some_ok (hQ _ (by omega) (by omega)) [_] (by simp) (by simp) | exact some_ok (hQ _ (by omega) (by omega)) [_, _] (by simp) (by simp) | exact some_ok (hQ _ (by omega) (by omega)) [_, _, _] (by simp) (by simp) | exact some_ok (hQ _ (by omega) (by omega)) [_, _, _, _] (by simp) (by simp) | exact some_ok (hQ _ (by omega) (by omega)) [_, _, _, _, _] (by simp) (by simp) | exact some_ok (hQ _ (by omega) (by omega)) [_, _, _, _, _, _] (by simp) (by simp) | exact some_ok (hQ _ (by omega) (by omega)) [_, _, _, _, _, _, _] (by simp) (by simp) | exact some_ok (hQ _ (by omega) (by omega)) [_, _, _, _, _, _, _, _] (by simp) (by simp) | exact cloneS_pc _ (Nat.le_trans (h2 _ (List.getElem_mem _)).2 (by decide))) ?_; conv => whnf)
       | (refine CallG.mk _ _ (by first | exact flip_ok (hQ _ (by omega) (by omega)) _ (by omega) | exact next_ok (hQ _ (by omega) (by omega)) _ (by omega) | exact range_ok (hQ _ (by omega) (by omega)) _ _ (by omega) (small_lit (by omega)) (small_lit (by omega)) | exact odd_ok (hQ _ (by omega) (by omega)) (hQ _ (by omega) (by omega)) _ _ (small_lit (by omega)) (small_lit (by omega)) (by omega) | exact pick_ok (hQ _ (by omega) (by omega)) [_] (by simp) (by simp) | exact pick_ok (hQ _ (by omega) (by omega)) [_, _] (by simp) (by simp) | exact pick_ok (hQ _ (by omega) (by omega)) [_, _, _] (by simp) (by simp) | exact pick_ok (hQ _ (by omega) (by omega)) [_, _, _, _] (by simp) (by simp) | exact pick_ok (hQ _ (by omega) (by omega)) [_, _, _, _, _] (by simp) (by simp) | exact pick_ok (hQ _ (by omega) (by omega)) [_, _, _, _, _, _] (by simp) (by simp) | exact pick_ok (hQ _ (by omega) (by omega)) [_, _, _, _, _, _, _] (by simp) (by simp) | exact pick_ok (hQ _ (by omega) (by omega)) [_, _, _, _, _, _, _, _] (by simp) (by simp) | exact pick_ok (hQ _ (by omega) (by omega)) [_, _, _, _, _, _, _, _, _] (by simp) (by simp) | exact pick_ok (hQ _ (by omega) (by omega)) [_, _, _, _, _, _, _, _, _, _] (by simp) (by simp) | exact some_ok (hQ _ (by omega) (by omega)) [_] (by simp) (by simp) | exact some_ok (hQ _ (by omega) (by omega)) [_, _] (by simp) (by simp) | exact some_ok (hQ _ (by omega) (by omega)) [_, _, _] (by simp) (by simp) | exact some_ok (hQ _ (by omega) (by omega)) [_, _, _, _] (by simp) (by simp) | exact some_ok (hQ _ (by omega) (by omega)) [_, _, _, _, _] (by simp) (by simp) | exact some_ok (hQ _ (by omega) (by omega)) [_, _, _, _, _, _] (by simp) (by simp) | exact some_ok (hQ _ (by omega) (by omega)) [_, _, _, _, _, _, _] (by simp) (by simp) | exact some_ok (hQ _ (by omega) (by omega)) [_, _, _, _, _, _, _, _] (by simp) (by simp) | exact cloneS_pc _ (Nat.le_trans (h2 _ (List.getElem_mem _)).2 (by decide))) ?_; conv => whnf)
       | (refine Ask.mk (by first | omega | (unfold roomOK; simp [cutRows]; done) | (unfold roomOK; simp [cutRows]; omega) | (simp [cutRows]; done) | (simp [cutRows]; omega)) ?_; conv => whnf)
       | (refine SliceG.fr ?_; conv => whnf)
       | (refine idx_at _ (by with_reducible rfl) (by first | assumption | omega) ?_; conv => whnf)
       | ((with_reducible refine row_map (by first | assumption | omega) ?_); conv => whnf)
       | (refine row_str (by rfl) (by first | (simp [cutRows]; done) | (simp [cutRows]; omega)) ?_; intro str; conv => whnf)
       | ((with_reducible refine row_set (by first | assumption | omega | (simp only [List.length_set]; omega) | (simp; omega)) ?_); conv => whnf)
       | ((refine .mk (room_small (Nat.le_trans (Nat.add_le_add (show _ ≤ 10 by rw [List.length_map]; exact Nat.le_trans (h2 _ (List.getElem_mem _)).2 (by decide)) (show _ ≤ 1 from Nat.le_refl _)) (by decide)) (by decide)) ?_); conv => whnf)
       | fail)
     all_goals try (exact .mk _ _ ⟨l, _, rfl, rfl, by omega, fun x hx => (h2 x hx).1, by omega, by omega⟩ (.frz 1 _ _ _ rfl (.weak [_] (.fro 1 _ _ rfl) rfl (Nat.le_refl _))))
     · simp only [List.set_set]
       refine .mk _ _ ⟨l.set (nextV L (q + 1) ((l.map encSv).length : Nat)).toNat ⟨someV L (q + 1 + 1 + 1) [(l[(nextV L (q + 1) ((l.map encSv).length : Nat)).toNat]'(by omega)).key, ⟨#[]⟩, ⟨#[115, 49]⟩, ⟨#[65]⟩], (l[(nextV L (q + 1) ((l.map encSv).length : Nat)).toNat]'(by omega)).els, pickV L (q + 1 + 1 + 1 + 1) [(l[(nextV L (q + 1) ((l.map encSv).length : Nat)).toNat]'(by omega)).cust, 0, 100001]⟩, _, rfl, rfl, by rw [List.length_set]; omega, hset _ (by omega) _ (hG _ (by omega)), by omega, by omega⟩ (.frz 1 _ _ _ rfl (.weak [_] (.fro 1 _ _ (by rw [List.map_set]; rfl)) rfl (Nat.le_refl _)))
     · refine .mk _ _ ⟨l.set (nextV L (q + 1) ((l.map encSv).length : Nat)).toNat ⟨(l[(nextV L (q + 1) ((l.map encSv).length : Nat)).toNat]'(by omega)).key, [], (l[(nextV L (q + 1) ((l.map encSv).length : Nat)).toNat]'(by omega)).cust⟩, _, rfl, rfl, by rw [List.length_set]; omega, hset _ (by omega) _ ⟨by simp, by simp⟩, by omega, by omega⟩ (.frz 1 _ _ _ rfl (.weak [_] (.deep 1 _ _ _ rfl (dw_rows ?_)) rfl (Nat.le_refl _)))
       rw [List.map_set]
       exact p2_set (p2_refl .refl) (P2.cons (.refl _) (P2.cons (.nils 1) (P2.cons (.refl _) P2.nil))) _
     · refine .mk _ _ ⟨l.set (nextV L (q + 1) ((l.map encSv).length : Nat)).toNat ⟨(l[(nextV L (q + 1) ((l.map encSv).length : Nat)).toNat]'(by omega)).key, (l[(nextV L (q + 1) ((l.map encSv).length : Nat)).toNat]'(by omega)).els ++ [someV L (q + 1 + 1 + 1) [⟨#[97]⟩, ⟨#[122, 122]⟩, ⟨#[]⟩, ⟨#[66]⟩]], (l[(nextV L (q + 1) ((l.map encSv).length : Nat)).toNat]'(by omega)).cust⟩, _, rfl, rfl, by rw [List.length_set]; omega, hset _ (by omega) _ ⟨?_, ?_⟩, by omega, by omega⟩ (.frz 1 _ _ _ rfl (.weak [_] (.fro 1 _ _ (by rw [List.map_set]; simp only [encSv, List.map_append]; rfl)) rfl (Nat.le_refl _)))
       · have := (h2 _ (List.getElem_mem (show (nextV L (q + 1) ((l.map encSv).length : Nat)).toNat < l.length by omega))).2
         simp only [List.length_append, List.length_cons, List.length_nil]; omega
       · intro e he
         rcases List.mem_append.1 he with he | he
         · exact (hG _ (by omega)).2 e he
         · simp at he; subst he
           exact all_names (by rfl) (someV_mem _ _ _ (by simp) (by simp))
end Go.Proofs.YteccacaonllceaaGreatDoor

/- Maps told by lists: what is in them. -/
namespace Go.Proofs.YteccacaonllceaaGreatDoor
set_option linter.unusedVariables false
set_option linter.unusedSimpArgs false
namespace Abs
section
variable {κ β : Type} [DecidableEq κ]
theorem SM.get_of {s : SM κ β} (h : s.ok) {e : Nat × κ × β} (he : e ∈ s.es) : s.get e.2.1 = some e.2.2 := by
  have hk := h.kn
  unfold SM.get SM.m at *
  generalize s.es = es at he hk
  clear h
  induction es with
  | nil => cases he
  | cons a r ih =>
    simp only [List.map_cons, List.nodup_cons] at hk
    rcases List.mem_cons.1 he with rfl | he
    · simp [mget]
    · have hne : ¬ a.2.1 = e.2.1 := by
        intro h2
        exact hk.1 (by rw [h2]; exact List.mem_map.2 ⟨e.2, List.mem_map.2 ⟨e, he, rfl⟩, rfl⟩)
      have := ih he hk.2
      simpa [mget, List.find?_cons, hne] using this
theorem SM.mem_of {s : SM κ β} {x : κ} {y : β} (h : s.get x = some y) : ∃ n, (n, x, y) ∈ s.es := by
  unfold SM.get SM.m at h
  generalize s.es = es at h
  induction es with
  | nil => simp [mget] at h
  | cons a r ih =>
    by_cases hx : a.2.1 = x
    · have hy : a.2.2 = y := by simpa [mget, List.find?_cons, hx] using h
      exact ⟨a.1, by rw [← hx, ← hy]; simp⟩
    · obtain ⟨n, hn⟩ := ih (by simpa [mget, List.find?_cons, hx] using h)
      exact ⟨n, by simp [hn]⟩
omit [DecidableEq κ] in
theorem SM.keys_nd {s : SM κ β} (h : s.ok) : (s.es.map (·.2.1)).Nodup := by
  have := h.kn
  rw [SM.m, List.map_map] at this
  exact this
theorem eput_lenG (c : Nat) : ∀ (es : List (Nat × κ × β)) (x : κ) (y : β), (eput c es x y).length ≤ es.length + 1
  | [], _, _ => by simp [eput]
  | e :: r, x, y => by
    unfold eput
    split
    · simp
    · have := eput_lenG c r x y; simp; omega
/-- the same value under many keys -/
def putAll (m : SM κ β) (l : List κ) (b : β) : SM κ β := l.foldl (fun m x => m.put x b) m
theorem putAll_get (b : β) (x : κ) : ∀ (l : List κ) (m : SM κ β), (putAll m l b).get x = if x ∈ l then some b else m.get x
  | [], m => by simp [putAll]
  | a :: r, m => by
    have ih := putAll_get b x r (m.put a b)
    unfold putAll at ih ⊢
    rw [List.foldl_cons, ih, SM.get_put]
    by_cases h1 : x ∈ r <;> by_cases h2 : a = x
    · simp [h1]
    · simp [h1]
    · simp [h1, h2]
    · have h3 : ¬ x = a := fun e => h2 e.symm
      simp [h1, h2, h3]
theorem putAll_ok {b : β} : ∀ (l : List κ) {m : SM κ β}, m.ok → (putAll m l b).ok
  | [], m, h => h
  | a :: r, m, h => putAll_ok r (h.put a b)
theorem putAll_len {b : β} : ∀ (l : List κ) (m : SM κ β), (putAll m l b).es.length ≤ m.es.length + l.length
  | [], m => by simp [putAll]
  | a :: r, m => by
    have h1 := putAll_len (b := b) r (m.put a b)
    have h2 := eput_lenG m.clock m.es a b
    unfold putAll at h1 ⊢
    rw [List.foldl_cons]
    have h3 : (m.put a b).es.length = (eput m.clock m.es a b).length := rfl
    simp only [List.length_cons]; omega
theorem putAll_app {b : β} (m : SM κ β) (l l' : List κ) : putAll m (l ++ l') b = putAll (putAll m l b) l' b := List.foldl_append
theorem putAll_succ {b : β} (m : SM κ β) (l : List κ) {k : Nat} (h : k < l.length) : putAll m (l.take (k + 1)) b = (putAll m (l.take k) b).put l[k] b := by
  rw [List.take_succ_eq_append_getElem h, putAll_app]; rfl
end
abbrev ekB : ByteArray → S := fun b => .c (.str b)
abbrev evT : Bool → S := fun b => .c (.bool b)
abbrev MB := SM ByteArray Bool
/-- the keys that are true -/
def ktL (es : List (Nat × ByteArray × Bool)) : List ByteArray := (es.filter fun e => e.2.2).map (·.2.1)
theorem ktL_len (es : List (Nat × ByteArray × Bool)) : (ktL es).length ≤ es.length := by unfold ktL; rw [List.length_map]; exact List.length_filter_le _ _
theorem ktL_mem {m : MB} (h : m.ok) (n : ByteArray) : n ∈ ktL m.es ↔ m.get n = some true := by
  unfold ktL
  constructor
  · intro hn
    obtain ⟨e, he, rfl⟩ := List.mem_map.1 hn
    obtain ⟨h1, h2⟩ := List.mem_filter.1 he
    rw [SM.get_of h h1, h2]
  · intro hn
    obtain ⟨k, hk⟩ := SM.mem_of hn
    exact List.mem_map.2 ⟨(k, n, true), List.mem_filter.2 ⟨hk, rfl⟩, rfl⟩
theorem ktL_nd {m : MB} (h : m.ok) : (ktL m.es).Nodup := ((List.filter_sublist).map _).nodup (SM.keys_nd h)
end Abs
end Go.Proofs.YteccacaonllceaaGreatDoor

/- Suspects. -/
namespace Go.Proofs.YteccacaonllceaaGreatDoor
set_option linter.unusedVariables false
set_option linter.unusedSimpArgs false
open Abs

/-- sorted, each once -/
theorem srt_one {a b : List ByteArray} (hp : a.Perm b) : insSort cmpS a = insSort cmpS b := by
  refine sorted_one (c := cmpS) (swo_key id) ?_ ((insSort_perm cmpS a).trans (hp.trans (insSort_perm cmpS b).symm)) (insSort_srt (swo_key id) a) (insSort_srt (swo_key id) b)
  intro x y h1 h2
  rw [cmp_lt] at h1 h2
  rcases ltB_tri x y with h | h | h
  · exact (h1 h).elim
  · exact h
  · exact (h2 h).elim
theorem srt_rise {a : List ByteArray} (hn : a.Nodup) : Rise id (insSort cmpS a) := by
  refine rise_of (key := id) (insSort_srt (swo_key id) a) ?_
  rw [List.map_id]
  exact ((insSort_perm cmpS a).nodup_iff).2 hn
def risV (m : MB) : List ByteArray := insSort cmpS (ktL m.es)
theorem risV_rise {m : MB} (h : m.ok) : Rise id (risV m) := srt_rise (ktL_nd h)
theorem risV_mem {m : MB} (h : m.ok) (x : ByteArray) : x ∈ risV m ↔ m.get x = some true := by
  unfold risV; rw [(insSort_perm cmpS _).mem_iff, ktL_mem h]
theorem risV_len (m : MB) : (risV m).length ≤ m.es.length := by unfold risV; rw [insSort_len]; exact ktL_len _
set_option maxRecDepth 100000 in
set_option maxHeartbeats 4000000 in
theorem fRising_pc (m : MB) (hok : m.ok) (hl : m.es.length ≤ 1000000) : PCp 86 [.c (.mp 0)] [smO ekB evT m] (.c (.lst 1 ((risV m).map encS))) [smO ekB evT m] := by
  refine fn_sound (mt := mts) tab_fits tab_mixed Tryz.func86 (by rfl) (by kernel_rfl) (by kernel_rfl) Tryz.results86 (Nat.le_of_ble_eq_true (by kernel_rfl)) ?_
  conv => whnf
  refine loop_meas (fun (vis : List (Nat × ByteArray × Bool)) => m.es.length - vis.length) [.sl 3 9 1] [3, 7] (fun (vis : List (Nat × ByteArray × Bool)) => ⟨[(3, .c (.row 1)), (7, .c (.ptr 2 0))], [(0, smO ekB evT m), (1, .row 9 1 ((ktL vis.reverse).map encS)), (2, .iter 0 m.clock (vis.map (·.1)))], 3⟩) (fun (vis : List (Nat × ByteArray × Bool)) => Vis m vis) ([]) ?_ ?_
  · conv => whnf
    exact ⟨rfl, Vis.nil _⟩
  · intro vis hv
    have hvl := hv.len
    have hsl := ktL_len vis.reverse
    rw [List.length_reverse] at hsl
    have hslm : ((ktL vis.reverse).map encS).length = (ktL vis.reverse).length := List.length_map ..
    conv => whnf
    refine .mk rfl ?_
    conv => whnf
    refine sm_next hok hv (fun hp => ?_) (fun e he hn hv' hlt => ?_)
    · conv => whnf
      have hpr : (ktL vis.reverse).Perm (ktL m.es) := (((List.reverse_perm vis).trans hp).filter _).map _
      repeat' (first
        | (refine Split.mk (fun h => ?_) (fun h => ?_) <;> (try simp only [decide_eq_true_eq, decide_eq_false_iff_not, Bool.not_eq_true', Bool.not_eq_false', beq_iff_eq, beq_eq_false_iff_ne, bne_iff_ne, bne_eq_false_iff_eq] at h) <;> (first | (exfalso; first | omega | exact h trivial) | (conv => whnf)))
        | (refine CondG.mk (fun h => ?_) (fun h => ?_) <;> (try simp only [decide_eq_true_eq, decide_eq_false_iff_not, Bool.not_eq_true', Bool.not_eq_false', beq_iff_eq, beq_eq_false_iff_ne, bne_iff_ne, bne_eq_false_iff_eq] at h) <;> (first | (exfalso; first | omega | exact h trivial) | (conv => whnf)))
        | (refine CallX.mk _ _ (by first | exact sortG_pc (ktL vis.reverse) (by omega)) ?_; conv => whnf)
        | (refine CallG.mk _ _ (by first | exact sortG_pc (ktL vis.reverse) (by omega)) ?_; conv => whnf)
        | (refine Ask.mk (by first | omega | (unfold roomOK; simp [cutRows]; done) | (unfold roomOK; simp [cutRows]; omega) | (simp [cutRows]; done) | (simp [cutRows]; omega)) ?_; conv => whnf)
        | (refine SliceG.fr ?_; conv => whnf)
        | (refine idx_at _ (by with_reducible rfl) (by first | assumption | omega) ?_; conv => whnf)
        | ((with_reducible refine row_map (by first | assumption | omega) ?_); conv => whnf)
        | ((with_reducible refine row_set (by first | assumption | omega | (simp only [List.length_set]; omega) | (simp; omega)) ?_); conv => whnf)
        | fail)
      have h1 : insSort cmpS (ktL vis.reverse) = risV m := srt_one hpr
      rw [h1]
      first
        | exact .frz 1 _ _ _ rfl (.weak [_, _] (.fro 1 _ _ rfl) rfl (Nat.le_refl _))
        | exact .frz 1 _ _ _ rfl (.weak [_] (.fro 1 _ _ rfl) rfl (Nat.le_refl _))
    · obtain ⟨en, ek, eb⟩ := e
      have h1 : ktL ((en, ek, eb) :: vis).reverse = ktL vis.reverse ++ (if eb then [ek] else []) := by
        cases eb <;> simp [ktL]
      conv => whnf
      refine .mk rfl ?_
      conv => whnf
      refine sm_at hok he ?_
      conv => whnf
      repeat' (first
        | (refine Split.mk (fun h => ?_) (fun h => ?_) <;> (try simp only [decide_eq_true_eq, decide_eq_false_iff_not, Bool.not_eq_true', Bool.not_eq_false', beq_iff_eq, beq_eq_false_iff_ne, bne_iff_ne, bne_eq_false_iff_eq] at h) <;> (first | (exfalso; first | omega | exact h trivial) | (conv => whnf)))
        | (refine CondG.mk (fun h => ?_) (fun h => ?_) <;> (try simp only [decide_eq_true_eq, decide_eq_false_iff_not, Bool.not_eq_true', Bool.not_eq_false', beq_iff_eq, beq_eq_false_iff_ne, bne_iff_ne, bne_eq_false_iff_eq] at h) <;> (first | (exfalso; first | omega | exact h trivial) | (conv => whnf)))
        | (refine Ask.mk (by first | omega | (unfold roomOK; simp [cutRows]; done) | (unfold roomOK; simp [cutRows]; omega) | (simp [cutRows]; done) | (simp [cutRows]; omega)) ?_; conv => whnf)
        | (refine SliceG.fr ?_; conv => whnf)
        | (refine idx_at _ (by with_reducible rfl) (by first | assumption | omega) ?_; conv => whnf)
        | ((with_reducible refine row_map (by first | assumption | omega) ?_); conv => whnf)
        | ((with_reducible refine row_set (by first | assumption | omega | (simp only [List.length_set]; omega) | (simp; omega)) ?_); conv => whnf)
        | fail)
      · exact meas_next ((en, ek, eb) :: vis) (by simp only [List.length_cons]; omega) (by rw [h1, if_pos h, List.map_append]; rfl) hv'
      · exact meas_next ((en, ek, eb) :: vis) (by simp only [List.length_cons]; omega) (by rw [h1, if_neg (by rw [h]; decide), List.append_nil]; rfl) hv'
/-! what can be broken -/
def elsOf (s : List Sv) (l : List ByteArray) : List ByteArray := l.flatMap fun k => (svG s k).els
def susM (s : List Sv) (down up : List ByteArray) : MB := putAll (putAll SM.nil (elsOf s down) true) (elsOf s up) false
def susV (s : List Sv) (down up : List ByteArray) : List ByteArray := risV (susM s down up)
theorem susM_ok (s : List Sv) (down up : List ByteArray) : (susM s down up).ok := putAll_ok _ (putAll_ok _ SM.ok_nil)
theorem susV_rise (s : List Sv) (down up : List ByteArray) : Rise id (susV s down up) := risV_rise (susM_ok ..)
theorem susV_mem (s : List Sv) (down up : List ByteArray) (x : ByteArray) : x ∈ susV s down up ↔ x ∈ elsOf s down ∧ x ∉ elsOf s up := by
  unfold susV
  rw [risV_mem (susM_ok ..)]
  unfold susM
  rw [putAll_get, putAll_get]
  by_cases h1 : x ∈ elsOf s up <;> by_cases h2 : x ∈ elsOf s down <;> simp [h1, h2, SM.get_nil]
theorem elsOf_succ (s : List Sv) (l : List ByteArray) {k : Nat} (h : k < l.length) : elsOf s (l.take (k + 1)) = elsOf s (l.take k) ++ (svG s l[k]).els := by
  rw [List.take_succ_eq_append_getElem h]; unfold elsOf; rw [List.flatMap_append]; simp
theorem elsOf_len {s : List Sv} (hs : SvOk s) : ∀ {l : List ByteArray}, (∀ k ∈ l, hasSv s k = true) → (elsOf s l).length ≤ 100 * l.length
  | [], _ => by simp [elsOf]
  | a :: r, h => by
    have ih := elsOf_len hs (l := r) (fun k hk => h k (by simp [hk]))
    obtain ⟨x, hx, hk⟩ := hasSv_iff.1 (h a (by simp))
    have h1 : svG s a = x := by rw [← hk]; exact svG_mem hs.rise hx
    have h2 := (hs.each x hx).len
    unfold elsOf at ih ⊢
    rw [List.flatMap_cons, List.length_append, h1]
    simp only [List.length_cons]; omega
set_option maxRecDepth 100000 in
set_option maxHeartbeats 4000000 in
theorem fSuspects_pc (s : List Sv) (hs : SvOk s) (down up : List ByteArray) (hd : StOkL s down) (hu : StOkL s up) :
    PCp 62 [.c (.lst 3 (s.map encSv)), .c (.lst 1 (down.map encS)), .c (.lst 1 (up.map encS))] [] (.c (.lst 1 ((susV s down up).map encS))) [] := by
  have hsl := hs.len
  have hdl := hd.len
  have hul := hu.len
  have hdm : (down.map encS).length = down.length := List.length_map ..
  have hum : (up.map encS).length = up.length := List.length_map ..
  have hsm : (s.map encSv).length = s.length := List.length_map ..
  have hat : ∀ k, hasSv s k = true → ∃ i, ∃ hi : i < s.length, svIx s k = ((i : Nat) : Int) ∧ s[i] = svG s k ∧ s[i].els.length ≤ 100 := by
    intro k hk
    rcases svIx_or hs.rise k with ⟨h1, _⟩ | ⟨_, i, hi, h2, h3⟩
    · rw [h1] at hk; cases hk
    · exact ⟨i, hi, h2, h3, (hs.each _ (List.getElem_mem hi)).len⟩
  refine fn_sound (mt := mts) tab_fits tab_mixed Tryz.func62 (by rfl) (by kernel_rfl) (by kernel_rfl) Tryz.results62 (Nat.le_of_ble_eq_true (by kernel_rfl)) ?_
  conv => whnf
  refine loop_for (down.length) [] [0, 2, 7, 17, 18, 19] (fun k (_ : Unit) => [(19, .c (.int .i64 (k : Int)))]) (fun k (_ : Unit) => [(0, smO ekB evT (putAll SM.nil (elsOf s (down.take k)) true))]) (fun k (_ : Unit) => True) (()) ?_
  conv => whnf
  refine ⟨(by first | rfl | (simp; done) | (simp; rfl)), (by trivial), ?_, ?_⟩
  · intro k _ hk _
    obtain ⟨i, hi, h2, h3, h4⟩ := hat _ (hd.has _ (List.getElem_mem hk))
    have hem : (s[i].els.map encS).length = s[i].els.length := List.length_map ..
    conv => whnf
    repeat' (first
      | (refine Split.mk (fun h => ?_) (fun h => ?_) <;> (try simp only [decide_eq_true_eq, decide_eq_false_iff_not, Bool.not_eq_true', Bool.not_eq_false', beq_iff_eq, beq_eq_false_iff_ne, bne_iff_ne, bne_eq_false_iff_eq] at h) <;> (first | (exfalso; first | omega | exact h trivial) | (conv => whnf)))
      | (refine CondG.mk (fun h => ?_) (fun h => ?_) <;> (try simp only [decide_eq_true_eq, decide_eq_false_iff_not, Bool.not_eq_true', Bool.not_eq_false', beq_iff_eq, beq_eq_false_iff_ne, bne_iff_ne, bne_eq_false_iff_eq] at h) <;> (first | (exfalso; first | omega | exact h trivial) | (conv => whnf)))
      | (refine CallX.mk _ _ (by first | exact fFind_pc s hs.rise (by omega) _) ?_; conv => whnf)
      | (refine CallG.mk _ _ (by first | exact fFind_pc s hs.rise (by omega) _) ?_; conv => whnf)
      | (refine Ask.mk (by first | omega | (unfold roomOK; simp [cutRows]; done) | (unfold roomOK; simp [cutRows]; omega) | (simp [cutRows]; done) | (simp [cutRows]; omega)) ?_; conv => whnf)
      | (refine SliceG.fr ?_; conv => whnf)
      | (refine idx_at _ (by with_reducible rfl) (by first | assumption | omega) ?_; conv => whnf)
      | ((with_reducible refine row_map (by first | assumption | omega) ?_); conv => whnf)
      | ((with_reducible refine row_set (by first | assumption | omega | (simp only [List.length_set]; omega) | (simp; omega)) ?_); conv => whnf)
      | ((rw [h2]; refine idx_map i hi rfl ?_); conv => whnf)
      | fail)
    refine loop_for (s[i].els.length) [] [0, 2, 7, 17, 18, 19, 29, 30, 31] (fun j (_ : Unit) => [(31, .c (.int .i64 (j : Int)))]) (fun j (_ : Unit) => [(0, smO ekB evT (putAll (putAll SM.nil (elsOf s (down.take k)) true) (s[i].els.take j) true))]) (fun j (_ : Unit) => True) (()) ?_
    conv => whnf
    refine ⟨(by first | rfl | (simp; done) | (simp; rfl)), (by trivial), ?_, ?_⟩
    · intro j _ hj _
      conv => whnf
      repeat' (first
        | (refine Split.mk (fun h => ?_) (fun h => ?_) <;> (try simp only [decide_eq_true_eq, decide_eq_false_iff_not, Bool.not_eq_true', Bool.not_eq_false', beq_iff_eq, beq_eq_false_iff_ne, bne_iff_ne, bne_eq_false_iff_eq] at h) <;> (first | (exfalso; first | omega | exact h trivial) | (conv => whnf)))
        | (refine CondG.mk (fun h => ?_) (fun h => ?_) <;> (try simp only [decide_eq_true_eq, decide_eq_false_iff_not, Bool.not_eq_true', Bool.not_eq_false', beq_iff_eq, beq_eq_false_iff_ne, bne_iff_ne, bne_eq_false_iff_eq] at h) <;> (first | (exfalso; first | omega | exact h trivial) | (conv => whnf)))
        | (refine Ask.mk (by first | omega | (unfold roomOK; simp [cutRows]; done) | (unfold roomOK; simp [cutRows]; omega) | (simp [cutRows]; done) | (simp [cutRows]; omega)) ?_; conv => whnf)
        | (refine SliceG.fr ?_; conv => whnf)
        | (refine idx_at _ (by with_reducible rfl) (by first | assumption | omega) ?_; conv => whnf)
        | ((with_reducible refine row_map (by first | assumption | omega) ?_); conv => whnf)
        | ((with_reducible refine row_set (by first | assumption | omega | (simp only [List.length_set]; omega) | (simp; omega)) ?_); conv => whnf)
        | ((with_reducible refine sm_look (ek := ekB) (ev := evT) keyStr _ _ (false) ?_ ?_); exact rfl; conv => whnf)
        | ((with_reducible refine sm_upd (ek := ekB) (ev := evT) keyStr _ _ true ?_); conv => whnf)
        | ((with_reducible refine sm_del (ek := ekB) (ev := evT) keyStr _ _ ?_); conv => whnf)
        | ((with_reducible refine sm_entry (ek := ekB) (ev := evT) keyStr _ _ (false) ?_ ?_); exact rfl; conv => whnf)
        | fail)
      exact count_next () hj (by rw [wrap_succ hj (by omega), putAll_succ _ _ hj]; rfl) trivial
    · intro _ _
      rw [List.take_length]
      conv => whnf
      repeat' (first
        | (refine Split.mk (fun h => ?_) (fun h => ?_) <;> (try simp only [decide_eq_true_eq, decide_eq_false_iff_not, Bool.not_eq_true', Bool.not_eq_false', beq_iff_eq, beq_eq_false_iff_ne, bne_iff_ne, bne_eq_false_iff_eq] at h) <;> (first | (exfalso; first | omega | exact h trivial) | (conv => whnf)))
        | (refine CondG.mk (fun h => ?_) (fun h => ?_) <;> (try simp only [decide_eq_true_eq, decide_eq_false_iff_not, Bool.not_eq_true', Bool.not_eq_false', beq_iff_eq, beq_eq_false_iff_ne, bne_iff_ne, bne_eq_false_iff_eq] at h) <;> (first | (exfalso; first | omega | exact h trivial) | (conv => whnf)))
        | (refine Ask.mk (by first | omega | (unfold roomOK; simp [cutRows]; done) | (unfold roomOK; simp [cutRows]; omega) | (simp [cutRows]; done) | (simp [cutRows]; omega)) ?_; conv => whnf)
        | (refine SliceG.fr ?_; conv => whnf)
        | (refine idx_at _ (by with_reducible rfl) (by first | assumption | omega) ?_; conv => whnf)
        | ((with_reducible refine row_map (by first | assumption | omega) ?_); conv => whnf)
        | ((with_reducible refine row_set (by first | assumption | omega | (simp only [List.length_set]; omega) | (simp; omega)) ?_); conv => whnf)
        | fail)
      exact count_next () hk (by rw [wrap_succ hk (by omega), elsOf_succ s down hk, putAll_app, ← h3]; rfl) trivial
  · intro _ _
    rw [List.take_length]
    conv => whnf
    repeat' (first
      | (refine Split.mk (fun h => ?_) (fun h => ?_) <;> (try simp only [decide_eq_true_eq, decide_eq_false_iff_not, Bool.not_eq_true', Bool.not_eq_false', beq_iff_eq, beq_eq_false_iff_ne, bne_iff_ne, bne_eq_false_iff_eq] at h) <;> (first | (exfalso; first | omega | exact h trivial) | (conv => whnf)))
      | (refine CondG.mk (fun h => ?_) (fun h => ?_) <;> (try simp only [decide_eq_true_eq, decide_eq_false_iff_not, Bool.not_eq_true', Bool.not_eq_false', beq_iff_eq, beq_eq_false_iff_ne, bne_iff_ne, bne_eq_false_iff_eq] at h) <;> (first | (exfalso; first | omega | exact h trivial) | (conv => whnf)))
      | (refine Ask.mk (by first | omega | (unfold roomOK; simp [cutRows]; done) | (unfold roomOK; simp [cutRows]; omega) | (simp [cutRows]; done) | (simp [cutRows]; omega)) ?_; conv => whnf)
      | (refine SliceG.fr ?_; conv => whnf)
      | (refine idx_at _ (by with_reducible rfl) (by first | assumption | omega) ?_; conv => whnf)
      | ((with_reducible refine row_map (by first | assumption | omega) ?_); conv => whnf)
      | ((with_reducible refine row_set (by first | assumption | omega | (simp only [List.length_set]; omega) | (simp; omega)) ?_); conv => whnf)
      | fail)
    refine loop_for (up.length) [] [0, 7, 39, 40, 41] (fun k (_ : Unit) => [(41, .c (.int .i64 (k : Int)))]) (fun k (_ : Unit) => [(0, smO ekB evT (putAll (putAll SM.nil (elsOf s down) true) (elsOf s (up.take k)) false))]) (fun k (_ : Unit) => True) (()) ?_
    conv => whnf
    refine ⟨(by first | rfl | (simp; done) | (simp; rfl)), (by trivial), ?_, ?_⟩
    · intro k _ hk _
      obtain ⟨i, hi, h2, h3, h4⟩ := hat _ (hu.has _ (List.getElem_mem hk))
      have hem : (s[i].els.map encS).length = s[i].els.length := List.length_map ..
      conv => whnf
      repeat' (first
        | (refine Split.mk (fun h => ?_) (fun h => ?_) <;> (try simp only [decide_eq_true_eq, decide_eq_false_iff_not, Bool.not_eq_true', Bool.not_eq_false', beq_iff_eq, beq_eq_false_iff_ne, bne_iff_ne, bne_eq_false_iff_eq] at h) <;> (first | (exfalso; first | omega | exact h trivial) | (conv => whnf)))
        | (refine CondG.mk (fun h => ?_) (fun h => ?_) <;> (try simp only [decide_eq_true_eq, decide_eq_false_iff_not, Bool.not_eq_true', Bool.not_eq_false', beq_iff_eq, beq_eq_false_iff_ne, bne_iff_ne, bne_eq_false_iff_eq] at h) <;> (first | (exfalso; first | omega | exact h trivial) | (conv => whnf)))
        | (refine CallX.mk _ _ (by first | exact fFind_pc s hs.rise (by omega) _) ?_; conv => whnf)
        | (refine CallG.mk _ _ (by first | exact fFind_pc s hs.rise (by omega) _) ?_; conv => whnf)
        | (refine Ask.mk (by first | omega | (unfold roomOK; simp [cutRows]; done) | (unfold roomOK; simp [cutRows]; omega) | (simp [cutRows]; done) | (simp [cutRows]; omega)) ?_; conv => whnf)
        | (refine SliceG.fr ?_; conv => whnf)
        | (refine idx_at _ (by with_reducible rfl) (by first | assumption | omega) ?_; conv => whnf)
        | ((with_reducible refine row_map (by first | assumption | omega) ?_); conv => whnf)
        | ((with_reducible refine row_set (by first | assumption | omega | (simp only [List.length_set]; omega) | (simp; omega)) ?_); conv => whnf)
        | ((rw [h2]; refine idx_map i hi rfl ?_); conv => whnf)
        | fail)
      refine loop_for (s[i].els.length) [] [0, 7, 39, 40, 41, 51, 52, 53] (fun j (_ : Unit) => [(53, .c (.int .i64 (j : Int)))]) (fun j (_ : Unit) => [(0, smO ekB evT (putAll (putAll (putAll SM.nil (elsOf s down) true) (elsOf s (up.take k)) false) (s[i].els.take j) false))]) (fun j (_ : Unit) => True) (()) ?_
      conv => whnf
      refine ⟨(by first | rfl | (simp; done) | (simp; rfl)), (by trivial), ?_, ?_⟩
      · intro j _ hj _
        conv => whnf
        repeat' (first
          | (refine Split.mk (fun h => ?_) (fun h => ?_) <;> (try simp only [decide_eq_true_eq, decide_eq_false_iff_not, Bool.not_eq_true', Bool.not_eq_false', beq_iff_eq, beq_eq_false_iff_ne, bne_iff_ne, bne_eq_false_iff_eq] at h) <;> (first | (exfalso; first | omega | exact h trivial) | (conv => whnf)))
          | (refine CondG.mk (fun h => ?_) (fun h => ?_) <;> (try simp only [decide_eq_true_eq, decide_eq_false_iff_not, Bool.not_eq_true', Bool.not_eq_false', beq_iff_eq, beq_eq_false_iff_ne, bne_iff_ne, bne_eq_false_iff_eq] at h) <;> (first | (exfalso; first | omega | exact h trivial) | (conv => whnf)))
          | (refine Ask.mk (by first | omega | (unfold roomOK; simp [cutRows]; done) | (unfold roomOK; simp [cutRows]; omega) | (simp [cutRows]; done) | (simp [cutRows]; omega)) ?_; conv => whnf)
          | (refine SliceG.fr ?_; conv => whnf)
          | (refine idx_at _ (by with_reducible rfl) (by first | assumption | omega) ?_; conv => whnf)
          | ((with_reducible refine row_map (by first | assumption | omega) ?_); conv => whnf)
          | ((with_reducible refine row_set (by first | assumption | omega | (simp only [List.length_set]; omega) | (simp; omega)) ?_); conv => whnf)
          | ((with_reducible refine sm_look (ek := ekB) (ev := evT) keyStr _ _ (false) ?_ ?_); exact rfl; conv => whnf)
          | ((with_reducible refine sm_upd (ek := ekB) (ev := evT) keyStr _ _ false ?_); conv => whnf)
          | ((with_reducible refine sm_del (ek := ekB) (ev := evT) keyStr _ _ ?_); conv => whnf)
          | ((with_reducible refine sm_entry (ek := ekB) (ev := evT) keyStr _ _ (false) ?_ ?_); exact rfl; conv => whnf)
          | fail)
        exact count_next () hj (by rw [wrap_succ hj (by omega), putAll_succ _ _ hj]; rfl) trivial
      · intro _ _
        rw [List.take_length]
        conv => whnf
        repeat' (first
          | (refine Split.mk (fun h => ?_) (fun h => ?_) <;> (try simp only [decide_eq_true_eq, decide_eq_false_iff_not, Bool.not_eq_true', Bool.not_eq_false', beq_iff_eq, beq_eq_false_iff_ne, bne_iff_ne, bne_eq_false_iff_eq] at h) <;> (first | (exfalso; first | omega | exact h trivial) | (conv => whnf)))
          | (refine CondG.mk (fun h => ?_) (fun h => ?_) <;> (try simp only [decide_eq_true_eq, decide_eq_false_iff_not, Bool.not_eq_true', Bool.not_eq_false', beq_iff_eq, beq_eq_false_iff_ne, bne_iff_ne, bne_eq_false_iff_eq] at h) <;> (first | (exfalso; first | omega | exact h trivial) | (conv => whnf)))
          | (refine Ask.mk (by first | omega | (unfold roomOK; simp [cutRows]; done) | (unfold roomOK; simp [cutRows]; omega) | (simp [cutRows]; done) | (simp [cutRows]; omega)) ?_; conv => whnf)
          | (refine SliceG.fr ?_; conv => whnf)
          | (refine idx_at _ (by with_reducible rfl) (by first | assumption | omega) ?_; conv => whnf)
          | ((with_reducible refine row_map (by first | assumption | omega) ?_); conv => whnf)
          | ((with_reducible refine row_set (by first | assumption | omega | (simp only [List.length_set]; omega) | (simp; omega)) ?_); conv => whnf)
          | fail)
        exact count_next () hk (by rw [wrap_succ hk (by omega), elsOf_succ s up hk, putAll_app, ← h3]; rfl) trivial
    · intro _ _
      rw [List.take_length]
      have hml : (susM s down up).es.length ≤ 1000000 := by
        have h1 := putAll_len (b := false) (elsOf s up) (putAll SM.nil (elsOf s down) true)
        have h2 := putAll_len (b := true) (elsOf s down) (SM.nil : MB)
        have h3 := elsOf_len hs hd.has
        have h4 := elsOf_len hs hu.has
        have h5 : (SM.nil : MB).es.length = 0 := rfl
        unfold susM; omega
      conv => whnf
      repeat' (first
        | (refine Split.mk (fun h => ?_) (fun h => ?_) <;> (try simp only [decide_eq_true_eq, decide_eq_false_iff_not, Bool.not_eq_true', Bool.not_eq_false', beq_iff_eq, beq_eq_false_iff_ne, bne_iff_ne, bne_eq_false_iff_eq] at h) <;> (first | (exfalso; first | omega | exact h trivial) | (conv => whnf)))
        | (refine CondG.mk (fun h => ?_) (fun h => ?_) <;> (try simp only [decide_eq_true_eq, decide_eq_false_iff_not, Bool.not_eq_true', Bool.not_eq_false', beq_iff_eq, beq_eq_false_iff_ne, bne_iff_ne, bne_eq_false_iff_eq] at h) <;> (first | (exfalso; first | omega | exact h trivial) | (conv => whnf)))
        | (refine CallX.mk _ _ (by first | exact fRising_pc (susM s down up) (susM_ok ..) hml) ?_; conv => whnf)
        | (refine CallG.mk _ _ (by first | exact fRising_pc (susM s down up) (susM_ok ..) hml) ?_; conv => whnf)
        | (refine Ask.mk (by first | omega | (unfold roomOK; simp [cutRows]; done) | (unfold roomOK; simp [cutRows]; omega) | (simp [cutRows]; done) | (simp [cutRows]; omega)) ?_; conv => whnf)
        | (refine SliceG.fr ?_; conv => whnf)
        | (refine idx_at _ (by with_reducible rfl) (by first | assumption | omega) ?_; conv => whnf)
        | ((with_reducible refine row_map (by first | assumption | omega) ?_); conv => whnf)
        | ((with_reducible refine row_set (by first | assumption | omega | (simp only [List.length_set]; omega) | (simp; omega)) ?_); conv => whnf)
        | fail)
      first
        | exact .mk ⟨rfl, rfl⟩
        | exact .weak [] (.refl _) rfl (Nat.le_refl _)
        | exact .weak [_] (.refl _) rfl (Nat.le_refl _)
set_option maxRecDepth 100000 in
set_option maxHeartbeats 4000000 in
theorem fHas_pc {l : List ByteArray} (h : Rise id l) (hl : l.length ≤ 1000000) (t : ByteArray) : PCp 24 [.c (.lst 1 (l.map encS)), .c (.str t)] [] (.c (.bool (decide (t ∈ l)))) [] := by
  refine fn_sound (mt := mts) tab_fits tab_mixed Tryz.func24 (by rfl) (by kernel_rfl) (by kernel_rfl) Tryz.results24 (Nat.le_of_ble_eq_true (by kernel_rfl)) ?_
  conv => whnf
  repeat' (first
    | (refine Split.mk (fun h => ?_) (fun h => ?_) <;> (try simp only [decide_eq_true_eq, decide_eq_false_iff_not, Bool.not_eq_true', Bool.not_eq_false', beq_iff_eq, beq_eq_false_iff_ne, bne_iff_ne, bne_eq_false_iff_eq] at h) <;> (first | (exfalso; first | omega | exact h trivial) | (conv => whnf)))
    | (refine CondG.mk (fun h => ?_) (fun h => ?_) <;> (try simp only [decide_eq_true_eq, decide_eq_false_iff_not, Bool.not_eq_true', Bool.not_eq_false', beq_iff_eq, beq_eq_false_iff_ne, bne_iff_ne, bne_eq_false_iff_eq] at h) <;> (first | (exfalso; first | omega | exact h trivial) | (conv => whnf)))
    | (refine CallX.mk _ _ (by first | exact binG_pc h hl t) ?_; conv => whnf)
    | (refine CallG.mk _ _ (by first | exact binG_pc h hl t) ?_; conv => whnf)
    | (refine Ask.mk (by first | omega | (unfold roomOK; simp [cutRows]; done) | (unfold roomOK; simp [cutRows]; omega) | (simp [cutRows]; done) | (simp [cutRows]; omega)) ?_; conv => whnf)
    | (refine SliceG.fr ?_; conv => whnf)
    | (refine idx_at _ (by with_reducible rfl) (by first | assumption | omega) ?_; conv => whnf)
    | ((with_reducible refine row_map (by first | assumption | omega) ?_); conv => whnf)
    | ((with_reducible refine row_set (by first | assumption | omega | (simp only [List.length_set]; omega) | (simp; omega)) ?_); conv => whnf)
    | fail)
  exact finb rfl
set_option maxRecDepth 100000 in
set_option maxHeartbeats 4000000 in
theorem ixU_pc (cs : List (List V)) (g : Nat) (p : ByteArray → Bool) (l : List ByteArray) (hl : l.length ≤ 1000000) (hg : ∀ x ∈ l, PCp g [.c (.str x), .c (.ptr 0 0)] [.box [.lst 1 cs]] (.c (.bool (p x))) [.box [.lst 1 cs]]) : PCp 45 [.c (.lst 1 (l.map encS)), .c (.fn g [.ptr 0 0])] [.box [.lst 1 cs]] (.c (.int .i64 (idxP p l))) [.box [.lst 1 cs]] := by
  have hlm : (l.map encS).length = l.length := List.length_map ..
  refine fn_sound (mt := mts) tab_fits tab_mixed Tryz.func45 (by rfl) (by kernel_rfl) (by kernel_rfl) Tryz.results45 (Nat.le_of_ble_eq_true (by kernel_rfl)) ?_
  conv => whnf
  refine loop_count (l.length) [] [0, 1, 7, 8] (fun k (_ : Unit) => ⟨[(0, .c (.lst 1 (l.map encS))), (1, .c (.fn g [.ptr 0 0])), (7, .c (.int .i64 (l.map encS).length)), (8, .c (.int .i64 k))], [(0, .box [.lst 1 cs])], 1⟩) (fun k (_ : Unit) => ∀ i (hi : i < l.length), i < k → p l[i] = false) (()) ?_ ?_ ?_
  · conv => whnf
    exact ⟨rfl, by intro i hi h; omega⟩
  · intro k _ hk hi
    conv => whnf
    repeat' (first
      | (refine Split.mk (fun h => ?_) (fun h => ?_) <;> (try simp only [decide_eq_true_eq, decide_eq_false_iff_not, Bool.not_eq_true', Bool.not_eq_false', beq_iff_eq, beq_eq_false_iff_ne, bne_iff_ne, bne_eq_false_iff_eq] at h) <;> (first | (exfalso; first | omega | exact h trivial) | (conv => whnf)))
      | (refine CondG.mk (fun h => ?_) (fun h => ?_) <;> (try simp only [decide_eq_true_eq, decide_eq_false_iff_not, Bool.not_eq_true', Bool.not_eq_false', beq_iff_eq, beq_eq_false_iff_ne, bne_iff_ne, bne_eq_false_iff_eq] at h) <;> (first | (exfalso; first | omega | exact h trivial) | (conv => whnf)))
      | (refine CallX.mk _ _ (by first | exact hg l[k] (List.getElem_mem hk)) ?_; conv => whnf)
      | (refine CallG.mk _ _ (by first | exact hg l[k] (List.getElem_mem hk)) ?_; conv => whnf)
      | (refine Ask.mk (by first | omega | (unfold roomOK; simp [cutRows]; done) | (unfold roomOK; simp [cutRows]; omega) | (simp [cutRows]; done) | (simp [cutRows]; omega)) ?_; conv => whnf)
      | (refine SliceG.fr ?_; conv => whnf)
      | (refine idx_at _ (by with_reducible rfl) (by first | assumption | omega) ?_; conv => whnf)
      | ((with_reducible refine row_map (by first | assumption | omega) ?_); conv => whnf)
      | ((with_reducible refine row_set (by first | assumption | omega | (simp only [List.length_set]; omega) | (simp; omega)) ?_); conv => whnf)
      | fail)
    · exact .mk ⟨by rw [idxP_hit hk (fun i hi' => hi i (by omega) hi') h]; rfl, rfl⟩
    · refine count_next () hk (by rw [wrap_succ hk (by omega)]; rfl) ?_
      exact all_succ' hi h
  · intro _ hi
    conv => whnf
    repeat' (first
      | (refine Split.mk (fun h => ?_) (fun h => ?_) <;> (try simp only [decide_eq_true_eq, decide_eq_false_iff_not, Bool.not_eq_true', Bool.not_eq_false', beq_iff_eq, beq_eq_false_iff_ne] at h) <;> (first | (exfalso; first | omega | exact h trivial) | (conv => whnf)))
      | (refine CondG.mk (fun h => ?_) (fun h => ?_) <;> (try simp only [decide_eq_true_eq, decide_eq_false_iff_not, Bool.not_eq_true', Bool.not_eq_false', beq_iff_eq, beq_eq_false_iff_ne] at h) <;> (first | (exfalso; first | omega | exact h trivial) | (conv => whnf)))
      | (refine Ask.mk (by first | omega | (unfold roomOK; simp [cutRows]; done) | (unfold roomOK; simp [cutRows]; omega)) ?_; conv => whnf)
      | (refine SliceG.fr ?_; conv => whnf)
      | fail)
    exact .mk ⟨by rw [idxP_miss (fun i h => hi i h h)]; rfl, rfl⟩
set_option maxRecDepth 100000 in
set_option maxHeartbeats 4000000 in
theorem ixUC_pc (cs : List (List V)) (g : Nat) (p : ByteArray → Bool) (l : List ByteArray) (hl : l.length ≤ 1000000) (hg : ∀ x ∈ l, PCp g [.c (.str x), .c (.ptr 0 0)] [.box [.lst 1 cs]] (.c (.bool (p x))) [.box [.lst 1 cs]]) : PCp 55 [.c (.lst 1 (l.map encS)), .c (.fn g [.ptr 0 0])] [.box [.lst 1 cs]] (.c (.bool (l.any p))) [.box [.lst 1 cs]] := by
  refine fn_sound (mt := mts) tab_fits tab_mixed Tryz.func55 (by rfl) (by kernel_rfl) (by kernel_rfl) Tryz.results55 (Nat.le_of_ble_eq_true (by kernel_rfl)) ?_
  conv => whnf
  repeat' (first
    | (refine Split.mk (fun h => ?_) (fun h => ?_) <;> (try simp only [decide_eq_true_eq, decide_eq_false_iff_not, Bool.not_eq_true', Bool.not_eq_false', beq_iff_eq, beq_eq_false_iff_ne] at h) <;> (first | (exfalso; first | omega | exact h trivial) | (conv => whnf)))
    | (refine CondG.mk (fun h => ?_) (fun h => ?_) <;> (try simp only [decide_eq_true_eq, decide_eq_false_iff_not, Bool.not_eq_true', Bool.not_eq_false', beq_iff_eq, beq_eq_false_iff_ne] at h) <;> (first | (exfalso; first | omega | exact h trivial) | (conv => whnf)))
    | (refine CallX.mk _ _ (by first | exact ixU_pc cs g p l hl hg) ?_; conv => whnf)
    | (refine CallG.mk _ _ (by first | exact ixU_pc cs g p l hl hg) ?_; conv => whnf)
    | (refine Ask.mk (by first | omega | (unfold roomOK; simp [cutRows]; done) | (unfold roomOK; simp [cutRows]; omega)) ?_; conv => whnf)
    | (refine SliceG.fr ?_; conv => whnf)
    | fail)
  exact .mk ⟨by rw [← idxP_any]; rfl, rfl⟩
set_option maxRecDepth 100000 in
set_option maxHeartbeats 4000000 in
theorem fState1_pc {up : List ByteArray} (h : Rise id up) (hl : up.length ≤ 1000000) (x : ByteArray) : PCp 84 [.c (.str x), .c (.ptr 0 0)] [.box [.lst 1 (up.map encS)]] (.c (.bool (decide (x ∈ up)))) [.box [.lst 1 (up.map encS)]] := by
  refine fn_sound (mt := mts) tab_fits tab_mixed Tryz.func84 (by rfl) (by kernel_rfl) (by kernel_rfl) Tryz.results84 (Nat.le_of_ble_eq_true (by kernel_rfl)) ?_
  conv => whnf
  repeat' (first
    | (refine Split.mk (fun h => ?_) (fun h => ?_) <;> (try simp only [decide_eq_true_eq, decide_eq_false_iff_not, Bool.not_eq_true', Bool.not_eq_false', beq_iff_eq, beq_eq_false_iff_ne, bne_iff_ne, bne_eq_false_iff_eq] at h) <;> (first | (exfalso; first | omega | exact h trivial) | (conv => whnf)))
    | (refine CondG.mk (fun h => ?_) (fun h => ?_) <;> (try simp only [decide_eq_true_eq, decide_eq_false_iff_not, Bool.not_eq_true', Bool.not_eq_false', beq_iff_eq, beq_eq_false_iff_ne, bne_iff_ne, bne_eq_false_iff_eq] at h) <;> (first | (exfalso; first | omega | exact h trivial) | (conv => whnf)))
    | (refine CallX.mk _ _ (by first | exact fHas_pc h hl x) ?_; conv => whnf)
    | (refine CallG.mk _ _ (by first | exact fHas_pc h hl x) ?_; conv => whnf)
    | (refine Ask.mk (by first | omega | (unfold roomOK; simp [cutRows]; done) | (unfold roomOK; simp [cutRows]; omega) | (simp [cutRows]; done) | (simp [cutRows]; omega)) ?_; conv => whnf)
    | (refine SliceG.fr ?_; conv => whnf)
    | (refine idx_at _ (by with_reducible rfl) (by first | assumption | omega) ?_; conv => whnf)
    | ((with_reducible refine row_map (by first | assumption | omega) ?_); conv => whnf)
    | ((with_reducible refine row_set (by first | assumption | omega | (simp only [List.length_set]; omega) | (simp; omega)) ?_); conv => whnf)
    | fail)
  exact .mk ⟨rfl, rfl⟩
set_option maxRecDepth 100000 in
set_option maxHeartbeats 4000000 in
theorem fState_pc (s : List Sv) (hx : ∀ x ∈ s, x.els.length ≤ 1000000) (down up : List ByteArray) : PCp 61 [.c (.lst 3 (s.map encSv)), .c (.lst 1 (down.map encS)), .c (.lst 1 (up.map encS))] [] (.c (.int .i64 (seenErr s down up))) [] := by
  have hdm : (down.map encS).length = down.length := List.length_map ..
  refine fn_sound (mt := mts) tab_fits tab_mixed Tryz.func61 (by rfl) (by kernel_rfl) (by kernel_rfl) Tryz.results61 (Nat.le_of_ble_eq_true (by kernel_rfl)) ?_
  conv => whnf
  repeat' (first
    | (refine Split.mk (fun h => ?_) (fun h => ?_) <;> (try simp only [decide_eq_true_eq, decide_eq_false_iff_not, Bool.not_eq_true', Bool.not_eq_false', beq_iff_eq, beq_eq_false_iff_ne, bne_iff_ne, bne_eq_false_iff_eq] at h) <;> (first | (exfalso; first | omega | exact h trivial) | (conv => whnf)))
    | (refine CondG.mk (fun h => ?_) (fun h => ?_) <;> (try simp only [decide_eq_true_eq, decide_eq_false_iff_not, Bool.not_eq_true', Bool.not_eq_false', beq_iff_eq, beq_eq_false_iff_ne, bne_iff_ne, bne_eq_false_iff_eq] at h) <;> (first | (exfalso; first | omega | exact h trivial) | (conv => whnf)))
    | (refine CallX.mk _ _ (by first | exact checkServices_pc s hx) ?_; conv => whnf)
    | (refine CallG.mk _ _ (by first | exact checkServices_pc s hx) ?_; conv => whnf)
    | (refine Ask.mk (by first | omega | (unfold roomOK; simp [cutRows]; done) | (unfold roomOK; simp [cutRows]; omega) | (simp [cutRows]; done) | (simp [cutRows]; omega)) ?_; conv => whnf)
    | (refine SliceG.fr ?_; conv => whnf)
    | (refine idx_at _ (by with_reducible rfl) (by first | assumption | omega) ?_; conv => whnf)
    | ((with_reducible refine row_map (by first | assumption | omega) ?_); conv => whnf)
    | ((with_reducible refine row_set (by first | assumption | omega | (simp only [List.length_set]; omega) | (simp; omega)) ?_); conv => whnf)
    | fail)
  · exact fini (by rw [seenErr, if_pos (by assumption)])
  have hs0 : svFault s = 0 := by simp_all
  have hs := svFault_ok hs0
  repeat' (first
    | (refine Split.mk (fun h => ?_) (fun h => ?_) <;> (try simp only [decide_eq_true_eq, decide_eq_false_iff_not, Bool.not_eq_true', Bool.not_eq_false', beq_iff_eq, beq_eq_false_iff_ne, bne_iff_ne, bne_eq_false_iff_eq] at h) <;> (first | (exfalso; first | omega | exact h trivial) | (conv => whnf)))
    | (refine CondG.mk (fun h => ?_) (fun h => ?_) <;> (try simp only [decide_eq_true_eq, decide_eq_false_iff_not, Bool.not_eq_true', Bool.not_eq_false', beq_iff_eq, beq_eq_false_iff_ne, bne_iff_ne, bne_eq_false_iff_eq] at h) <;> (first | (exfalso; first | omega | exact h trivial) | (conv => whnf)))
    | (refine CallX.mk _ _ (by first | exact listFault_pc s hs _ | exact first_pc [_, _] (by simp)) ?_; conv => whnf)
    | (refine CallG.mk _ _ (by first | exact listFault_pc s hs _ | exact first_pc [_, _] (by simp)) ?_; conv => whnf)
    | (refine Ask.mk (by first | omega | (unfold roomOK; simp [cutRows]; done) | (unfold roomOK; simp [cutRows]; omega) | (simp [cutRows]; done) | (simp [cutRows]; omega)) ?_; conv => whnf)
    | (refine SliceG.fr ?_; conv => whnf)
    | (refine idx_at _ (by with_reducible rfl) (by first | assumption | omega) ?_; conv => whnf)
    | ((with_reducible refine row_map (by first | assumption | omega) ?_); conv => whnf)
    | ((with_reducible refine row_set (by first | assumption | omega | (simp only [List.length_set]; omega) | (simp; omega)) ?_); conv => whnf)
    | fail)
  · refine fini ?_
    rw [seenErr, if_neg (by simp [hs0])]
    simp only [firstErr] at *
    (repeat' split) <;> first | rfl | omega | (simp_all; done)
  have hf : stErr s down = 0 ∧ stErr s up = 0 := by
    rename_i h
    simp only [firstErr] at h
    by_cases h1 : stErr s down = 0 <;> by_cases h2 : stErr s up = 0 <;> simp_all
  obtain ⟨hd, hu⟩ := hf
  have hdo := stErr_ok hd
  have huo := stErr_ok hu
  have hdl := hdo.len
  have hul := huo.len
  repeat' (first
    | (refine Split.mk (fun h => ?_) (fun h => ?_) <;> (try simp only [decide_eq_true_eq, decide_eq_false_iff_not, Bool.not_eq_true', Bool.not_eq_false', beq_iff_eq, beq_eq_false_iff_ne, bne_iff_ne, bne_eq_false_iff_eq] at h) <;> (first | (exfalso; first | omega | exact h trivial) | (conv => whnf)))
    | (refine CondG.mk (fun h => ?_) (fun h => ?_) <;> (try simp only [decide_eq_true_eq, decide_eq_false_iff_not, Bool.not_eq_true', Bool.not_eq_false', beq_iff_eq, beq_eq_false_iff_ne, bne_iff_ne, bne_eq_false_iff_eq] at h) <;> (first | (exfalso; first | omega | exact h trivial) | (conv => whnf)))
    | (refine CallX.mk _ _ (by first | exact ixUC_pc (up.map encS) 84 (fun x => decide (x ∈ up)) down (by omega) (fun x _ => fState1_pc huo.rise (by omega) x)) ?_; conv => whnf)
    | (refine CallG.mk _ _ (by first | exact ixUC_pc (up.map encS) 84 (fun x => decide (x ∈ up)) down (by omega) (fun x _ => fState1_pc huo.rise (by omega) x)) ?_; conv => whnf)
    | (refine Ask.mk (by first | omega | (unfold roomOK; simp [cutRows]; done) | (unfold roomOK; simp [cutRows]; omega) | (simp [cutRows]; done) | (simp [cutRows]; omega)) ?_; conv => whnf)
    | (refine SliceG.fr ?_; conv => whnf)
    | (refine idx_at _ (by with_reducible rfl) (by first | assumption | omega) ?_; conv => whnf)
    | ((with_reducible refine row_map (by first | assumption | omega) ?_); conv => whnf)
    | ((with_reducible refine row_set (by first | assumption | omega | (simp only [List.length_set]; omega) | (simp; omega)) ?_); conv => whnf)
    | fail)
  all_goals
    refine fini ?_
    rw [seenErr, if_neg (by simp [hs0]), if_neg (by simp [hd]), if_neg (by simp [hu])]
    simp_all
set_option maxRecDepth 100000 in
set_option maxHeartbeats 4000000 in
theorem suspectsP_pc (s : List Sv) (hx : ∀ x ∈ s, x.els.length ≤ 1000000) (down up : List ByteArray) : PCp 42 [.c (.lst 3 (s.map encSv)), .c (.lst 1 (down.map encS)), .c (.lst 1 (up.map encS))] [] (.tup [.c (.lst 1 ((if seenErr s down up = 0 then susV s down up else []).map encS)), .c (.int .i64 (seenErr s down up))]) [] := by
  refine fn_sound (mt := mts) tab_fits tab_mixed Tryz.func42 (by rfl) (by kernel_rfl) (by kernel_rfl) Tryz.results42 (Nat.le_of_ble_eq_true (by kernel_rfl)) ?_
  conv => whnf
  repeat' (first
    | (refine Split.mk (fun h => ?_) (fun h => ?_) <;> (try simp only [decide_eq_true_eq, decide_eq_false_iff_not, Bool.not_eq_true', Bool.not_eq_false', beq_iff_eq, beq_eq_false_iff_ne, bne_iff_ne, bne_eq_false_iff_eq] at h) <;> (first | (exfalso; first | omega | exact h trivial) | (conv => whnf)))
    | (refine CondG.mk (fun h => ?_) (fun h => ?_) <;> (try simp only [decide_eq_true_eq, decide_eq_false_iff_not, Bool.not_eq_true', Bool.not_eq_false', beq_iff_eq, beq_eq_false_iff_ne, bne_iff_ne, bne_eq_false_iff_eq] at h) <;> (first | (exfalso; first | omega | exact h trivial) | (conv => whnf)))
    | (refine CallX.mk _ _ (by first | exact fState_pc s hx down up) ?_; conv => whnf)
    | (refine CallG.mk _ _ (by first | exact fState_pc s hx down up) ?_; conv => whnf)
    | (refine Ask.mk (by first | omega | (unfold roomOK; simp [cutRows]; done) | (unfold roomOK; simp [cutRows]; omega) | (simp [cutRows]; done) | (simp [cutRows]; omega)) ?_; conv => whnf)
    | (refine SliceG.fr ?_; conv => whnf)
    | (refine idx_at _ (by with_reducible rfl) (by first | assumption | omega) ?_; conv => whnf)
    | ((with_reducible refine row_map (by first | assumption | omega) ?_); conv => whnf)
    | ((with_reducible refine row_set (by first | assumption | omega | (simp only [List.length_set]; omega) | (simp; omega)) ?_); conv => whnf)
    | fail)
  · rw [if_neg (by assumption)]
    refine .weak [] (.tup _ _ rfl ?_) rfl (Nat.le_refl _)
    intro i a b ha hb
    match i with
    | 0 => cases ha; cases hb; exact .nil 1
    | 1 => cases ha; cases hb; exact .refl _
  · have h0 : seenErr s down up = 0 := by simp_all
    have hs0 : svFault s = 0 := by
      unfold seenErr at h0
      split at h0
      · omega
      · omega
    have hd0 : stErr s down = 0 := by
      unfold seenErr at h0
      rw [if_neg (by omega)] at h0
      split at h0
      · omega
      · omega
    have hu0 : stErr s up = 0 := by
      unfold seenErr at h0
      rw [if_neg (by omega), if_neg (by omega)] at h0
      split at h0
      · omega
      · omega
    rw [if_pos h0]
    repeat' (first
      | (refine Split.mk (fun h => ?_) (fun h => ?_) <;> (try simp only [decide_eq_true_eq, decide_eq_false_iff_not, Bool.not_eq_true', Bool.not_eq_false', beq_iff_eq, beq_eq_false_iff_ne, bne_iff_ne, bne_eq_false_iff_eq] at h) <;> (first | (exfalso; first | omega | exact h trivial) | (conv => whnf)))
      | (refine CondG.mk (fun h => ?_) (fun h => ?_) <;> (try simp only [decide_eq_true_eq, decide_eq_false_iff_not, Bool.not_eq_true', Bool.not_eq_false', beq_iff_eq, beq_eq_false_iff_ne, bne_iff_ne, bne_eq_false_iff_eq] at h) <;> (first | (exfalso; first | omega | exact h trivial) | (conv => whnf)))
      | (refine CallX.mk _ _ (by first | exact fSuspects_pc s (svFault_ok hs0) down up (stErr_ok hd0) (stErr_ok hu0)) ?_; conv => whnf)
      | (refine CallG.mk _ _ (by first | exact fSuspects_pc s (svFault_ok hs0) down up (stErr_ok hd0) (stErr_ok hu0)) ?_; conv => whnf)
      | (refine Ask.mk (by first | omega | (unfold roomOK; simp [cutRows]; done) | (unfold roomOK; simp [cutRows]; omega) | (simp [cutRows]; done) | (simp [cutRows]; omega)) ?_; conv => whnf)
      | (refine SliceG.fr ?_; conv => whnf)
      | (refine idx_at _ (by with_reducible rfl) (by first | assumption | omega) ?_; conv => whnf)
      | ((with_reducible refine row_map (by first | assumption | omega) ?_); conv => whnf)
      | ((with_reducible refine row_set (by first | assumption | omega | (simp only [List.length_set]; omega) | (simp; omega)) ?_); conv => whnf)
      | fail)
    exact .mk ⟨by rw [h0]; rfl, rfl⟩
end Go.Proofs.YteccacaonllceaaGreatDoor

/- Repairs are ordered. -/
namespace Go.Proofs.YteccacaonllceaaGreatDoor
set_option linter.unusedVariables false
set_option linter.unusedSimpArgs false
open Abs

set_option maxRecDepth 100000 in
set_option maxHeartbeats 4000000 in
theorem cloneSr_pc (l : List ByteArray) (hl : l.length ≤ 1000000) : PCp 20 [.c (.row 0)] [.row 9 1 (l.map encS)] (.c (.row 1)) [.row 9 1 (l.map encS), .row 9 1 (l.map encS)] := by
  have hlm : (l.map encS).length = l.length := List.length_map ..
  refine fn_sound (mt := mts) tab_fits tab_mixed Tryz.func20 (by rfl) (by kernel_rfl) (by kernel_rfl) Tryz.results20 (Nat.le_of_ble_eq_true (by kernel_rfl)) ?_
  conv => whnf
  refine .mk (fun h => ?_) ?_
  · conv => whnf
    exact .own 9 1 rfl rfl (by rw [h]; rfl)
  · conv => whnf
    repeat' (first
      | (refine Split.mk (fun h => ?_) (fun h => ?_) <;> (try simp only [decide_eq_true_eq, decide_eq_false_iff_not, Bool.not_eq_true', Bool.not_eq_false', beq_iff_eq, beq_eq_false_iff_ne] at h) <;> (first | (exfalso; first | omega | exact h trivial) | (conv => whnf)))
      | (refine CondG.mk (fun h => ?_) (fun h => ?_) <;> (try simp only [decide_eq_true_eq, decide_eq_false_iff_not, Bool.not_eq_true', Bool.not_eq_false', beq_iff_eq, beq_eq_false_iff_ne] at h) <;> (first | (exfalso; first | omega | exact h trivial) | (conv => whnf)))
      | (refine Ask.mk (by first | omega | (unfold roomOK; simp [cutRows]; done) | (unfold roomOK; simp [cutRows]; omega)) ?_; conv => whnf)
      | (refine SliceG.fr ?_; conv => whnf)
      | fail)
    exact .mk ⟨rfl, rfl⟩
abbrev evN : Int → S := fun n => .c (.int .i64 n)
abbrev MN := SM ByteArray Int
def fl (left : List ByteArray) (x : Sv) : List ByteArray := left.filter fun k => decide (k ∈ x.els)
def gmS (left : List ByteArray) (m : MN) (x : Sv) : MN := match fl left x with | [e] => m.put e (IntKind.i64.wrap ((m.get e).getD 0 + x.cust)) | _ => m
def gm (s : List Sv) (left : List ByteArray) : MN := s.foldl (gmS left) SM.nil
theorem gm_succ (s : List Sv) (left : List ByteArray) {k : Nat} (h : k < s.length) : gm (s.take (k + 1)) left = gmS left (gm (s.take k) left) s[k] := by
  unfold gm; rw [List.take_succ_eq_append_getElem h, List.foldl_append]; rfl
theorem custN_in {s : List Sv} (h : ∀ x ∈ s, 1 ≤ x.cust ∧ x.cust ≤ 100000) : 0 ≤ custN s ∧ custN s ≤ 100000 * s.length := sum_in fun x hx => by have := h x hx; omega
theorem gain_in {s : List Sv} (h : ∀ x ∈ s, 1 ≤ x.cust ∧ x.cust ≤ 100000) (left : List ByteArray) (e : ByteArray) : 0 ≤ gainV s left e ∧ gainV s left e ≤ 100000 * s.length := by
  have h1 := custN_in (s := s.filter (oneP left e)) (fun x hx => h x (List.mem_filter.1 hx).1)
  have h2 := List.length_filter_le (oneP left e) s
  unfold gainV; omega
theorem gm_get' (left : List ByteArray) (e : ByteArray) : ∀ (s : List Sv) (m : MN), (∀ x ∈ s, 1 ≤ x.cust ∧ x.cust ≤ 100000) → (∀ e, 0 ≤ (m.get e).getD 0 ∧ (m.get e).getD 0 + 100000 * s.length ≤ 1000000000000) → ((s.foldl (gmS left) m).get e).getD 0 = (m.get e).getD 0 + gainV s left e
  | [], m, _, _ => by simp [gainV, custN]
  | x :: r, m, h, hm => by
    have hx := h x (by simp)
    have hl : ((x :: r).length : Int) = r.length + 1 := by simp
    have hg : ∀ e, ((gmS left m x).get e).getD 0 = (m.get e).getD 0 + if oneP left e x then x.cust else 0 := by
      intro e
      unfold gmS oneP
      have hfl : fl left x = left.filter fun k => decide (k ∈ x.els) := rfl
      rw [← hfl]
      split
      · rename_i a ha
        rw [ha, SM.get_put]
        by_cases h1 : a = e
        · subst h1
          have := hm a
          rw [if_pos rfl, wrap_in (by omega) (by omega)]; simp
        · rw [if_neg h1]; simp [h1]
      · rename_i hne
        have h1 : ¬ fl left x = [e] := fun h => hne e h
        simp [h1]
    have ih := gm_get' left e r (gmS left m x) (fun y hy => h y (by simp [hy])) (by
      intro e
      rw [hg e]
      have := hm e
      split <;> omega)
    rw [List.foldl_cons, ih, hg]
    unfold gainV custN
    rw [List.filter_cons]
    by_cases h1 : oneP left e x = true
    · rw [if_pos h1, if_pos h1]; simp; omega
    · rw [if_neg h1, if_neg h1]; omega
theorem gm_get {s : List Sv} (hs : SvOk s) (left : List ByteArray) (e : ByteArray) : ((gm s left).get e).getD 0 = gainV s left e := by
  have hl := hs.len
  rw [gm, gm_get' left e s SM.nil (fun x hx => (hs.each x hx).cust) (fun e => ⟨Int.le_refl _, by simp [SM.get_nil]; omega⟩)]
  simp [SM.get_nil]
set_option maxRecDepth 100000 in
set_option maxHeartbeats 4000000 in
theorem fRep1_pc (x : Sv) (hr : Rise id x.els) (hl : x.els.length ≤ 1000000) (e : ByteArray) : PCp 23 [.c (.str e), .c (.ptr 0 0)] [.box [.str x.key, .lst 1 (x.els.map encS), .int .i64 x.cust]] (.c (.bool (!decide (e ∈ x.els)))) [.box [.str x.key, .lst 1 (x.els.map encS), .int .i64 x.cust]] := by
  refine fn_sound (mt := mts) tab_fits tab_mixed Tryz.func23 (by rfl) (by kernel_rfl) (by kernel_rfl) Tryz.results23 (Nat.le_of_ble_eq_true (by kernel_rfl)) ?_
  conv => whnf
  repeat' (first
    | (refine Split.mk (fun h => ?_) (fun h => ?_) <;> (try simp only [decide_eq_true_eq, decide_eq_false_iff_not, Bool.not_eq_true', Bool.not_eq_false', beq_iff_eq, beq_eq_false_iff_ne, bne_iff_ne, bne_eq_false_iff_eq] at h) <;> (first | (exfalso; first | omega | exact h trivial) | (conv => whnf)))
    | (refine CondG.mk (fun h => ?_) (fun h => ?_) <;> (try simp only [decide_eq_true_eq, decide_eq_false_iff_not, Bool.not_eq_true', Bool.not_eq_false', beq_iff_eq, beq_eq_false_iff_ne, bne_iff_ne, bne_eq_false_iff_eq] at h) <;> (first | (exfalso; first | omega | exact h trivial) | (conv => whnf)))
    | (refine CallX.mk _ _ (by first | exact fHas_pc hr hl e) ?_; conv => whnf)
    | (refine CallG.mk _ _ (by first | exact fHas_pc hr hl e) ?_; conv => whnf)
    | (refine Ask.mk (by first | omega | (unfold roomOK; simp [cutRows]; done) | (unfold roomOK; simp [cutRows]; omega) | (simp [cutRows]; done) | (simp [cutRows]; omega)) ?_; conv => whnf)
    | (refine SliceG.fr ?_; conv => whnf)
    | (refine idx_at _ (by with_reducible rfl) (by first | assumption | omega) ?_; conv => whnf)
    | ((with_reducible refine row_map (by first | assumption | omega) ?_); conv => whnf)
    | ((with_reducible refine row_set (by first | assumption | omega | (simp only [List.length_set]; omega) | (simp; omega)) ?_); conv => whnf)
    | fail)
  exact .mk ⟨rfl, rfl⟩
theorem fl_del (left : List ByteArray) (x : Sv) : (left.filter fun e => !(!decide (e ∈ x.els))) = fl left x := by
  unfold fl; congr 1; funext e; simp
theorem rep_step {s : List Sv} {left : List ByteArray} (h : 0 < left.length) : repV s left.length left = left.getD (pickR s left) ⟨#[]⟩ :: repV s (left.eraseIdx (pickR s left)).length (left.eraseIdx (pickR s left)) := by
  have h1 := pickR_lt (s := s) h
  obtain ⟨n, hn⟩ : ∃ n, left.length = n + 1 := ⟨left.length - 1, by omega⟩
  rw [hn, repV, List.length_eraseIdx, if_pos h1, hn, Nat.add_sub_cancel]
theorem erase_rise {l : List ByteArray} (h : Rise id l) (i : Nat) : Rise id (l.eraseIdx i) := List.Pairwise.sublist (List.eraseIdx_sublist ..) h
theorem rise_nd {l : List ByteArray} (h : Rise id l) : l.Nodup := by have := rise_nodup h; simpa using this
set_option maxRecDepth 100000 in
set_option maxHeartbeats 4000000 in
theorem repairs_pc (s : List Sv) (hs : SvOk s) (b : List ByteArray) (hb : elsFault b = 0) (h0 : setErr s b = 0) :
    PCp 6 [.c (.lst 3 (s.map encSv)), .c (.lst 1 (b.map encS))] [] (.tup [.c (.lst 1 ((repV s b.length b).map encS)), .c (.int .i64 0)]) [] := by
  obtain ⟨hbr, hbl, _⟩ := elsFault_ok hb
  have hsl := hs.len
  have hsm : (s.map encSv).length = s.length := List.length_map ..
  have hx : ∀ x ∈ s, x.els.length ≤ 1000000 := fun x hx => Nat.le_trans (hs.each x hx).len (by decide)
  refine fn_sound (mt := mts) tab_fits tab_mixed Tryz.func6 (by rfl) (by kernel_rfl) (by kernel_rfl) Tryz.results6 (Nat.le_of_ble_eq_true (by kernel_rfl)) ?_
  conv => whnf
  repeat' (first
    | (refine Split.mk (fun h => ?_) (fun h => ?_) <;> (try simp only [decide_eq_true_eq, decide_eq_false_iff_not, Bool.not_eq_true', Bool.not_eq_false', beq_iff_eq, beq_eq_false_iff_ne, bne_iff_ne, bne_eq_false_iff_eq] at h) <;> (first | (exfalso; first | omega | exact h trivial) | (conv => whnf)))
    | (refine CondG.mk (fun h => ?_) (fun h => ?_) <;> (try simp only [decide_eq_true_eq, decide_eq_false_iff_not, Bool.not_eq_true', Bool.not_eq_false', beq_iff_eq, beq_eq_false_iff_ne, bne_iff_ne, bne_eq_false_iff_eq] at h) <;> (first | (exfalso; first | omega | exact h trivial) | (conv => whnf)))
    | (refine CallX.mk _ _ (by first | exact fSetFault_pc s hx b (by omega) | exact cloneS_pc b (by omega)) ?_; conv => whnf)
    | (refine CallG.mk _ _ (by first | exact fSetFault_pc s hx b (by omega) | exact cloneS_pc b (by omega)) ?_; conv => whnf)
    | (refine Ask.mk (by first | omega | (unfold roomOK; simp [cutRows]; done) | (unfold roomOK; simp [cutRows]; omega) | (simp [cutRows]; done) | (simp [cutRows]; omega)) ?_; conv => whnf)
    | (refine SliceG.fr ?_; conv => whnf)
    | (refine idx_at _ (by with_reducible rfl) (by first | assumption | omega) ?_; conv => whnf)
    | ((with_reducible refine row_map (by first | assumption | omega) ?_); conv => whnf)
    | ((with_reducible refine row_set (by first | assumption | omega | (simp only [List.length_set]; omega) | (simp; omega)) ?_); conv => whnf)
    | fail)
  refine loop_while2 (fun (left : List ByteArray) (o : List ByteArray) => left.length) [.sl 8 9 1] [0, 7, 8] (fun (left : List ByteArray) (o : List ByteArray) => []) (fun (left : List ByteArray) (o : List ByteArray) => [(0, .row 9 1 (left.map encS)), (1, .row 9 1 (o.map encS))]) (fun (left : List ByteArray) (o : List ByteArray) => Rise id left ∧ o.length + left.length ≤ 100 ∧ o ++ repV s left.length left = repV s b.length b) (b) ([]) ?_
  conv => whnf
  refine ⟨(by first | rfl | (simp; done) | (simp; rfl)), ?_, ?_⟩
  · exact ⟨hbr, by simp; omega, rfl⟩
  · intro left o ⟨g1, g2, g3⟩
    have hlm : (left.map encS).length = left.length := List.length_map ..
    have hom : (o.map encS).length = o.length := List.length_map ..
    conv => whnf
    repeat' (first
      | (refine Split.mk (fun h => ?_) (fun h => ?_) <;> (try simp only [decide_eq_true_eq, decide_eq_false_iff_not, Bool.not_eq_true', Bool.not_eq_false', beq_iff_eq, beq_eq_false_iff_ne, bne_iff_ne, bne_eq_false_iff_eq] at h) <;> (first | (exfalso; first | omega | exact h trivial) | (conv => whnf)))
      | (refine CondG.mk (fun h => ?_) (fun h => ?_) <;> (try simp only [decide_eq_true_eq, decide_eq_false_iff_not, Bool.not_eq_true', Bool.not_eq_false', beq_iff_eq, beq_eq_false_iff_ne, bne_iff_ne, bne_eq_false_iff_eq] at h) <;> (first | (exfalso; first | omega | exact h trivial) | (conv => whnf)))
      | (refine Ask.mk (by first | omega | (unfold roomOK; simp [cutRows]; done) | (unfold roomOK; simp [cutRows]; omega) | (simp [cutRows]; done) | (simp [cutRows]; omega)) ?_; conv => whnf)
      | (refine SliceG.fr ?_; conv => whnf)
      | (refine idx_at _ (by with_reducible rfl) (by first | assumption | omega) ?_; conv => whnf)
      | ((with_reducible refine row_map (by first | assumption | omega) ?_); conv => whnf)
      | ((with_reducible refine row_set (by first | assumption | omega | (simp only [List.length_set]; omega) | (simp; omega)) ?_); conv => whnf)
      | fail)
    · refine loop_for (s.length) [] [0, 7, 8, 9, 28, 29, 30] (fun k (_ : Unit) => [(30, .c (.int .i64 (k : Int)))]) (fun k (_ : Unit) => [(2, smO ekB evN (gm (s.take k) left))]) (fun k (_ : Unit) => True) (()) ?_
      conv => whnf
      refine ⟨(by first | rfl | (simp; done) | (simp; rfl)), (by trivial), ?_, ?_⟩
      · intro k _ hk _
        obtain ⟨h1, h2, h3, h4, h5, h6⟩ := hs.each _ (List.getElem_mem hk)
        conv => whnf
        repeat' (first
          | (refine Split.mk (fun h => ?_) (fun h => ?_) <;> (try simp only [decide_eq_true_eq, decide_eq_false_iff_not, Bool.not_eq_true', Bool.not_eq_false', beq_iff_eq, beq_eq_false_iff_ne, bne_iff_ne, bne_eq_false_iff_eq] at h) <;> (first | (exfalso; first | omega | exact h trivial) | (conv => whnf)))
          | (refine CondG.mk (fun h => ?_) (fun h => ?_) <;> (try simp only [decide_eq_true_eq, decide_eq_false_iff_not, Bool.not_eq_true', Bool.not_eq_false', beq_iff_eq, beq_eq_false_iff_ne, bne_iff_ne, bne_eq_false_iff_eq] at h) <;> (first | (exfalso; first | omega | exact h trivial) | (conv => whnf)))
          | (refine CallX.mk _ _ (by first | exact cloneSr_pc left (by omega) | exact delfS_pc s[k].key (s[k].els.map encS) s[k].cust 23 (fun e => !decide (e ∈ s[k].els)) left (by omega) (fun e _ => fRep1_pc s[k] h2 (by omega) e)) ?_; conv => whnf)
          | (refine CallG.mk _ _ (by first | exact cloneSr_pc left (by omega) | exact delfS_pc s[k].key (s[k].els.map encS) s[k].cust 23 (fun e => !decide (e ∈ s[k].els)) left (by omega) (fun e _ => fRep1_pc s[k] h2 (by omega) e)) ?_; conv => whnf)
          | (refine Ask.mk (by first | omega | (unfold roomOK; simp [cutRows]; done) | (unfold roomOK; simp [cutRows]; omega) | (simp [cutRows]; done) | (simp [cutRows]; omega)) ?_; conv => whnf)
          | (refine SliceG.fr ?_; conv => whnf)
          | (refine idx_at _ (by with_reducible rfl) (by first | assumption | omega) ?_; conv => whnf)
          | ((with_reducible refine row_map (by first | assumption | omega) ?_); conv => whnf)
          | ((with_reducible refine row_set (by first | assumption | omega | (simp only [List.length_set]; omega) | (simp; omega)) ?_); conv => whnf)
          | fail)
        · have hone : (fl left s[k]).length = 1 := by
            rename_i h; unfold fl; simp at h; omega
          obtain ⟨e, he⟩ := List.length_eq_one_iff.1 hone
          rw [fl_del, he]
          refine row_at 0 rfl (by simp) ?_
          conv => whnf
          repeat' (first
            | (refine Split.mk (fun h => ?_) (fun h => ?_) <;> (try simp only [decide_eq_true_eq, decide_eq_false_iff_not, Bool.not_eq_true', Bool.not_eq_false', beq_iff_eq, beq_eq_false_iff_ne, bne_iff_ne, bne_eq_false_iff_eq] at h) <;> (first | (exfalso; first | omega | exact h trivial) | (conv => whnf)))
            | (refine CondG.mk (fun h => ?_) (fun h => ?_) <;> (try simp only [decide_eq_true_eq, decide_eq_false_iff_not, Bool.not_eq_true', Bool.not_eq_false', beq_iff_eq, beq_eq_false_iff_ne, bne_iff_ne, bne_eq_false_iff_eq] at h) <;> (first | (exfalso; first | omega | exact h trivial) | (conv => whnf)))
            | (refine Ask.mk (by first | omega | (unfold roomOK; simp [cutRows]; done) | (unfold roomOK; simp [cutRows]; omega) | (simp [cutRows]; done) | (simp [cutRows]; omega)) ?_; conv => whnf)
            | (refine SliceG.fr ?_; conv => whnf)
            | (refine idx_at _ (by with_reducible rfl) (by first | assumption | omega) ?_; conv => whnf)
            | ((with_reducible refine row_map (by first | assumption | omega) ?_); conv => whnf)
            | ((with_reducible refine row_set (by first | assumption | omega | (simp only [List.length_set]; omega) | (simp; omega)) ?_); conv => whnf)
            | ((with_reducible refine sm_look (ek := ekB) (ev := evN) keyStr _ _ ((0 : Int)) ?_ ?_); exact rfl; conv => whnf)
            | ((with_reducible refine sm_upd (ek := ekB) (ev := evN) keyStr _ _ _ ?_); conv => whnf)
            | ((with_reducible refine sm_del (ek := ekB) (ev := evN) keyStr _ _ ?_); conv => whnf)
            | ((with_reducible refine sm_entry (ek := ekB) (ev := evN) keyStr _ _ ((0 : Int)) ?_ ?_); exact rfl; conv => whnf)
            | fail)
          exact count_next () hk (by rw [wrap_succ hk (by omega), gm_succ s left hk]; unfold gmS; rw [he]; rfl) trivial
        · have hone : ¬ (fl left s[k]).length = 1 := by
            rename_i h; unfold fl; simp at h; omega
          have hgs : gm (s.take (k + 1)) left = gm (s.take k) left := by
            rw [gm_succ s left hk]; unfold gmS
            split
            · rename_i e he; rw [he] at hone; simp at hone
            · rfl
          exact count_next () hk (by rw [wrap_succ hk (by omega), hgs]; rfl) trivial
      · intro _ _
        rw [List.take_length]
        conv => whnf
        repeat' (first
          | (refine Split.mk (fun h => ?_) (fun h => ?_) <;> (try simp only [decide_eq_true_eq, decide_eq_false_iff_not, Bool.not_eq_true', Bool.not_eq_false', beq_iff_eq, beq_eq_false_iff_ne, bne_iff_ne, bne_eq_false_iff_eq] at h) <;> (first | (exfalso; first | omega | exact h trivial) | (conv => whnf)))
          | (refine CondG.mk (fun h => ?_) (fun h => ?_) <;> (try simp only [decide_eq_true_eq, decide_eq_false_iff_not, Bool.not_eq_true', Bool.not_eq_false', beq_iff_eq, beq_eq_false_iff_ne, bne_iff_ne, bne_eq_false_iff_eq] at h) <;> (first | (exfalso; first | omega | exact h trivial) | (conv => whnf)))
          | (refine Ask.mk (by first | omega | (unfold roomOK; simp [cutRows]; done) | (unfold roomOK; simp [cutRows]; omega) | (simp [cutRows]; done) | (simp [cutRows]; omega)) ?_; conv => whnf)
          | (refine SliceG.fr ?_; conv => whnf)
          | (refine idx_at _ (by with_reducible rfl) (by first | assumption | omega) ?_; conv => whnf)
          | ((with_reducible refine row_map (by first | assumption | omega) ?_); conv => whnf)
          | ((with_reducible refine row_set (by first | assumption | omega | (simp only [List.length_set]; omega) | (simp; omega)) ?_); conv => whnf)
          | fail)
        have hlp : 0 < left.length := by omega
        refine loop_for (left.length) [] [0, 7, 8, 9, 13, 50, 51, 52] (fun k (_ : Unit) => [(13, .c (.int .i64 ((bestAt (gainAt s left) k : Nat) : Int))), (52, .c (.int .i64 (k : Int)))]) (fun k (_ : Unit) => []) (fun k (_ : Unit) => True) (()) ?_
        conv => whnf
        refine ⟨(by first | rfl | (simp; done) | (simp; rfl)), (by trivial), ?_, ?_⟩
        · intro k _ hk _
          have hbk : bestAt (gainAt s left) k < left.length := by
            cases k with
            | zero => exact hlp
            | succ k => have := bestAt_lt (gainAt s left) (k + 1) (by omega); omega
          have hga : ∀ i (hi : i < left.length), (((gm s left).get left[i]).getD 0) = gainAt s left i := by
            intro i hi
            rw [gm_get hs]; unfold gainAt
            rw [List.getD_eq_getElem?_getD, List.getElem?_eq_getElem hi]; rfl
          conv => whnf
          repeat' (first
            | (refine Split.mk (fun h => ?_) (fun h => ?_) <;> (try simp only [decide_eq_true_eq, decide_eq_false_iff_not, Bool.not_eq_true', Bool.not_eq_false', beq_iff_eq, beq_eq_false_iff_ne, bne_iff_ne, bne_eq_false_iff_eq] at h) <;> (first | (exfalso; first | omega | exact h trivial) | (conv => whnf)))
            | (refine CondG.mk (fun h => ?_) (fun h => ?_) <;> (try simp only [decide_eq_true_eq, decide_eq_false_iff_not, Bool.not_eq_true', Bool.not_eq_false', beq_iff_eq, beq_eq_false_iff_ne, bne_iff_ne, bne_eq_false_iff_eq] at h) <;> (first | (exfalso; first | omega | exact h trivial) | (conv => whnf)))
            | (refine Ask.mk (by first | omega | (unfold roomOK; simp [cutRows]; done) | (unfold roomOK; simp [cutRows]; omega) | (simp [cutRows]; done) | (simp [cutRows]; omega)) ?_; conv => whnf)
            | (refine SliceG.fr ?_; conv => whnf)
            | (refine idx_at _ (by with_reducible rfl) (by first | assumption | omega) ?_; conv => whnf)
            | ((with_reducible refine row_map (by first | assumption | omega) ?_); conv => whnf)
            | ((with_reducible refine row_set (by first | assumption | omega | (simp only [List.length_set]; omega) | (simp; omega)) ?_); conv => whnf)
            | ((refine row_at (bestAt (gainAt s left) k) toN hbk ?_); conv => whnf)
            | ((with_reducible refine sm_look (ek := ekB) (ev := evN) keyStr _ _ ((0 : Int)) ?_ ?_); exact rfl; conv => whnf)
            | ((with_reducible refine sm_upd (ek := ekB) (ev := evN) keyStr _ _ _ ?_); conv => whnf)
            | ((with_reducible refine sm_del (ek := ekB) (ev := evN) keyStr _ _ ?_); conv => whnf)
            | ((with_reducible refine sm_entry (ek := ekB) (ev := evN) keyStr _ _ ((0 : Int)) ?_ ?_); exact rfl; conv => whnf)
            | fail)
          all_goals rename_i h
          all_goals simp only [toN] at h
          all_goals rw [hga _ hk, hga _ hbk] at h
          · exact count_next () hk (by rw [wrap_succ hk (by omega), bestAt, if_pos h]; rfl) trivial
          · exact count_next () hk (by rw [wrap_succ hk (by omega), bestAt, if_neg h]; rfl) trivial
        · intro _ _
          have hbk : bestAt (gainAt s left) left.length < left.length := bestAt_lt _ _ hlp
          have hp : pickR s left = bestAt (gainAt s left) left.length := rfl
          have hel : (left.eraseIdx (bestAt (gainAt s left) left.length)).length = left.length - 1 := by rw [List.length_eraseIdx, if_pos hbk]
          have hgd : left.getD (pickR s left) ⟨#[]⟩ = left[bestAt (gainAt s left) left.length] := by
            rw [hp, List.getD_eq_getElem?_getD, List.getElem?_eq_getElem hbk]; rfl
          conv => whnf
          repeat' (first
            | (refine Split.mk (fun h => ?_) (fun h => ?_) <;> (try simp only [decide_eq_true_eq, decide_eq_false_iff_not, Bool.not_eq_true', Bool.not_eq_false', beq_iff_eq, beq_eq_false_iff_ne, bne_iff_ne, bne_eq_false_iff_eq] at h) <;> (first | (exfalso; first | omega | exact h trivial) | (conv => whnf)))
            | (refine CondG.mk (fun h => ?_) (fun h => ?_) <;> (try simp only [decide_eq_true_eq, decide_eq_false_iff_not, Bool.not_eq_true', Bool.not_eq_false', beq_iff_eq, beq_eq_false_iff_ne, bne_iff_ne, bne_eq_false_iff_eq] at h) <;> (first | (exfalso; first | omega | exact h trivial) | (conv => whnf)))
            | (refine CallX.mk _ _ (by first | exact delS_pc left _ hbk (by omega) _ (by rw [wrap_succ hbk (by omega)])) ?_; conv => whnf)
            | (refine CallG.mk _ _ (by first | exact delS_pc left _ hbk (by omega) _ (by rw [wrap_succ hbk (by omega)])) ?_; conv => whnf)
            | (refine Ask.mk (by first | omega | (unfold roomOK; simp [cutRows]; done) | (unfold roomOK; simp [cutRows]; omega) | (simp [cutRows]; done) | (simp [cutRows]; omega)) ?_; conv => whnf)
            | (refine SliceG.fr ?_; conv => whnf)
            | (refine idx_at _ (by with_reducible rfl) (by first | assumption | omega) ?_; conv => whnf)
            | ((with_reducible refine row_map (by first | assumption | omega) ?_); conv => whnf)
            | ((with_reducible refine row_set (by first | assumption | omega | (simp only [List.length_set]; omega) | (simp; omega)) ?_); conv => whnf)
            | ((refine row_at (bestAt (gainAt s left) left.length) toN hbk ?_); conv => whnf)
            | fail)
          refine meas_next (left.eraseIdx (bestAt (gainAt s left) left.length), o ++ [left[bestAt (gainAt s left) left.length]]) (by simp only; omega) (by simp only [List.map_append]; rfl) ⟨erase_rise g1 _, by simp only [List.length_append, List.length_cons, List.length_nil]; omega, ?_⟩
          rw [← g3, rep_step (s := s) hlp, hgd, hp, List.append_assoc]; rfl
    · have h9 : left = [] := List.length_eq_zero_iff.1 (by omega)
      subst h9
      rw [← g3]
      simp only [List.length_nil, repV, List.append_nil]
      refine .frz 0 _ _ _ rfl (.weak [_] (.tup _ _ rfl ?_) rfl (Nat.le_refl _))
      intro i a b ha hb
      match i with
      | 0 => cases ha; cases hb; exact .fro 0 _ _ rfl
      | 1 => cases ha; cases hb; exact .refl _
end Go.Proofs.YteccacaonllceaaGreatDoor

/- Repairs by the document. -/
namespace Go.Proofs.YteccacaonllceaaGreatDoor
set_option linter.unusedVariables false
set_option linter.unusedSimpArgs false
open Abs

set_option maxRecDepth 100000 in
set_option maxHeartbeats 4000000 in
theorem rAff1_pc (b : List ByteArray) (hb : b.length ≤ 1000000) (k : ByteArray) : PCp 56 [.c (.str k), .c (.ptr 0 0)] [.box [.lst 1 (b.map encS)]] (.c (.bool (decide (k ∈ b)))) [.box [.lst 1 (b.map encS)]] := by
  refine fn_sound (mt := mts) tab_fits tab_mixed Tryz.func56 (by rfl) (by kernel_rfl) (by kernel_rfl) Tryz.results56 (Nat.le_of_ble_eq_true (by kernel_rfl)) ?_
  conv => whnf
  repeat' (first
    | (refine Split.mk (fun h => ?_) (fun h => ?_) <;> (try simp only [decide_eq_true_eq, decide_eq_false_iff_not, Bool.not_eq_true', Bool.not_eq_false', beq_iff_eq, beq_eq_false_iff_ne, bne_iff_ne, bne_eq_false_iff_eq] at h) <;> (first | (exfalso; first | omega | exact h trivial) | (conv => whnf)))
    | (refine CondG.mk (fun h => ?_) (fun h => ?_) <;> (try simp only [decide_eq_true_eq, decide_eq_false_iff_not, Bool.not_eq_true', Bool.not_eq_false', beq_iff_eq, beq_eq_false_iff_ne, bne_iff_ne, bne_eq_false_iff_eq] at h) <;> (first | (exfalso; first | omega | exact h trivial) | (conv => whnf)))
    | (refine CallX.mk _ _ (by first | exact containsS_pc k b hb) ?_; conv => whnf)
    | (refine CallG.mk _ _ (by first | exact containsS_pc k b hb) ?_; conv => whnf)
    | (refine Ask.mk (by first | omega | (unfold roomOK; simp [cutRows]; done) | (unfold roomOK; simp [cutRows]; omega) | (simp [cutRows]; done) | (simp [cutRows]; omega)) ?_; conv => whnf)
    | (refine SliceG.fr ?_; conv => whnf)
    | (refine idx_at _ (by with_reducible rfl) (by first | assumption | omega) ?_; conv => whnf)
    | ((with_reducible refine row_map (by first | assumption | omega) ?_); conv => whnf)
    | ((with_reducible refine row_set (by first | assumption | omega | (simp only [List.length_set]; omega) | (simp; omega)) ?_); conv => whnf)
    | fail)
  exact .mk ⟨rfl, rfl⟩
theorem affL_succ (s : List Sv) (b : List ByteArray) {k : Nat} (h : k < s.length) : affL (s.take (k + 1)) b = affL (s.take k) b ++ (if affP b s[k] then [s[k]] else []) := by
  unfold affL; rw [List.take_succ_eq_append_getElem h, List.filter_append, List.filter_cons, List.filter_nil]
theorem affN_in {s : List Sv} (h : ∀ x ∈ s, 1 ≤ x.cust ∧ x.cust ≤ 100000) (b : List ByteArray) : 0 ≤ affN s b ∧ affN s b ≤ 100000 * s.length := by
  have h1 := custN_in (s := affL s b) (fun x hx => h x (List.mem_filter.1 hx).1)
  have h2 : (affL s b).length ≤ s.length := List.length_filter_le (affP b) s
  unfold affN; omega
set_option maxRecDepth 100000 in
set_option maxHeartbeats 4000000 in
theorem rAffected_pc (s : List Sv) (hl : s.length ≤ 1000000) (hx : ∀ x ∈ s, (1 ≤ x.cust ∧ x.cust ≤ 100000) ∧ x.els.length ≤ 1000000) (b : List ByteArray) (hb : b.length ≤ 1000000) :
    PCp 36 [.c (.lst 3 (s.map encSv)), .c (.lst 1 (b.map encS))] [] (.tup [.c (.lst 1 (((affL s b).map Sv.key).map encS)), .c (.int .i64 (affN s b))]) [] := by
  have hsm : (s.map encSv).length = s.length := List.length_map ..
  refine fn_sound (mt := mts) tab_fits tab_mixed Tryz.func36 (by rfl) (by kernel_rfl) (by kernel_rfl) Tryz.results36 (Nat.le_of_ble_eq_true (by kernel_rfl)) ?_
  conv => whnf
  refine loop_for (s.length) [.sl 6 9 1] [3, 6, 7, 10, 11, 12] (fun k (_ : Unit) => [(7, .c (.int .i64 (affN (s.take k) b))), (12, .c (.int .i64 (k : Int)))]) (fun k (_ : Unit) => [(1, .row 9 1 (((affL (s.take k) b).map Sv.key).map encS))]) (fun k (_ : Unit) => True) (()) ?_
  conv => whnf
  refine ⟨(by first | rfl | (simp; done) | (simp; rfl)), (by trivial), ?_, ?_⟩
  · intro k _ hk _
    obtain ⟨h1, h2⟩ := hx _ (List.getElem_mem hk)
    have htl : (s.take k).length = k := by rw [List.length_take]; omega
    have h3 := affN_in (s := s.take k) (fun x hm => (hx x (List.mem_of_mem_take hm)).1) b
    have h4 : (affL (s.take k) b).length ≤ (s.take k).length := List.length_filter_le (affP b) _
    have h5 : (((affL (s.take k) b).map Sv.key).map encS).length = (affL (s.take k) b).length := by simp
    have hN : affN (s.take (k + 1)) b = affN (s.take k) b + if affP b s[k] then s[k].cust else 0 := by
      unfold affN; rw [affL_succ s b hk]; unfold custN; rw [List.map_append, List.sum_append]; split <;> simp
    have hw : IntKind.i64.wrap (affN (s.take k) b + s[k].cust) = affN (s.take k) b + s[k].cust := wrap_in (by omega) (by omega)
    conv => whnf
    repeat' (first
      | (refine Split.mk (fun h => ?_) (fun h => ?_) <;> (try simp only [decide_eq_true_eq, decide_eq_false_iff_not, Bool.not_eq_true', Bool.not_eq_false', beq_iff_eq, beq_eq_false_iff_ne, bne_iff_ne, bne_eq_false_iff_eq] at h) <;> (first | (exfalso; first | omega | exact h trivial) | (conv => whnf)))
      | (refine CondG.mk (fun h => ?_) (fun h => ?_) <;> (try simp only [decide_eq_true_eq, decide_eq_false_iff_not, Bool.not_eq_true', Bool.not_eq_false', beq_iff_eq, beq_eq_false_iff_ne, bne_iff_ne, bne_eq_false_iff_eq] at h) <;> (first | (exfalso; first | omega | exact h trivial) | (conv => whnf)))
      | (refine CallX.mk _ _ (by first | exact ixUC_pc (b.map encS) 56 (fun x => decide (x ∈ b)) s[k].els h2 (fun x _ => rAff1_pc b hb x)) ?_; conv => whnf)
      | (refine CallG.mk _ _ (by first | exact ixUC_pc (b.map encS) 56 (fun x => decide (x ∈ b)) s[k].els h2 (fun x _ => rAff1_pc b hb x)) ?_; conv => whnf)
      | (refine Ask.mk (by first | omega | (unfold roomOK; simp [cutRows]; done) | (unfold roomOK; simp [cutRows]; omega) | (simp [cutRows]; done) | (simp [cutRows]; omega)) ?_; conv => whnf)
      | (refine SliceG.fr ?_; conv => whnf)
      | (refine idx_at _ (by with_reducible rfl) (by first | assumption | omega) ?_; conv => whnf)
      | ((with_reducible refine row_map (by first | assumption | omega) ?_); conv => whnf)
      | ((with_reducible refine row_set (by first | assumption | omega | (simp only [List.length_set]; omega) | (simp; omega)) ?_); conv => whnf)
      | fail)
    all_goals have ha : affP b s[k] = (s[k].els.any fun x => decide (x ∈ b)) := rfl
    · rename_i h
      rw [← ha] at h
      rw [if_pos h] at hN
      exact count_next () hk (by rw [wrap_succ hk (by omega), hw, hN, affL_succ s b hk, if_pos h, List.map_append, List.map_append]; rfl) trivial
    · rename_i h
      rw [← ha] at h
      rw [if_neg (by rw [h]; decide)] at hN
      exact count_next () hk (by rw [wrap_succ hk (by omega), hN, affL_succ s b hk, if_neg (by rw [h]; decide), List.append_nil, Int.add_zero]; rfl) trivial
  · intro _ _
    rw [List.take_length]
    conv => whnf
    repeat' (first
      | (refine Split.mk (fun h => ?_) (fun h => ?_) <;> (try simp only [decide_eq_true_eq, decide_eq_false_iff_not, Bool.not_eq_true', Bool.not_eq_false', beq_iff_eq, beq_eq_false_iff_ne, bne_iff_ne, bne_eq_false_iff_eq] at h) <;> (first | (exfalso; first | omega | exact h trivial) | (conv => whnf)))
      | (refine CondG.mk (fun h => ?_) (fun h => ?_) <;> (try simp only [decide_eq_true_eq, decide_eq_false_iff_not, Bool.not_eq_true', Bool.not_eq_false', beq_iff_eq, beq_eq_false_iff_ne, bne_iff_ne, bne_eq_false_iff_eq] at h) <;> (first | (exfalso; first | omega | exact h trivial) | (conv => whnf)))
      | (refine Ask.mk (by first | omega | (unfold roomOK; simp [cutRows]; done) | (unfold roomOK; simp [cutRows]; omega) | (simp [cutRows]; done) | (simp [cutRows]; omega)) ?_; conv => whnf)
      | (refine SliceG.fr ?_; conv => whnf)
      | (refine idx_at _ (by with_reducible rfl) (by first | assumption | omega) ?_; conv => whnf)
      | ((with_reducible refine row_map (by first | assumption | omega) ?_); conv => whnf)
      | ((with_reducible refine row_set (by first | assumption | omega | (simp only [List.length_set]; omega) | (simp; omega)) ?_); conv => whnf)
      | fail)
    refine .frz 0 _ _ _ rfl (.weak [_] (.tup _ _ rfl ?_) rfl (Nat.le_refl _))
    intro i a b ha hb
    match i with
    | 0 => cases ha; cases hb; exact .fro 0 _ _ rfl
    | 1 => cases ha; cases hb; exact .refl _
set_option maxRecDepth 100000 in
set_option maxHeartbeats 4000000 in
theorem rRepairs_pc (s : List Sv) (hs : SvOk s) (b : List ByteArray) (hb : elsFault b = 0) :
    PCp 11 [.c (.lst 3 (s.map encSv)), .c (.lst 1 (b.map encS))] [] (.c (.lst 1 ((repV s b.length b).map encS))) [] := by
  obtain ⟨hbr, hbl, _⟩ := elsFault_ok hb
  have hsl := hs.len
  have hsm : (s.map encSv).length = s.length := List.length_map ..
  have hx : ∀ x ∈ s, (1 ≤ x.cust ∧ x.cust ≤ 100000) ∧ x.els.length ≤ 1000000 := fun x hx => ⟨(hs.each x hx).cust, Nat.le_trans (hs.each x hx).len (by decide)⟩
  refine fn_sound (mt := mts) tab_fits tab_mixed Tryz.func11 (by rfl) (by kernel_rfl) (by kernel_rfl) Tryz.results11 (Nat.le_of_ble_eq_true (by kernel_rfl)) ?_
  conv => whnf
  repeat' (first
    | (refine Split.mk (fun h => ?_) (fun h => ?_) <;> (try simp only [decide_eq_true_eq, decide_eq_false_iff_not, Bool.not_eq_true', Bool.not_eq_false', beq_iff_eq, beq_eq_false_iff_ne, bne_iff_ne, bne_eq_false_iff_eq] at h) <;> (first | (exfalso; first | omega | exact h trivial) | (conv => whnf)))
    | (refine CondG.mk (fun h => ?_) (fun h => ?_) <;> (try simp only [decide_eq_true_eq, decide_eq_false_iff_not, Bool.not_eq_true', Bool.not_eq_false', beq_iff_eq, beq_eq_false_iff_ne, bne_iff_ne, bne_eq_false_iff_eq] at h) <;> (first | (exfalso; first | omega | exact h trivial) | (conv => whnf)))
    | (refine CallX.mk _ _ (by first | exact cloneS_pc b (by omega)) ?_; conv => whnf)
    | (refine CallG.mk _ _ (by first | exact cloneS_pc b (by omega)) ?_; conv => whnf)
    | (refine Ask.mk (by first | omega | (unfold roomOK; simp [cutRows]; done) | (unfold roomOK; simp [cutRows]; omega) | (simp [cutRows]; done) | (simp [cutRows]; omega)) ?_; conv => whnf)
    | (refine SliceG.fr ?_; conv => whnf)
    | (refine idx_at _ (by with_reducible rfl) (by first | assumption | omega) ?_; conv => whnf)
    | ((with_reducible refine row_map (by first | assumption | omega) ?_); conv => whnf)
    | ((with_reducible refine row_set (by first | assumption | omega | (simp only [List.length_set]; omega) | (simp; omega)) ?_); conv => whnf)
    | fail)
  refine loop_while2 (fun (left : List ByteArray) (o : List ByteArray) => left.length) [.sl 5 9 1] [0, 5, 6] (fun (left : List ByteArray) (o : List ByteArray) => []) (fun (left : List ByteArray) (o : List ByteArray) => [(0, .row 9 1 (o.map encS)), (1, .row 9 1 (left.map encS))]) (fun (left : List ByteArray) (o : List ByteArray) => Rise id left ∧ o.length + left.length ≤ 100 ∧ o ++ repV s left.length left = repV s b.length b) (b) ([]) ?_
  conv => whnf
  refine ⟨(by first | rfl | (simp; done) | (simp; rfl)), ?_, ?_⟩
  · exact ⟨hbr, by simp; omega, rfl⟩
  · intro left o ⟨g1, g2, g3⟩
    have hlm : (left.map encS).length = left.length := List.length_map ..
    have hom : (o.map encS).length = o.length := List.length_map ..
    conv => whnf
    repeat' (first
      | (refine Split.mk (fun h => ?_) (fun h => ?_) <;> (try simp only [decide_eq_true_eq, decide_eq_false_iff_not, Bool.not_eq_true', Bool.not_eq_false', beq_iff_eq, beq_eq_false_iff_ne, bne_iff_ne, bne_eq_false_iff_eq] at h) <;> (first | (exfalso; first | omega | exact h trivial) | (conv => whnf)))
      | (refine CondG.mk (fun h => ?_) (fun h => ?_) <;> (try simp only [decide_eq_true_eq, decide_eq_false_iff_not, Bool.not_eq_true', Bool.not_eq_false', beq_iff_eq, beq_eq_false_iff_ne, bne_iff_ne, bne_eq_false_iff_eq] at h) <;> (first | (exfalso; first | omega | exact h trivial) | (conv => whnf)))
      | (refine Ask.mk (by first | omega | (unfold roomOK; simp [cutRows]; done) | (unfold roomOK; simp [cutRows]; omega) | (simp [cutRows]; done) | (simp [cutRows]; omega)) ?_; conv => whnf)
      | (refine SliceG.fr ?_; conv => whnf)
      | (refine idx_at _ (by with_reducible rfl) (by first | assumption | omega) ?_; conv => whnf)
      | ((with_reducible refine row_map (by first | assumption | omega) ?_); conv => whnf)
      | ((with_reducible refine row_set (by first | assumption | omega | (simp only [List.length_set]; omega) | (simp; omega)) ?_); conv => whnf)
      | fail)
    · have hlp : 0 < left.length := by omega
      have hn : ∀ i (hi : i < left.length), affN s (left.eraseIdx i) = affN s left - gainAt s left i := by
        intro i hi
        rw [aff_erase (rise_nd g1) hi]; unfold gainAt
        rw [List.getD_eq_getElem?_getD, List.getElem?_eq_getElem hi]; rfl
      have hnp : ∀ i, 0 ≤ affN s (left.eraseIdx i) := fun i => (affN_in (fun x hm => (hx x hm).1) _).1
      refine loop_for (left.length) [] [0, 5, 6, 7, 8, 18, 19] (fun k (_ : Unit) => [(7, .c (.int .i64 ((bestAt (gainAt s left) k : Nat) : Int))), (8, .c (.int .i64 (if k = 0 then -1 else affN s (left.eraseIdx (bestAt (gainAt s left) k))))), (19, .c (.int .i64 (k : Int)))]) (fun k (_ : Unit) => []) (fun k (_ : Unit) => True) (()) ?_
      conv => whnf
      refine ⟨(by first | rfl | (simp; done) | (simp; rfl)), (by trivial), ?_, ?_⟩
      · intro k _ hk _
        have hbk : bestAt (gainAt s left) k < left.length := by
          cases k with
          | zero => exact hlp
          | succ k => have := bestAt_lt (gainAt s left) (k + 1) (by omega); omega
        have hek : (left.eraseIdx k).length ≤ 1000000 := by rw [List.length_eraseIdx, if_pos hk]; omega
        have h1 := hn k hk
        have h2 := hn _ hbk
        have h3 := hnp (bestAt (gainAt s left) k)
        conv => whnf
        repeat' (first
          | (refine Split.mk (fun h => ?_) (fun h => ?_) <;> (try simp only [decide_eq_true_eq, decide_eq_false_iff_not, Bool.not_eq_true', Bool.not_eq_false', beq_iff_eq, beq_eq_false_iff_ne, bne_iff_ne, bne_eq_false_iff_eq] at h) <;> (first | (exfalso; first | omega | exact h trivial) | (conv => whnf)))
          | (refine CondG.mk (fun h => ?_) (fun h => ?_) <;> (try simp only [decide_eq_true_eq, decide_eq_false_iff_not, Bool.not_eq_true', Bool.not_eq_false', beq_iff_eq, beq_eq_false_iff_ne, bne_iff_ne, bne_eq_false_iff_eq] at h) <;> (first | (exfalso; first | omega | exact h trivial) | (conv => whnf)))
          | (refine CallX.mk _ _ (by first | exact cloneSr_pc left (by omega) | exact delS_pc left k hk (by omega) _ (by rw [wrap_succ hk (by omega)]) | exact rAffected_pc s (by omega) hx (left.eraseIdx k) hek) ?_; conv => whnf)
          | (refine CallG.mk _ _ (by first | exact cloneSr_pc left (by omega) | exact delS_pc left k hk (by omega) _ (by rw [wrap_succ hk (by omega)]) | exact rAffected_pc s (by omega) hx (left.eraseIdx k) hek) ?_; conv => whnf)
          | (refine Ask.mk (by first | omega | (unfold roomOK; simp [cutRows]; done) | (unfold roomOK; simp [cutRows]; omega) | (simp [cutRows]; done) | (simp [cutRows]; omega)) ?_; conv => whnf)
          | (refine SliceG.fr ?_; conv => whnf)
          | (refine idx_at _ (by with_reducible rfl) (by first | assumption | omega) ?_; conv => whnf)
          | ((with_reducible refine row_map (by first | assumption | omega) ?_); conv => whnf)
          | ((with_reducible refine row_set (by first | assumption | omega | (simp only [List.length_set]; omega) | (simp; omega)) ?_); conv => whnf)
          | fail)
        all_goals rename_i h
        · have hk0 : k = 0 := by
            by_cases e : k = 0
            · exact e
            · rw [if_neg e] at h; omega
          have hbs : bestAt (gainAt s left) (k + 1) = k := by subst hk0; simp [bestAt]
          have hls : (if k + 1 = 0 then -1 else affN s (left.eraseIdx (bestAt (gainAt s left) (k + 1)))) = affN s (left.eraseIdx k) := by rw [if_neg (by omega), hbs]
          exact count_next () hk (by rw [wrap_succ hk (by omega), hls, hbs]; rfl) trivial
        · rename_i hq
          have hk0 : ¬ k = 0 := by intro e; rw [if_pos e] at hq; omega
          rw [if_neg hk0] at h
          have hbs : bestAt (gainAt s left) (k + 1) = k := by rw [bestAt, if_pos (by omega)]
          have hls : (if k + 1 = 0 then -1 else affN s (left.eraseIdx (bestAt (gainAt s left) (k + 1)))) = affN s (left.eraseIdx k) := by rw [if_neg (by omega), hbs]
          exact count_next () hk (by rw [wrap_succ hk (by omega), hls, hbs]; rfl) trivial
        · rename_i hq
          have hk0 : ¬ k = 0 := by intro e; rw [if_pos e] at hq; omega
          rw [if_neg hk0] at h
          have hbs : bestAt (gainAt s left) (k + 1) = bestAt (gainAt s left) k := by rw [bestAt, if_neg (by omega)]
          have hls : (if k + 1 = 0 then -1 else affN s (left.eraseIdx (bestAt (gainAt s left) (k + 1)))) = (if k = 0 then -1 else affN s (left.eraseIdx (bestAt (gainAt s left) k))) := by rw [if_neg (by omega), if_neg hk0, hbs]
          exact count_next () hk (by rw [wrap_succ hk (by omega), hls, hbs]; rfl) trivial
      · intro _ _
        have hbk : bestAt (gainAt s left) left.length < left.length := bestAt_lt _ _ hlp
        have hp : pickR s left = bestAt (gainAt s left) left.length := rfl
        have hel : (left.eraseIdx (bestAt (gainAt s left) left.length)).length = left.length - 1 := by rw [List.length_eraseIdx, if_pos hbk]
        have hgd : left.getD (pickR s left) ⟨#[]⟩ = left[bestAt (gainAt s left) left.length] := by
          rw [hp, List.getD_eq_getElem?_getD, List.getElem?_eq_getElem hbk]; rfl
        conv => whnf
        repeat' (first
          | (refine Split.mk (fun h => ?_) (fun h => ?_) <;> (try simp only [decide_eq_true_eq, decide_eq_false_iff_not, Bool.not_eq_true', Bool.not_eq_false', beq_iff_eq, beq_eq_false_iff_ne, bne_iff_ne, bne_eq_false_iff_eq] at h) <;> (first | (exfalso; first | omega | exact h trivial) | (conv => whnf)))
          | (refine CondG.mk (fun h => ?_) (fun h => ?_) <;> (try simp only [decide_eq_true_eq, decide_eq_false_iff_not, Bool.not_eq_true', Bool.not_eq_false', beq_iff_eq, beq_eq_false_iff_ne, bne_iff_ne, bne_eq_false_iff_eq] at h) <;> (first | (exfalso; first | omega | exact h trivial) | (conv => whnf)))
          | (refine CallX.mk _ _ (by first | exact delS_pc left _ hbk (by omega) _ (by rw [wrap_succ hbk (by omega)])) ?_; conv => whnf)
          | (refine CallG.mk _ _ (by first | exact delS_pc left _ hbk (by omega) _ (by rw [wrap_succ hbk (by omega)])) ?_; conv => whnf)
          | (refine Ask.mk (by first | omega | (unfold roomOK; simp [cutRows]; done) | (unfold roomOK; simp [cutRows]; omega) | (simp [cutRows]; done) | (simp [cutRows]; omega)) ?_; conv => whnf)
          | (refine SliceG.fr ?_; conv => whnf)
          | (refine idx_at _ (by with_reducible rfl) (by first | assumption | omega) ?_; conv => whnf)
          | ((with_reducible refine row_map (by first | assumption | omega) ?_); conv => whnf)
          | ((with_reducible refine row_set (by first | assumption | omega | (simp only [List.length_set]; omega) | (simp; omega)) ?_); conv => whnf)
          | ((refine row_at (bestAt (gainAt s left) left.length) toN hbk ?_); conv => whnf)
          | fail)
        refine meas_next (left.eraseIdx (bestAt (gainAt s left) left.length), o ++ [left[bestAt (gainAt s left) left.length]]) (by simp only; omega) (by simp only [List.map_append]; rfl) ⟨erase_rise g1 _, by simp only [List.length_append, List.length_cons, List.length_nil]; omega, ?_⟩
        rw [← g3, rep_step (s := s) hlp, hgd, hp, List.append_assoc]; rfl
    · have h9 : left = [] := List.length_eq_zero_iff.1 (by omega)
      subst h9
      rw [← g3]
      simp only [List.length_nil, repV, List.append_nil]
      first
        | exact .frz 0 _ _ _ rfl (.weak [_] (.fro 0 _ _ rfl) rfl (Nat.le_refl _))
        | exact .frz 0 _ _ _ rfl (.weak [_, _] (.fro 0 _ _ rfl) rfl (Nat.le_refl _))
end Go.Proofs.YteccacaonllceaaGreatDoor

/- What is left on drums after a plan, by the abstract walk. -/
namespace Go.Proofs.YteccacaonllceaaGreatDoor
set_option linter.unusedVariables false
set_option linter.unusedSimpArgs false
open Abs

/-- the error of one cut of a plan, and of a plan -/
def planErr1 (d s : List Pc) (i : Nat) (k : Int) : Int :=
  if k = -1 then 0 else if k < 0 ∨ (d.length : Int) - 1 < k then 8 else if (d.getD k.toNat default).kind ≠ (s.getD i default).kind then 4 else 0
def planErrs (d s : List Pc) : Nat → List Int → Int
  | _, [] => 0
  | i, k :: r => if planErr1 d s i k = 0 then planErrs d s (i + 1) r else planErr1 d s i k
/-- what the first cuts of a plan need of a drum -/
def needV (s : List Pc) (lost : Int) (plan : List Int) (j : Nat) : Nat → Int
  | 0 => 0
  | m + 1 => needV s lost plan j m + (if plan.getD m (-1) = j then (s.getD m default).long + lost else 0)
def leftL (d s : List Pc) (lost : Int) (plan : List Int) (m : Nat) : List Int :=
  (List.range d.length).map fun j => (d.getD j default).long - needV s lost plan j m
theorem leftL_len (d s : List Pc) (lost : Int) (plan : List Int) (m : Nat) : (leftL d s lost plan m).length = d.length := by simp [leftL]
theorem leftL_get {d s : List Pc} {lost : Int} {plan : List Int} {m j : Nat} (h : j < (leftL d s lost plan m).length) : (leftL d s lost plan m)[j] = (d.getD j default).long - needV s lost plan j m := by simp [leftL]
theorem needV_in {s : List Pc} {lost : Int} (hs : ∀ x ∈ s, 1 ≤ x.long ∧ x.long ≤ 200000) (h0 : 0 ≤ lost) (h1 : lost ≤ 1000) (plan : List Int) (j : Nat) : ∀ m, m ≤ s.length → 0 ≤ needV s lost plan j m ∧ needV s lost plan j m ≤ 201000 * m
  | 0, _ => by simp [needV]
  | m + 1, h => by
    have ih := needV_in hs h0 h1 plan j m (by omega)
    have hm : (s.getD m default) = s[m]'(by omega) := by simp [show m < s.length by omega]
    have := hs _ (List.getElem_mem (show m < s.length by omega))
    rw [needV, hm]
    split <;> omega
/-- the error of what is left, and what is left -/
def leftE (d s : List Pc) (r : Int × Int) (plan : List Int) : Int :=
  if allErr d s r ≠ 0 then allErr d s r else if plan.length ≠ s.length then 3 else if planErrs d s 0 plan ≠ 0 then planErrs d s 0 plan else if (leftL d s r.1 plan plan.length).any (fun x => decide (x < 0)) then 12 else 0
def leftV (d s : List Pc) (r : Int × Int) (plan : List Int) : List Int := if leftE d s r plan = 0 then leftL d s r.1 plan plan.length else []
theorem leftV_ne {d s : List Pc} {r : Int × Int} {plan : List Int} {e : Int} (h : leftE d s r plan = e) (he : e ≠ 0) : leftV d s r plan = [] := by rw [leftV, if_neg (by omega)]

theorem leftR {d s : List Pc} {r : Int × Int} {plan : List Int} {e : Int} {os : List Ob} (h : leftE d s r plan = e) (he : e ≠ 0) (ho : os = []) :
    FinR 0 (.tup [.c (.lst 1 ((leftV d s r plan).map encI)), .c (.int .i64 (leftE d s r plan))]) [] (.tup [.c .nils, .c (.int .i64 e)]) os := by
  rw [leftV_ne h he, h]
  refine .weak os (.tup _ _ rfl ?_) rfl (Nat.le_refl _)
  intro i a b ha hb
  match i with
  | 0 => cases ha; cases hb; exact .nil 1
  | 1 => cases ha; cases hb; exact .refl _
theorem planErrs_ge {d s : List Pc} : ∀ (l : List Int) (i : Nat) , planErrs d s i l = 0 ∨ planErrs d s i l = 8 ∨ planErrs d s i l = 4
  | [], _ => .inl rfl
  | k :: r, i => by
    rw [planErrs]
    split
    · exact planErrs_ge r (i + 1)
    · unfold planErr1; repeat' split
      all_goals omega
theorem toList_inj {a b : ByteArray} (h : a.toList = b.toList) : a = b := by
  rw [ByteArray.toList_eq, ByteArray.toList_eq] at h
  exact ByteArray.ext (Array.toList_inj.1 h)
theorem leftL_set {d s : List Pc} {lost : Int} {plan : List Int} {m k : Nat} (hk : k < d.length) (hp : plan.getD m (-1) = k) (x : Int) (hx : x = (d.getD k default).long - needV s lost plan k m - ((s.getD m default).long + lost)) :
    (leftL d s lost plan m).set k x = leftL d s lost plan (m + 1) := by
  apply List.ext_getElem
  · simp [leftL_len]
  · intro i h1 h2
    rw [List.getElem_set]
    rw [leftL_get, leftL_get, needV, hp]
    split
    · rename_i e; subst e; rw [hx]; simp; omega
    · rename_i e; rw [if_neg (by omega)]; omega
theorem leftL_skip {d s : List Pc} {lost : Int} {plan : List Int} {m : Nat} (hp : plan.getD m (-1) = -1) : leftL d s lost plan (m + 1) = leftL d s lost plan m := by
  unfold leftL
  apply List.map_congr_left
  intro j _
  rw [needV, hp, if_neg (by omega)]; omega

end Go.Proofs.YteccacaonllceaaGreatDoor

/- Waste of plans, and the document's answers, by the abstract walk. -/
namespace Go.Proofs.YteccacaonllceaaGreatDoor
set_option linter.unusedVariables false
set_option linter.unusedSimpArgs false
open Abs

/-- what the cuts lose, and what is scrapped -/
def lostV (lost : Int) (plan : List Int) : Nat → Int
  | 0 => 0
  | m + 1 => lostV lost plan m + (if plan.getD m (-1) < 0 then 0 else lost)
def restV (scrap : Int) (plan l : List Int) : Nat → Int
  | 0 => 0
  | k + 1 => restV scrap plan l k + (if l.getD k 0 < scrap ∧ plan.any ((k : Int) == ·) = true then l.getD k 0 else 0)
def wasteN (r : Int × Int) (plan l : List Int) : Int := lostV r.1 plan plan.length + restV r.2 plan l l.length
theorem lostV_in {lost : Int} (h0 : 0 ≤ lost) (h1 : lost ≤ 1000) (plan : List Int) : ∀ m, 0 ≤ lostV lost plan m ∧ lostV lost plan m ≤ 1000 * m
  | 0 => by simp [lostV]
  | m + 1 => by have := lostV_in h0 h1 plan m; rw [lostV]; split <;> omega
theorem restV_in {scrap : Int} (h1 : scrap ≤ 1000) (plan : List Int) {l : List Int} (hl : l.any (fun x => decide (x < 0)) = false) : ∀ k, 0 ≤ restV scrap plan l k ∧ restV scrap plan l k ≤ 1000 * k
  | 0 => by simp [restV]
  | k + 1 => by
    have := restV_in h1 plan hl k
    have h2 : 0 ≤ l.getD k 0 := by
      rcases Nat.lt_or_ge k l.length with h | h
      · have h3 := List.any_eq_false.1 hl _ (List.getElem_mem h)
        simp at h3
        simpa [h] using h3
      · simp [List.getElem?_eq_none h]
    rw [restV]; split <;> omega
theorem restV_hit {scrap : Int} {plan l : List Int} {k : Nat} (hk : k < l.length) (h1 : l[k] < scrap) (h2 : plan.any (fun x => (k : Int) == x) = true) (A : Int) : A + restV scrap plan l k + l[k] = A + restV scrap plan l (k + 1) := by
  have hg : l.getD k 0 = l[k] := by simp [hk]
  rw [restV, hg, if_pos ⟨h1, h2⟩]; omega
theorem restV_miss {scrap : Int} {plan l : List Int} {k : Nat} (hk : k < l.length) (h : ¬ (l[k] < scrap ∧ plan.any (fun x => (k : Int) == x) = true)) : restV scrap plan l (k + 1) = restV scrap plan l k := by
  have hg : l.getD k 0 = l[k] := by simp [hk]
  rw [restV, hg, if_neg h]; omega
theorem leftE_ok {d s : List Pc} {r : Int × Int} {plan : List Int} (h : leftE d s r plan = 0) : allErr d s r = 0 ∧ plan.length = s.length ∧ planErrs d s 0 plan = 0 ∧ (leftL d s r.1 plan plan.length).any (fun x => decide (x < 0)) = false := by
  unfold leftE at h
  split at h
  · omega
  · split at h
    · omega
    · split at h
      · omega
      · split at h
        · omega
        · refine ⟨by omega, by omega, by omega, by simp_all⟩
def wasteV (d s : List Pc) (r : Int × Int) (plan : List Int) : Int := if leftE d s r plan = 0 then wasteN r plan (leftV d s r plan) else 0
/-! the document's answers -/
theorem needV_hit {s : List Pc} {lost : Int} {plan : List Int} {k m : Nat} (hm : m < plan.length) (hs : m < s.length) (h : plan[m] = k) : needV s lost plan k (m + 1) = needV s lost plan k m + (s[m].long + lost) := by
  rw [needV, if_pos (by simp [hm, h])]; simp [hs]
theorem needV_miss {s : List Pc} {lost : Int} {plan : List Int} {k m : Nat} (hm : m < plan.length) (h : plan[m] ≠ k) : needV s lost plan k (m + 1) = needV s lost plan k m := by
  rw [needV, if_neg (by simpa [hm] using h)]; omega
def planF (d s : List Pc) (r : Int × Int) (plan : List Int) : Int :=
  if plan.length ≠ s.length then 3 else if planErrs d s 0 plan ≠ 0 then planErrs d s 0 plan else if (leftL d s r.1 plan plan.length).any (fun x => decide (x < 0)) then 12 else 0
theorem leftE_plan (d s : List Pc) (r : Int × Int) (plan : List Int) : leftE d s r plan = if allErr d s r ≠ 0 then allErr d s r else planF d s r plan := rfl
end Go.Proofs.YteccacaonllceaaGreatDoor

/- Rules and plans are made, lists compared. -/
namespace Go.Proofs.YteccacaonllceaaGreatDoor
set_option linter.unusedVariables false
set_option linter.unusedSimpArgs false
open Abs

def cutV (L : List Int) (p : Int) : (Int × Int) × Int :=
  if nextV L (p + 1 + 1) 15 == 0 then ((pickV L (p + 1 + 1 + 1) [0, -1, 1000, 1001], pickV L (p + 1 + 1 + 1 + 1) [5, -1, 1001]), p + 1 + 1 + 1 + 1 + 1)
  else ((pickV L p [0, 1, 1, 5], pickV L (p + 1) [0, 10, 20, 40]), p + 1 + 1 + 1)
/-- the cuts of a plan that is made -/
def cutsV (L : List Int) (nd : Nat) (p : Int) (n : Nat) : List Int := (List.range n).map fun (i : Nat) => rangeV L (p + i) (-1) (nd - 1)
theorem cutsV_succ (L : List Int) (nd : Nat) (p : Int) (n : Nat) : cutsV L nd p (n + 1) = cutsV L nd p n ++ [rangeV L (p + n) (-1) (nd - 1)] := by
  simp [cutsV, List.range_succ]
theorem cutsV_len (L : List Int) (nd : Nat) (p : Int) (n : Nat) : (cutsV L nd p n).length = n := by simp [cutsV]
def planV (L : List Int) (p : Int) (nd n : Nat) : List Int × Int :=
  if nextV L (p + n) 12 == 0 then (cutsV L nd p n ++ [pickV L (p + n + 1) [0, -2, nd]], p + n + 1 + 1) else (cutsV L nd p n, p + n + 1)
end Go.Proofs.YteccacaonllceaaGreatDoor

/- Acts in a store, by the abstract walk. -/
namespace Go.Proofs.YteccacaonllceaaGreatDoor
set_option linter.unusedVariables false
set_option linter.unusedSimpArgs false
open Abs

structure Ac where
  mo : Int
  kd : Int
  drum : ByteArray
  ty : ByteArray
  of : ByteArray
  long : Int
def encAc (x : Ac) : List V := [.int .i64 x.mo, .int .i64 x.kd, .str x.drum, .str x.ty, .str x.of, .int .i64 x.long]
def momB (n : Int) : Bool := decide (0 ≤ n ∧ n ≤ 345686399999)
def actErr (x : Ac) : Int :=
  if !momB x.mo then 1 else if x.kd < 1 ∨ 4 < x.kd then 4
  else if !keyB x.drum || (x.kd == 1 && !keyB x.ty) || (x.kd == 3 && !keyB x.of) then 5
  else if x.kd ≠ 4 ∧ (x.long < 1 ∨ 200000 < x.long) then 1
  else if (x.kd ≠ 1 ∧ x.ty.toList ≠ (⟨#[]⟩ : ByteArray).toList) ∨ (x.kd ≠ 3 ∧ x.of.toList ≠ (⟨#[]⟩ : ByteArray).toList) ∨ (x.kd = 4 ∧ x.long ≠ 0) then 3 else 0
def cmpI (a b : Int) : Int := if a < b then -1 else if b < a then 1 else 0
set_option maxRecDepth 100000 in
set_option maxHeartbeats 4000000 in
theorem isNaNI_pc (a : Int) : PCp 51 [.c (.int .i64 a)] [] (.c (.bool false)) [] := by
  refine fn_sound (mt := mts) tab_fits tab_mixed Tryz.func51 (by rfl) (by kernel_rfl) (by kernel_rfl) Tryz.results51 (Nat.le_of_ble_eq_true (by kernel_rfl)) ?_
  conv => whnf
  exact finb (by simp)
set_option maxRecDepth 100000 in
set_option maxHeartbeats 4000000 in
theorem cmpI_pc (a b : Int) : PCp 30 [.c (.int .i64 a), .c (.int .i64 b)] [] (.c (.int .i64 (cmpI a b))) [] := by
  refine fn_sound (mt := mts) tab_fits tab_mixed Tryz.func30 (by rfl) (by kernel_rfl) (by kernel_rfl) Tryz.results30 (Nat.le_of_ble_eq_true (by kernel_rfl)) ?_
  conv => whnf
  repeat' (first
    | (refine Split.mk (fun h => ?_) (fun h => ?_) <;> (try simp only [decide_eq_true_eq, decide_eq_false_iff_not, Bool.not_eq_true', Bool.not_eq_false', beq_iff_eq, beq_eq_false_iff_ne] at h) <;> (first | (exfalso; first | omega | exact h trivial) | (conv => whnf)))
    | (refine CondG.mk (fun h => ?_) (fun h => ?_) <;> (try simp only [decide_eq_true_eq, decide_eq_false_iff_not, Bool.not_eq_true', Bool.not_eq_false', beq_iff_eq, beq_eq_false_iff_ne] at h) <;> (first | (exfalso; first | omega | exact h trivial) | (conv => whnf)))
    | (refine CallX.mk _ _ (by first | exact isNaNI_pc _) ?_; conv => whnf)
    | (refine CallG.mk _ _ (by first | exact isNaNI_pc _) ?_; conv => whnf)
    | (refine Ask.mk (by first | omega | (unfold roomOK; simp [cutRows]; done) | (unfold roomOK; simp [cutRows]; omega)) ?_; conv => whnf)
    | (refine SliceG.fr ?_; conv => whnf)
    | fail)
  all_goals exact fini (by simp_all [cmpI] <;> omega)
set_option maxRecDepth 100000 in
set_option maxHeartbeats 4000000 in
theorem orI_pc (l : List Int) (hl : l.length ≤ 1000000) : PCp 29 [.c (.lst 1 (l.map encI))] [] (.c (.int .i64 (firstErr l))) [] := by
  have hlm : (l.map encI).length = l.length := List.length_map ..
  refine fn_sound (mt := mts) tab_fits tab_mixed Tryz.func29 (by rfl) (by kernel_rfl) (by kernel_rfl) Tryz.results29 (Nat.le_of_ble_eq_true (by kernel_rfl)) ?_
  conv => whnf
  refine loop_count (l.length) [] [3, 6, 7, 8] (fun k (_ : Unit) => ⟨[(3, .c (.int .i64 0)), (6, .c (.lst 1 (l.map encI))), (7, .c (.int .i64 (l.map encI).length)), (8, .c (.int .i64 k))], [], 0⟩) (fun k (_ : Unit) => firstErr (l.drop k) = firstErr l) (()) ?_ ?_ ?_
  · conv => whnf
    exact ⟨rfl, rfl⟩
  · intro k _ hk hi
    rw [drop_cons hk, firstErr] at hi
    conv => whnf
    repeat' (first
      | (refine Split.mk (fun h => ?_) (fun h => ?_) <;> (try simp only [decide_eq_true_eq, decide_eq_false_iff_not, Bool.not_eq_true', Bool.not_eq_false', beq_iff_eq, beq_eq_false_iff_ne] at h) <;> (first | (exfalso; first | omega | exact h trivial) | (conv => whnf)))
      | (refine CondG.mk (fun h => ?_) (fun h => ?_) <;> (try simp only [decide_eq_true_eq, decide_eq_false_iff_not, Bool.not_eq_true', Bool.not_eq_false', beq_iff_eq, beq_eq_false_iff_ne] at h) <;> (first | (exfalso; first | omega | exact h trivial) | (conv => whnf)))
      | (refine Ask.mk (by first | omega | (unfold roomOK; simp [cutRows]; done) | (unfold roomOK; simp [cutRows]; omega)) ?_; conv => whnf)
      | (refine SliceG.fr ?_; conv => whnf)
      | fail)
    refine idx_map k hk rfl ?_
    conv => whnf
    repeat' (first
      | (refine Split.mk (fun h => ?_) (fun h => ?_) <;> (try simp only [decide_eq_true_eq, decide_eq_false_iff_not, Bool.not_eq_true', Bool.not_eq_false', beq_iff_eq, beq_eq_false_iff_ne] at h) <;> (first | (exfalso; first | omega | exact h trivial) | (conv => whnf)))
      | (refine CondG.mk (fun h => ?_) (fun h => ?_) <;> (try simp only [decide_eq_true_eq, decide_eq_false_iff_not, Bool.not_eq_true', Bool.not_eq_false', beq_iff_eq, beq_eq_false_iff_ne] at h) <;> (first | (exfalso; first | omega | exact h trivial) | (conv => whnf)))
      | (refine Ask.mk (by first | omega | (unfold roomOK; simp [cutRows]; done) | (unfold roomOK; simp [cutRows]; omega)) ?_; conv => whnf)
      | (refine SliceG.fr ?_; conv => whnf)
      | fail)
    · exact fini (by rw [← hi, if_neg (by simpa using h)])
    · refine count_next () hk (by rw [wrap_succ hk (by omega)]; rfl) ?_
      rw [← hi, if_pos (by simpa using h)]
  · intro _ hi
    rw [List.drop_of_length_le (Nat.le_refl _)] at hi
    conv => whnf
    repeat' (first
      | (refine Split.mk (fun h => ?_) (fun h => ?_) <;> (try simp only [decide_eq_true_eq, decide_eq_false_iff_not, Bool.not_eq_true', Bool.not_eq_false', beq_iff_eq, beq_eq_false_iff_ne] at h) <;> (first | (exfalso; first | omega | exact h trivial) | (conv => whnf)))
      | (refine CondG.mk (fun h => ?_) (fun h => ?_) <;> (try simp only [decide_eq_true_eq, decide_eq_false_iff_not, Bool.not_eq_true', Bool.not_eq_false', beq_iff_eq, beq_eq_false_iff_ne] at h) <;> (first | (exfalso; first | omega | exact h trivial) | (conv => whnf)))
      | (refine Ask.mk (by first | omega | (unfold roomOK; simp [cutRows]; done) | (unfold roomOK; simp [cutRows]; omega)) ?_; conv => whnf)
      | (refine SliceG.fr ?_; conv => whnf)
      | fail)
    exact fini (by rw [← hi]; rfl)
def timeC (a b : Ac) : Int := firstErr [cmpI a.mo b.mo, cmpS a.drum b.drum, cmpI a.kd b.kd, cmpS a.ty b.ty, cmpS a.of b.of, cmpI a.long b.long]
def badPrev (p : Option Ac) (x : Ac) : Bool := match p with | none => false | some y => decide (timeC x y ≤ 0)
def actsErr : Option Ac → List Ac → Int
  | _, [] => 0
  | p, x :: r => if actErr x ≠ 0 then actErr x else if badPrev p x = true then 7 else actsErr (some x) r
def prevAt (l : List Ac) (k : Nat) : Option Ac := if k = 0 then none else l[k - 1]?
def actsFault (l : List Ac) : Int := if 2000 < l.length then 2 else actsErr none l
end Go.Proofs.YteccacaonllceaaGreatDoor

/- A store with one drum, by the abstract walk. -/
namespace Go.Proofs.YteccacaonllceaaGreatDoor
set_option linter.unusedVariables false
set_option linter.unusedSimpArgs false
open Abs

/-- a first drum comes -/
abbrev stBox : Ob := .box [.mp 1, .mp 2]
/-- a store with one drum -/
abbrev stOne (x : Ac) : List Ob := [stBox, .map 1 [(0, .c (.str x.drum), .agg [.str x.ty, .int .i64 x.long])], .map 1 [(0, .c (.str x.drum), .c (.str x.ty))]]
end Go.Proofs.YteccacaonllceaaGreatDoor

/- A list of one drum is sorted. -/
namespace Go.Proofs.YteccacaonllceaaGreatDoor
set_option linter.unusedVariables false
set_option linter.unusedSimpArgs false
open Abs

set_option maxRecDepth 100000 in
set_option maxHeartbeats 4000000 in
theorem len64_pc : PCp 74 [.c (.int .u64 1)] [] (.c (.int .i64 1)) [] := by
  refine fn_sound (mt := mts) tab_fits tab_mixed Tryz.func74 (by rfl) (by kernel_rfl) (by kernel_rfl) Tryz.results74 (Nat.le_of_ble_eq_true (by kernel_rfl)) ?_
  conv => whnf
  repeat' (first
    | (refine Split.mk (fun h => ?_) (fun h => ?_) <;> (try simp only [decide_eq_true_eq, decide_eq_false_iff_not, Bool.not_eq_true', Bool.not_eq_false', beq_iff_eq, beq_eq_false_iff_ne] at h) <;> (first | (exfalso; first | omega | exact h trivial) | (conv => whnf)))
    | (refine CondG.mk (fun h => ?_) (fun h => ?_) <;> (try simp only [decide_eq_true_eq, decide_eq_false_iff_not, Bool.not_eq_true', Bool.not_eq_false', beq_iff_eq, beq_eq_false_iff_ne] at h) <;> (first | (exfalso; first | omega | exact h trivial) | (conv => whnf)))
    | (refine Ask.mk (by first | omega | (unfold roomOK; simp [cutRows]; done) | (unfold roomOK; simp [cutRows]; omega)) ?_; conv => whnf)
    | (refine SliceG.fr ?_; conv => whnf)
    | fail)
  all_goals first | (exfalso; revert h; decide) | skip
  refine .mk (by decide +kernel) ?_
  conv => whnf
  exact fini (by decide +kernel)
set_option maxRecDepth 100000 in
set_option maxHeartbeats 4000000 in
theorem len_pc : PCp 50 [.c (.int .u64 1)] [] (.c (.int .i64 1)) [] := by
  refine fn_sound (mt := mts) tab_fits tab_mixed Tryz.func50 (by rfl) (by kernel_rfl) (by kernel_rfl) Tryz.results50 (Nat.le_of_ble_eq_true (by kernel_rfl)) ?_
  conv => whnf
  repeat' (first
    | (refine Split.mk (fun h => ?_) (fun h => ?_) <;> (try simp only [decide_eq_true_eq, decide_eq_false_iff_not, Bool.not_eq_true', Bool.not_eq_false', beq_iff_eq, beq_eq_false_iff_ne] at h) <;> (first | (exfalso; first | omega | exact h trivial) | (conv => whnf)))
    | (refine CondG.mk (fun h => ?_) (fun h => ?_) <;> (try simp only [decide_eq_true_eq, decide_eq_false_iff_not, Bool.not_eq_true', Bool.not_eq_false', beq_iff_eq, beq_eq_false_iff_ne] at h) <;> (first | (exfalso; first | omega | exact h trivial) | (conv => whnf)))
    | (refine CallX.mk _ _ (by first | exact len64_pc) ?_; conv => whnf)
    | (refine CallG.mk _ _ (by first | exact len64_pc) ?_; conv => whnf)
    | (refine Ask.mk (by first | omega | (unfold roomOK; simp [cutRows]; done) | (unfold roomOK; simp [cutRows]; omega)) ?_; conv => whnf)
    | (refine SliceG.fr ?_; conv => whnf)
    | fail)
  exact fini rfl
end Go.Proofs.YteccacaonllceaaGreatDoor

/- The law PlansWeighed, by the abstract walk. -/
namespace Go.Proofs.YteccacaonllceaaGreatDoor
set_option linter.unusedVariables false
set_option linter.unusedSimpArgs false
open Abs

def lab1 : ByteArray := ⟨#[100]⟩
theorem drumsV_in (L : List Int) (p most : Int) (h0 : 0 ≤ most) : p ≤ (drumsV L p most).2 ∧ (drumsV L p most).2 ≤ p + 2 * most + 6 ∧ ((drumsV L p most).1.length : Int) ≤ most := by
  have hr := rangeV_in L p 0 most h0
  have hs := pcIter_snd L (p + 1) ⟨#[100]⟩ dLongs (rangeV L p 0 most).toNat
  have hl := pcIter_len L (p + 1) ⟨#[100]⟩ dLongs (rangeV L p 0 most).toNat
  unfold drumsV
  simp only
  generalize pcIter L (p + 1) ⟨#[100]⟩ dLongs (rangeV L p 0 most).toNat = A at *
  split
  · split
    · simp only [dSpoil, List.length_set]; omega
    · simp only; omega
  · omega
theorem sectsV_in (L : List Int) (p most : Int) (h0 : 0 ≤ most) : p ≤ (sectsV L p most).2 ∧ (sectsV L p most).2 ≤ p + 2 * most + 6 ∧ ((sectsV L p most).1.length : Int) ≤ most := by
  have hr := rangeV_in L p 0 most h0
  have hs := pcIter_snd L (p + 1) ⟨#[115]⟩ sLongs (rangeV L p 0 most).toNat
  have hl := pcIter_len L (p + 1) ⟨#[115]⟩ sLongs (rangeV L p 0 most).toNat
  unfold sectsV
  simp only
  generalize pcIter L (p + 1) ⟨#[115]⟩ sLongs (rangeV L p 0 most).toNat = A at *
  split
  · split
    · simp only [sSpoil, List.length_set]; omega
    · simp only; omega
  · omega
theorem cutV_in (L : List Int) (p : Int) : p ≤ (cutV L p).2 ∧ (cutV L p).2 ≤ p + 6 := by
  unfold cutV
  split <;> simp only <;> omega
theorem planV_len (L : List Int) (p : Int) (nd n : Nat) : (planV L p nd n).1.length ≤ n + 1 := by
  unfold planV
  split <;> simp [cutsV_len]

end Go.Proofs.YteccacaonllceaaGreatDoor

/- Lists of acts are sorted. -/
namespace Go.Proofs.YteccacaonllceaaGreatDoor
set_option linter.unusedVariables false
set_option linter.unusedSimpArgs false
open Abs

/-! the length of a small number -/
theorem wrapU64 (n : Nat) (h : n ≤ 1000000) : IntKind.u64.wrap (n : Int) = n := IntWalk.u64_in _ ⟨by omega, by omega⟩
set_option maxRecDepth 100000 in
set_option maxHeartbeats 4000000 in
theorem bLen64_ex (n : Nat) (h : n ≤ 100) : ∃ v : Int, PCp 74 [.c (.int .u64 n)] [] (.c (.int .i64 v)) [] := by
  apply Exists.intro
  refine fn_sound (mt := mts) tab_fits tab_mixed Tryz.func74 (by rfl) (by kernel_rfl) (by kernel_rfl) Tryz.results74 (Nat.le_of_ble_eq_true (by kernel_rfl)) ?_
  conv => whnf
  repeat' (first
    | (refine Split.mk (fun h => ?_) (fun h => ?_) <;> (try simp only [decide_eq_true_eq, decide_eq_false_iff_not, Bool.not_eq_true', Bool.not_eq_false', beq_iff_eq, beq_eq_false_iff_ne] at h) <;> (first | (exfalso; first | omega | exact h trivial) | (conv => whnf)))
    | (refine CondG.mk (fun h => ?_) (fun h => ?_) <;> (try simp only [decide_eq_true_eq, decide_eq_false_iff_not, Bool.not_eq_true', Bool.not_eq_false', beq_iff_eq, beq_eq_false_iff_ne] at h) <;> (first | (exfalso; first | omega | exact h trivial) | (conv => whnf)))
    | (refine Ask.mk (by first | omega | (unfold roomOK; simp [cutRows]; done) | (unfold roomOK; simp [cutRows]; omega)) ?_; conv => whnf)
    | (refine SliceG.fr ?_; conv => whnf)
    | fail)
  rw [IntWalk.u8_in _ ⟨by omega, by omega⟩]
  refine .mk ⟨by omega, Int.lt_of_lt_of_le (show (n : Int) < 101 by omega) (by decide +kernel)⟩ ?_
  conv => whnf
  exact .mk ⟨rfl, rfl⟩
set_option maxRecDepth 100000 in
set_option maxHeartbeats 4000000 in
theorem bLen_ex (n : Nat) (h : n ≤ 100) : ∃ v : Int, PCp 50 [.c (.int .u64 n)] [] (.c (.int .i64 v)) [] := by
  obtain ⟨v, hv⟩ := bLen64_ex n h
  refine ⟨v, ?_⟩
  refine fn_sound (mt := mts) tab_fits tab_mixed Tryz.func50 (by rfl) (by kernel_rfl) (by kernel_rfl) Tryz.results50 (Nat.le_of_ble_eq_true (by kernel_rfl)) ?_
  conv => whnf
  repeat' (first
    | (refine Split.mk (fun h => ?_) (fun h => ?_) <;> (try simp only [decide_eq_true_eq, decide_eq_false_iff_not, Bool.not_eq_true', Bool.not_eq_false', beq_iff_eq, beq_eq_false_iff_ne] at h) <;> (first | (exfalso; first | omega | exact h trivial) | (conv => whnf)))
    | (refine CondG.mk (fun h => ?_) (fun h => ?_) <;> (try simp only [decide_eq_true_eq, decide_eq_false_iff_not, Bool.not_eq_true', Bool.not_eq_false', beq_iff_eq, beq_eq_false_iff_ne] at h) <;> (first | (exfalso; first | omega | exact h trivial) | (conv => whnf)))
    | (refine CallX.mk _ _ (by first | exact hv) ?_; conv => whnf)
    | (refine CallG.mk _ _ (by first | exact hv) ?_; conv => whnf)
    | (refine Ask.mk (by first | omega | (unfold roomOK; simp [cutRows]; done) | (unfold roomOK; simp [cutRows]; omega)) ?_; conv => whnf)
    | (refine SliceG.fr ?_; conv => whnf)
    | fail)
  exact fini rfl
deriving instance DecidableEq for Ac
theorem eqAc {x y : Ac} : (x.mo == y.mo && (x.kd == y.kd && (x.drum.toList == y.drum.toList && (x.ty.toList == y.ty.toList && (x.of.toList == y.of.toList && x.long == y.long))))) = true ↔ x = y := by
  obtain ⟨a1, a2, a3, a4, a5, a6⟩ := x
  obtain ⟨b1, b2, b3, b4, b5, b6⟩ := y
  simp only [Bool.and_eq_true, beq_iff_eq, Ac.mk.injEq]
  have hs : ∀ {s t : ByteArray}, s.toList = t.toList ↔ s = t := fun {s t} => ⟨toList_inj, fun h => by rw [h]⟩
  rw [hs, hs, hs]
end Go.Proofs.YteccacaonllceaaGreatDoor

/- Acts are made. -/
namespace Go.Proofs.YteccacaonllceaaGreatDoor
set_option linter.unusedVariables false
set_option linter.unusedSimpArgs false
open Abs

def sgn (n : Int) : Int := if n < 0 then -1 else if 0 < n then 1 else 0
set_option maxRecDepth 100000 in
set_option maxHeartbeats 4000000 in
theorem sign_pc (n : Int) : PCp 41 [.c (.int .i64 n)] [] (.c (.int .i64 (sgn n))) [] := by
  refine fn_sound (mt := mts) tab_fits tab_mixed Tryz.func41 (by rfl) (by kernel_rfl) (by kernel_rfl) Tryz.results41 (Nat.le_of_ble_eq_true (by kernel_rfl)) ?_
  conv => whnf
  repeat' (first
    | (refine Split.mk (fun h => ?_) (fun h => ?_) <;> (try simp only [decide_eq_true_eq, decide_eq_false_iff_not, Bool.not_eq_true', Bool.not_eq_false', beq_iff_eq, beq_eq_false_iff_ne] at h) <;> (first | (exfalso; first | omega | exact h trivial) | (conv => whnf)))
    | (refine CondG.mk (fun h => ?_) (fun h => ?_) <;> (try simp only [decide_eq_true_eq, decide_eq_false_iff_not, Bool.not_eq_true', Bool.not_eq_false', beq_iff_eq, beq_eq_false_iff_ne] at h) <;> (first | (exfalso; first | omega | exact h trivial) | (conv => whnf)))
    | (refine Ask.mk (by first | omega | (unfold roomOK; simp [cutRows]; done) | (unfold roomOK; simp [cutRows]; omega)) ?_; conv => whnf)
    | (refine SliceG.fr ?_; conv => whnf)
    | fail)
  all_goals exact fini (by simp_all [sgn] <;> omega)
/-- how the document orders acts -/
def ordC (a b : Ac) : Int :=
  if a.mo ≠ b.mo then sgn (IntKind.i64.wrap (a.mo - b.mo))
  else if a.drum ≠ b.drum then cmpS a.drum b.drum
  else if a.kd ≠ b.kd then sgn (IntKind.i64.wrap (a.kd - b.kd))
  else if a.ty ≠ b.ty then cmpS a.ty b.ty
  else if a.of ≠ b.of then cmpS a.of b.of
  else sgn (IntKind.i64.wrap (a.long - b.long))
theorem strEq {a b : ByteArray} : a.toList = b.toList ↔ a = b := ⟨toList_inj, fun h => by rw [h]⟩
def oddV (L : List Int) (p lo hi : Int) : Int := if nextV L p 12 == 0 then pickV L (p + 1) [lo - 1, hi + 1, lo, hi, -1099511627776, 1099511627776] else rangeV L (p + 1) lo hi
theorem pushAc (l : List Ac) (a b : Int) (c d e : ByteArray) (f : Int) : l.map encAc ++ [[.int .i64 a, .int .i64 b, .str c, .str d, .str e, .int .i64 f]] = (l ++ [(⟨a, b, c, d, e, f⟩ : Ac)]).map encAc := by simp [encAc]
def bDa : ByteArray := ⟨#[100, 97]⟩
def bDb : ByteArray := ⟨#[100, 98]⟩
def names6 : List ByteArray := [bDa, bDb, ⟨#[100, 99]⟩, ⟨#[100, 100]⟩, ⟨#[]⟩, ⟨#[65]⟩]
theorem names_a (L : List Int) (p : Int) : someV L p [bDa, bDa, bDb, ⟨#[100, 99]⟩, ⟨#[100, 100]⟩] ∈ names6 := by
  have := someV_in L p [bDa, bDa, bDb, ⟨#[100, 99]⟩, ⟨#[100, 100]⟩] (by decide)
  generalize someV L p [bDa, bDa, bDb, ⟨#[100, 99]⟩, ⟨#[100, 100]⟩] = d at *
  simp only [List.mem_cons, List.not_mem_nil, or_false] at this
  unfold names6
  simp only [List.mem_cons, List.not_mem_nil, or_false]
  rcases this with h | h | h | h | h <;> simp [h]
theorem names_b (L : List Int) (p : Int) {e : ByteArray} (he : e ∈ names6) : someV L p [⟨#[]⟩, ⟨#[65]⟩, e] ∈ names6 := by
  have := someV_in L p [⟨#[]⟩, ⟨#[65]⟩, e] (by simp)
  generalize someV L p [⟨#[]⟩, ⟨#[65]⟩, e] = d at *
  simp only [List.mem_cons, List.not_mem_nil, or_false] at this
  rcases this with h | h | h
  · rw [h]; unfold names6; simp
  · rw [h]; unfold names6; simp
  · rw [h]; exact he
theorem names_push {l : List Ac} (h : ∀ x ∈ l, x.drum ∈ names6) {y : Ac} (hy : y.drum ∈ names6) : ∀ x ∈ l ++ [y], x.drum ∈ names6 := by
  intro x hx
  rcases List.mem_append.1 hx with h1 | h1
  · exact h x h1
  · simp at h1; subst h1; exact hy
end Go.Proofs.YteccacaonllceaaGreatDoor

/- A store, as the program follows it. -/
namespace Go.Proofs.YteccacaonllceaaGreatDoor
set_option linter.unusedVariables false
set_option linter.unusedSimpArgs false
open Abs

abbrev bE : ByteArray := ⟨#[]⟩
abbrev ekS : ByteArray → S := fun b => .c (.str b)
abbrev evD : ByteArray × Int → S := fun v => .agg [.str v.1, .int .i64 v.2]
abbrev evK : ByteArray → S := fun v => .c (.str v)
abbrev evI : Int → S := fun v => .c (.int .i64 v)
structure Sto where
  d : SM ByteArray (ByteArray × Int)
  k : SM ByteArray ByteArray
structure Sto.ok (s : Sto) : Prop where
  d : s.d.ok
  k : s.k.ok
abbrev stoD (s : Sto) : Ob := smO ekS evD s.d
abbrev stoK (s : Sto) : Ob := smO ekS evK s.k
def takeS (s : Sto) (x : Ac) : Sto × ByteArray × Int :=
  if x.kd = 1 ∨ x.kd = 3 then
    if (s.k.get x.drum).isSome then (s, bE, 6)
    else if x.kd = 1 then (⟨s.d.put x.drum (x.ty, x.long), s.k.put x.drum x.ty⟩, x.ty, 0)
    else if (s.k.get x.of).isSome then (⟨s.d.put x.drum ((s.k.get x.of).getD bE, x.long), s.k.put x.drum ((s.k.get x.of).getD bE)⟩, (s.k.get x.of).getD bE, 0)
    else (s, bE, 8)
  else if (s.d.get x.drum).isSome then
    if x.kd = 2 ∧ ((s.d.get x.drum).getD (bE, 0)).2 < x.long then (s, bE, 12)
    else if x.kd = 4 ∨ IntKind.i64.wrap (((s.d.get x.drum).getD (bE, 0)).2 - x.long) = 0 then (⟨s.d.del x.drum, s.k⟩, ((s.d.get x.drum).getD (bE, 0)).1, 0)
    else (⟨s.d.put x.drum (((s.d.get x.drum).getD (bE, 0)).1, IntKind.i64.wrap (((s.d.get x.drum).getD (bE, 0)).2 - x.long)), s.k⟩, ((s.d.get x.drum).getD (bE, 0)).1, 0)
  else (s, bE, 8)
end Go.Proofs.YteccacaonllceaaGreatDoor

/- What was used, as the program counts it. -/
namespace Go.Proofs.YteccacaonllceaaGreatDoor
set_option linter.unusedVariables false
set_option linter.unusedSimpArgs false
open Abs

abbrev Wi := Int × Int
abbrev encW (w : Wi) : List V := [.int .i64 w.1, .int .i64 w.2]
def inW (w : Wi) (n : Int) : Bool := decide (w.1 ≤ n ∧ n < w.2)
def winB (w : Wi) : Bool := decide (0 ≤ w.1 ∧ w.1 ≤ w.2 ∧ w.2 ≤ 345686400000)
def winErr (l : List Ac) (kind : ByteArray) (w : Wi) : Int := if actsFault l ≠ 0 then actsFault l else if !keyB kind then 5 else if !winB w then 1 else 0
/-- the store behind the first acts -/
def stoNil : Sto := ⟨SM.nil, SM.nil⟩
def stoAt (l : List Ac) : Nat → Sto
  | 0 => stoNil
  | k + 1 => (takeS (stoAt l k) (l.getD k ⟨0, 0, bE, bE, bE, 0⟩)).1
theorem takeS_ok {s : Sto} (hs : s.ok) (x : Ac) : (takeS s x).1.ok := by
  unfold takeS
  repeat' split
  all_goals first
    | exact hs
    | exact ⟨hs.d.put _ _, hs.k.put _ _⟩
    | exact ⟨hs.d.del _, hs.k⟩
    | exact ⟨hs.d.put _ _, hs.k⟩
theorem stoAt_ok (l : List Ac) : ∀ k, (stoAt l k).ok
  | 0 => ⟨SM.ok_nil, SM.ok_nil⟩
  | k + 1 => takeS_ok (stoAt_ok l k) _
def usedStep (kind : ByteArray) (w : Wi) (x : Ac) (of : ByteArray) (e n : Int) : Int :=
  if e ≠ 0 ∨ of ≠ kind ∨ inW w x.mo = false then n else if x.kd = 2 then IntKind.i64.wrap (n + x.long) else if x.kd = 3 then IntKind.i64.wrap (n - x.long) else n
def usedAt (l : List Ac) (kind : ByteArray) (w : Wi) : Nat → Int
  | 0 => 0
  | k + 1 => usedStep kind w (l.getD k ⟨0, 0, bE, bE, bE, 0⟩) (takeS (stoAt l k) (l.getD k ⟨0, 0, bE, bE, bE, 0⟩)).2.1 (takeS (stoAt l k) (l.getD k ⟨0, 0, bE, bE, bE, 0⟩)).2.2 (usedAt l kind w k)
def usedV (l : List Ac) (kind : ByteArray) (w : Wi) : Int := if winErr l kind w = 0 then usedAt l kind w l.length else 0
end Go.Proofs.YteccacaonllceaaGreatDoor

/- The least stock, as the program finds it. -/
namespace Go.Proofs.YteccacaonllceaaGreatDoor
set_option linter.unusedVariables false
set_option linter.unusedSimpArgs false
open Abs

abbrev DE := Nat × ByteArray × (ByteArray × Int)
def sumK (kind : ByteArray) : List DE → Int
  | [] => 0
  | e :: r => sumK kind r + (if e.2.2.1 = kind then e.2.2.2 else 0)
theorem sumK_perm (kind : ByteArray) {l m : List DE} (h : l.Perm m) : sumK kind l = sumK kind m := by
  induction h with
  | nil => rfl
  | cons x _ ih => simp only [sumK, ih]
  | swap x y l => simp only [sumK]; omega
  | trans _ _ h1 h2 => exact h1.trans h2
def LongOk (s : Sto) : Prop := (∀ e ∈ s.d.es, 0 < e.2.2.2 ∧ e.2.2.2 ≤ 200000) ∧ s.d.es.length ≤ 1000000
theorem sumK_in (kind : ByteArray) : ∀ (l : List DE), (∀ e ∈ l, 0 < e.2.2.2 ∧ e.2.2.2 ≤ 200000) → 0 ≤ sumK kind l ∧ sumK kind l ≤ 200000 * l.length
  | [], _ => by simp [sumK]
  | e :: r, h => by
    have ih := sumK_in kind r (fun e he => h e (by simp [he]))
    have := h e (by simp)
    simp only [sumK, List.length_cons]
    split <;> omega
/-- what is turned by an act: the number now, the least, begun -/
structure Lo where
  now : Int
  least : Int
  begun : Bool
def lowStep (l : List Ac) (kind : ByteArray) (w : Wi) (i : Nat) (of : ByteArray) (e tot : Int) (q : Lo) : Lo :=
  let mo := (l.getD i ⟨0, 0, bE, bE, bE, 0⟩).mo
  let q1 : Lo := if w.1 < mo ∧ q.begun = false then ⟨q.now, q.now, true⟩ else q
  if w.2 ≤ mo then q1
  else
    let q2 : Lo := if e = 0 ∧ of = kind then ⟨tot, q1.least, q1.begun⟩ else q1
    if q2.begun = true ∧ ((i : Int) = (l.length : Int) - 1 ∨ mo < (l.getD (i + 1) ⟨0, 0, bE, bE, bE, 0⟩).mo) then ⟨q2.now, if q2.now < q2.least then q2.now else q2.least, true⟩ else q2
end Go.Proofs.YteccacaonllceaaGreatDoor

/- The least stock, as the program finds it: all acts. -/
namespace Go.Proofs.YteccacaonllceaaGreatDoor
set_option linter.unusedVariables false
set_option linter.unusedSimpArgs false
open Abs

abbrev acD : Ac := ⟨0, 0, bE, bE, bE, 0⟩
def lowAt (l : List Ac) (kind : ByteArray) (w : Wi) : Nat → Lo
  | 0 => ⟨0, 0, false⟩
  | k + 1 => lowStep l kind w k (takeS (stoAt l k) (l.getD k acD)).2.1 (takeS (stoAt l k) (l.getD k acD)).2.2 (sumK kind (stoAt l (k + 1)).d.es) (lowAt l kind w k)
def lowErr (l : List Ac) (kind : ByteArray) (w : Wi) : Int := if winErr l kind w = 0 ∧ w.1 = w.2 then 1 else winErr l kind w
def lowRes (l : List Ac) (kind : ByteArray) (w : Wi) : Int := if (lowAt l kind w l.length).begun then (lowAt l kind w l.length).least else (lowAt l kind w l.length).now
def lowV (l : List Ac) (kind : ByteArray) (w : Wi) : Int := if lowErr l kind w = 0 then lowRes l kind w else 0
end Go.Proofs.YteccacaonllceaaGreatDoor

/- The document's store. -/
namespace Go.Proofs.YteccacaonllceaaGreatDoor
set_option linter.unusedVariables false
set_option linter.unusedSimpArgs false
open Abs

structure Rto where
  l : SM ByteArray Int
  k : SM ByteArray ByteArray
structure Rto.ok (s : Rto) : Prop where
  l : s.l.ok
  k : s.k.ok
abbrev rtoL (s : Rto) : Ob := smO ekS evI s.l
abbrev rtoK (s : Rto) : Ob := smO ekS evK s.k
/-- the store behind an act, what was cut, the error -/
def doR (s : Rto) (x : Ac) : Rto × Int × Int :=
  if x.kd = 1 then
    if (s.k.get x.drum).isSome then (s, 0, 6) else (⟨s.l.put x.drum x.long, s.k.put x.drum x.ty⟩, 0, 0)
  else if x.kd = 2 then
    if (s.l.get x.drum).getD 0 = 0 then (s, 0, 8)
    else if (s.l.get x.drum).getD 0 < x.long then (s, 0, 12)
    else (⟨s.l.put x.drum (IntKind.i64.wrap ((s.l.get x.drum).getD 0 - x.long)), s.k⟩, x.long, 0)
  else if x.kd = 3 then
    if (s.k.get x.drum).isSome then (s, 0, 6)
    else if (s.k.get x.of).isSome then (⟨s.l.put x.drum x.long, s.k.put x.drum ((s.k.get x.of).getD bE)⟩, IntKind.i64.wrap (0 - x.long), 0)
    else (s, 0, 8)
  else if (s.l.get x.drum).getD 0 = 0 then (s, 0, 8)
  else (⟨s.l.put x.drum 0, s.k⟩, 0, 0)
end Go.Proofs.YteccacaonllceaaGreatDoor

/- What was used, by the document. -/
namespace Go.Proofs.YteccacaonllceaaGreatDoor
set_option linter.unusedVariables false
set_option linter.unusedSimpArgs false
open Abs

def rtoNil : Rto := ⟨SM.nil, SM.nil⟩
def rtoAt (l : List Ac) : Nat → Rto
  | 0 => rtoNil
  | k + 1 => (doR (rtoAt l k) (l.getD k acD)).1
theorem doR_ok {s : Rto} (hs : s.ok) (x : Ac) : (doR s x).1.ok := by
  unfold doR
  repeat' split
  all_goals first
    | exact hs
    | exact ⟨hs.l.put _ _, hs.k.put _ _⟩
    | exact ⟨hs.l.put _ _, hs.k⟩
theorem rtoAt_ok (l : List Ac) : ∀ k, (rtoAt l k).ok
  | 0 => ⟨SM.ok_nil, SM.ok_nil⟩
  | k + 1 => doR_ok (rtoAt_ok l k) _
theorem doR_no {s : Rto} {x : Ac} (h : (doR s x).2.2 ≠ 0) : (doR s x).1 = s := by
  revert h
  unfold doR
  (repeat' split) <;> simp
def cutsR (l : List Ac) : Nat → List Int
  | 0 => []
  | k + 1 => if (doR (rtoAt l k) (l.getD k acD)).2.2 = 0 then cutsR l k ++ [(doR (rtoAt l k) (l.getD k acD)).2.1] else cutsR l k
theorem cutsR_len (l : List Ac) : ∀ k, (cutsR l k).length ≤ k
  | 0 => Nat.le_refl _
  | k + 1 => by
    have := cutsR_len l k
    unfold cutsR
    split
    · simp; omega
    · omega
def usedR (l : List Ac) (kind : ByteArray) (w : Wi) : Nat → Int
  | 0 => 0
  | k + 1 => if (doR (rtoAt l k) (l.getD k acD)).2.2 = 0 ∧ ((rtoAt l (k + 1)).k.get (l.getD k acD).drum).getD bE = kind ∧ w.1 ≤ (l.getD k acD).mo ∧ (l.getD k acD).mo < w.2 then IntKind.i64.wrap (usedR l kind w k + (doR (rtoAt l k) (l.getD k acD)).2.1) else usedR l kind w k
end Go.Proofs.YteccacaonllceaaGreatDoor

/- Stock at a moment, by the document. -/
namespace Go.Proofs.YteccacaonllceaaGreatDoor
set_option linter.unusedVariables false
set_option linter.unusedSimpArgs false
open Abs

def cntAt (l : List Ac) (t : Int) : Nat := (l.takeWhile fun x => decide (x.mo ≤ t)).length
theorem cntAt_le (l : List Ac) (t : Int) : cntAt l t ≤ l.length := (List.takeWhile_prefix _).length_le
theorem cntAt_in {l : List Ac} {t : Int} {k : Nat} (h : k < cntAt l t) : (l[k]'(by have := cntAt_le l t; omega)).mo ≤ t := by
  have key : ∀ (l : List Ac) (k : Nat) (hk : k < l.length), k < (l.takeWhile fun x => decide (x.mo ≤ t)).length → l[k].mo ≤ t := by
    intro l
    induction l with
    | nil => intro k hk; simp at hk
    | cons a r ih =>
      intro k hk h
      by_cases ha : a.mo ≤ t
      · simp only [List.takeWhile_cons, ha, decide_true, if_true, List.length_cons] at h
        cases k with
        | zero => simpa using ha
        | succ k => simpa using ih k (by simpa using hk) (by omega)
      · simp [List.takeWhile_cons, ha] at h
  exact key l k _ h
theorem cntAt_out {l : List Ac} {t : Int} (h : cntAt l t < l.length) : t < (l[cntAt l t]).mo := by
  unfold cntAt at h ⊢
  induction l with
  | nil => simp at h
  | cons a r ih =>
    by_cases ha : a.mo ≤ t
    · simp only [List.takeWhile_cons, ha, decide_true, if_true, List.length_cons] at h ⊢
      simpa using ih (by simpa using h)
    · simp only [List.takeWhile_cons, ha, decide_false, Bool.false_eq_true, if_false, List.length_nil] at h ⊢
      simp; omega
def refR (l : List Ac) : Nat → List Int
  | 0 => []
  | k + 1 => if (doR (rtoAt l k) (l.getD k acD)).2.2 = 0 then refR l k else refR l k ++ [(k : Int)]
def whyR (l : List Ac) : Nat → List Int
  | 0 => []
  | k + 1 => if (doR (rtoAt l k) (l.getD k acD)).2.2 = 0 then whyR l k else whyR l k ++ [(doR (rtoAt l k) (l.getD k acD)).2.2]
theorem refR_len (l : List Ac) : ∀ k, (refR l k).length ≤ k ∧ (whyR l k).length ≤ k
  | 0 => ⟨Nat.le_refl _, Nat.le_refl _⟩
  | k + 1 => by
    have := refR_len l k
    unfold refR whyR
    split
    · omega
    · simp; omega
end Go.Proofs.YteccacaonllceaaGreatDoor

/- Stock at a moment, by the document: the list. -/
namespace Go.Proofs.YteccacaonllceaaGreatDoor
set_option linter.unusedVariables false
set_option linter.unusedSimpArgs false
open Abs

abbrev LE := Nat × ByteArray × Int
def stE (s : Rto) (e : LE) : Pc := ⟨e.2.1, (s.k.get e.2.1).getD bE, e.2.2⟩
def stL (s : Rto) (es : List LE) : List Pc := (es.filter fun e => decide (0 < e.2.2)).map (stE s)
theorem stL_perm (s : Rto) {a b : List LE} (h : a.Perm b) : (stL s a).Perm (stL s b) := (h.filter _).map _
theorem stL_len (s : Rto) (es : List LE) : (stL s es).length ≤ es.length := by
  unfold stL; rw [List.length_map]; exact List.length_filter_le _ _
def keyC (a b : Pc) : Int := cmpS a.key b.key
/-- metres of a type -/
def sumP (kind : ByteArray) : List Pc → Int
  | [] => 0
  | e :: r => (if e.kind = kind then e.long else 0) + sumP kind r
theorem sumP_perm (kind : ByteArray) {l m : List Pc} (h : l.Perm m) : sumP kind l = sumP kind m := by
  induction h with
  | nil => rfl
  | cons x _ ih => simp only [sumP, ih]
  | swap x y l => simp only [sumP]; omega
  | trans _ _ h1 h2 => exact h1.trans h2
theorem sumP_in (kind : ByteArray) : ∀ (l : List Pc), (∀ e ∈ l, 0 ≤ e.long ∧ e.long ≤ 200000) → 0 ≤ sumP kind l ∧ sumP kind l ≤ 200000 * l.length
  | [], _ => by simp [sumP]
  | e :: r, h => by
    have ih := sumP_in kind r (fun e he => h e (by simp [he]))
    have := h e (by simp)
    simp only [sumP, List.length_cons]
    split <;> omega
theorem sumP_take (kind : ByteArray) (l : List Pc) (k : Nat) (h : k < l.length) : sumP kind (l.take (k + 1)) = sumP kind (l.take k) + (if l[k].kind = kind then l[k].long else 0) := by
  induction l generalizing k with
  | nil => simp at h
  | cons a r ih =>
    cases k with
    | zero => simp [sumP]
    | succ k => simp only [List.take_succ_cons, sumP, ih k (by simpa using h), List.getElem_cons_succ]; omega
def LongR (s : Rto) : Prop := (∀ e ∈ s.l.es, 0 ≤ e.2.2 ∧ e.2.2 ≤ 200000) ∧ s.l.es.length ≤ 12
def ofR (l : List Ac) (kind : ByteArray) (t : Int) : Int := sumP kind (stL (rtoAt l (cntAt l t)) (rtoAt l (cntAt l t)).l.es)
def minI (a b : Int) : Int := if b < a then b else a
/-- the least, by the document -/
def leastR (l : List Ac) (kind : ByteArray) (w : Wi) : Nat → Int
  | 0 => ofR l kind w.1
  | k + 1 => if w.1 < (l.getD k acD).mo ∧ (l.getD k acD).mo < w.2 then minI (leastR l kind w k) (ofR l kind (l.getD k acD).mo) else leastR l kind w k
end Go.Proofs.YteccacaonllceaaGreatDoor

/- Errors of acts and windows, by the document. -/
namespace Go.Proofs.YteccacaonllceaaGreatDoor
set_option linter.unusedVariables false
set_option linter.unusedSimpArgs false
open Abs
theorem cmpB_swap : ∀ a b : List UInt8, Lib.compareBytes a b = - Lib.compareBytes b a
  | [], [] => rfl
  | [], _ :: _ => rfl
  | _ :: _, [] => rfl
  | x :: xs, y :: ys => by
    have ih := cmpB_swap xs ys
    unfold Lib.compareBytes
    repeat' split
    all_goals first
      | rfl
      | exact ih
      | (exfalso; simp_all [UInt8.lt_iff_toNat_lt]; omega)
      | (exfalso; simp_all)
theorem cmpB_zero : ∀ a b : List UInt8, Lib.compareBytes a b = 0 ↔ a = b
  | [], [] => by simp [Lib.compareBytes]
  | [], _ :: _ => by simp [Lib.compareBytes]
  | _ :: _, [] => by simp [Lib.compareBytes]
  | x :: xs, y :: ys => by
    have ih := cmpB_zero xs ys
    unfold Lib.compareBytes
    split
    · rename_i h
      constructor
      · intro e; cases e
      · intro e; cases e; exact absurd h (UInt8.lt_irrefl x)
    · split
      · rename_i h
        constructor
        · intro e; cases e
        · intro e; cases e; exact absurd h (UInt8.lt_irrefl x)
      · rename_i h1 h2
        have hxy : x = y := by
          rw [UInt8.lt_iff_toNat_lt] at h1 h2
          exact UInt8.toNat_inj.1 (by omega)
        rw [ih, hxy]; simp
theorem cmpS_swap (a b : ByteArray) : cmpS a b = - cmpS b a := cmpB_swap ..
theorem cmpS_zero {a b : ByteArray} : cmpS a b = 0 ↔ a = b := by
  unfold cmpS
  rw [cmpB_zero]
  exact ⟨fun h => ByteArray.ext (Array.toList_inj.1 h), fun h => by rw [h]⟩
theorem cmpI_zero {a b : Int} : cmpI a b = 0 ↔ a = b := by unfold cmpI; repeat' split <;> omega
theorem sgn_sub {a b : Int} (ha : -1000000000000 ≤ a ∧ a ≤ 1000000000000) (hb : -1000000000000 ≤ b ∧ b ≤ 1000000000000) : sgn (IntKind.i64.wrap (a - b)) = cmpI a b := by
  rw [wrap_in (by omega) (by omega)]
  unfold sgn cmpI
  repeat' split
  all_goals omega
theorem actErr_in {x : Ac} (h : actErr x = 0) : 0 ≤ x.mo ∧ x.mo ≤ 345686399999 ∧ 1 ≤ x.kd ∧ x.kd ≤ 4 ∧ 0 ≤ x.long ∧ x.long ≤ 200000 ∧ (x.kd ≠ 4 → 1 ≤ x.long) ∧ keyB x.drum = true ∧ (x.kd = 1 → keyB x.ty = true) ∧ (x.kd = 3 → keyB x.of = true) := by
  unfold actErr at h
  split at h
  · cases h
  split at h
  · cases h
  split at h
  · cases h
  split at h
  · cases h
  split at h
  · cases h
  rename_i h1 h2 h3 h4 h5
  have h1 : momB x.mo = true := by simpa using h1
  have h1 := of_decide_eq_true h1
  simp only [Bool.or_eq_true, not_or, Bool.not_eq_true', Bool.not_eq_false, Bool.and_eq_true, beq_iff_eq, not_and] at h3
  refine ⟨h1.1, h1.2, by omega, by omega, by omega, by omega, by omega, h3.1.1, ?_, ?_⟩
  · intro e; simpa using h3.1.2 e
  · intro e; simpa using h3.2 e
/-- both orders are one -/
theorem ord_time {x y : Ac} (hx : actErr x = 0) (hy : actErr y = 0) : ordC y x = timeC y x ∧ timeC y x = - timeC x y := by
  have a := actErr_in hx
  have b := actErr_in hy
  have e1 := sgn_sub (a := y.mo) (b := x.mo) (by omega) (by omega)
  have e2 := sgn_sub (a := y.kd) (b := x.kd) (by omega) (by omega)
  have e3 := sgn_sub (a := y.long) (b := x.long) (by omega) (by omega)
  have w : ∀ p q : Int, cmpI p q = - cmpI q p := by intro p q; unfold cmpI; repeat' split <;> omega
  constructor
  · unfold ordC timeC
    rw [e1, e2, e3]
    simp only [firstErr, cmpI_zero, cmpS_zero]
    have hl : (if y.long = x.long then (0 : Int) else cmpI y.long x.long) = cmpI y.long x.long := by
      split
      · rename_i e; exact (cmpI_zero.2 e).symm
      · rfl
    rw [hl]
    by_cases h1 : y.mo = x.mo
    · rw [if_neg (fun h => h h1), if_pos h1]
      by_cases h2 : y.drum = x.drum
      · rw [if_neg (fun h => h h2), if_pos h2]
        by_cases h3 : y.kd = x.kd
        · rw [if_neg (fun h => h h3), if_pos h3]
          by_cases h4 : y.ty = x.ty
          · rw [if_neg (fun h => h h4), if_pos h4]
            by_cases h5 : y.of = x.of
            · rw [if_neg (fun h => h h5), if_pos h5]
            · rw [if_pos h5, if_neg h5]
          · rw [if_pos h4, if_neg h4]
        · rw [if_pos h3, if_neg h3]
      · rw [if_pos h2, if_neg h2]
    · rw [if_pos h1, if_neg h1]
  · have key : ∀ l : List Int, firstErr (l.map fun z => -z) = - firstErr l := by
      intro l
      induction l with
      | nil => rfl
      | cons a r ih =>
        simp only [List.map_cons, firstErr, ih, Int.neg_eq_zero]
        split <;> rfl
    unfold timeC
    rw [w y.mo x.mo, cmpS_swap y.drum x.drum, w y.kd x.kd, cmpS_swap y.ty x.ty, cmpS_swap y.of x.of, w y.long x.long]
    exact key [cmpI x.mo y.mo, cmpS x.drum y.drum, cmpI x.kd y.kd, cmpS x.ty y.ty, cmpS x.of y.of, cmpI x.long y.long]
end Go.Proofs.YteccacaonllceaaGreatDoor

/- Comparisons, one behind another; sorting by insertion keeps the order of equal ones. -/
namespace Go.Proofs.YteccacaonllceaaGreatDoor
set_option linter.unusedVariables false
set_option linter.unusedSimpArgs false
open Abs

/-- a comparison -/
structure Cmp {α : Type} (c : α → α → Int) : Prop where
  anti : ∀ a b, c b a = - c a b
  trans : ∀ a b d, c a b ≤ 0 → c b d ≤ 0 → c a d ≤ 0
theorem Cmp.lt {α : Type} {c : α → α → Int} (h : Cmp c) {a b d : α} (h1 : c a b ≤ 0) (h2 : c b d ≤ 0) (h3 : c a b < 0 ∨ c b d < 0) : c a d < 0 := by
  have h4 := h.trans a b d h1 h2
  rcases Int.lt_or_le (c a d) 0 with h5 | h5
  · exact h5
  · have a1 := h.anti a d
    have a2 := h.anti a b
    have a3 := h.anti b d
    rcases h3 with h3 | h3
    · have := h.trans b d a h2 (by omega); omega
    · have := h.trans d a b (by omega) h1; omega
theorem Cmp.swo {α : Type} {c : α → α → Int} (h : Cmp c) : SWOc c where
  irrefl x := by have := h.anti x x; omega
  trans x y z h1 h2 := h.lt (by omega) (by omega) (.inl h1)
  ntrans x y z h1 h2 := by
    have a1 := h.anti x y
    have a2 := h.anti y z
    have a3 := h.anti x z
    have := h.trans z y x (by omega) (by omega)
    omega
theorem Cmp.lex {α : Type} {c1 c2 : α → α → Int} (h1 : Cmp c1) (h2 : Cmp c2) : Cmp fun a b => if c1 a b = 0 then c2 a b else c1 a b where
  anti a b := by
    have a1 := h1.anti a b
    have a2 := h2.anti a b
    split <;> split <;> omega
  trans a b d g1 g2 := by
    have a1 := h1.anti a b
    have a2 := h1.anti b d
    have a3 := h1.anti a d
    by_cases e1 : c1 a b = 0
    · rw [if_pos e1] at g1
      by_cases e2 : c1 b d = 0
      · rw [if_pos e2] at g2
        have t1 := h1.trans a b d (by omega) (by omega)
        have t2 := h1.trans d b a (by omega) (by omega)
        rw [if_pos (by omega)]
        exact h2.trans a b d g1 g2
      · rw [if_neg e2] at g2
        have := h1.lt (a := a) (b := b) (d := d) (by omega) (by omega) (.inr (by omega))
        rw [if_neg (by omega)]; omega
    · rw [if_neg e1] at g1
      have t0 : c1 b d ≤ 0 := by
        by_cases e2 : c1 b d = 0
        · omega
        · rw [if_neg e2] at g2; exact g2
      have := h1.lt (a := a) (b := b) (d := d) (by omega) t0 (.inl (by omega))
      rw [if_neg (by omega)]; omega
theorem cmp_int {α : Type} (f : α → Int) : Cmp fun a b => cmpI (f a) (f b) where
  anti a b := by simp only [cmpI]; (repeat' split) <;> omega
  trans a b d := by simp only [cmpI]; (repeat' split) <;> omega
theorem cmp_str {α : Type} (f : α → ByteArray) : Cmp fun a b => cmpS (f a) (f b) where
  anti a b := cmpS_swap ..
  trans a b d h1 h2 := by
    have key : ∀ x y : ByteArray, cmpS x y ≤ 0 ↔ (ltB x y = true ∨ x = y) := fun x y => by rw [← cmp_lt, ← cmp_zero]; omega
    rw [key] at h1 h2 ⊢
    rcases h1 with h1 | h1
    · rcases h2 with h2 | h2
      · exact .inl (ltB_trans h1 h2)
      · rw [← h2]; exact .inl h1
    · rw [h1]; exact h2
theorem cmp_null {α : Type} : Cmp fun _ _ : α => 0 := ⟨fun _ _ => rfl, fun _ _ _ _ _ => Int.le_refl _⟩
theorem insDown_drop {α : Type} (c : α → α → Int) : ∀ (j : Nat) (q : List α), (insDown c 0 j q).drop (j + 1) = q.drop (j + 1)
  | 0, q => by rw [insDown]
  | j + 1, q => by
    by_cases hj : j + 1 < q.length
    · by_cases hlt : c q[j + 1] (q[j]'(by omega)) < 0
      · rw [insDown_step (by omega) hj hlt]
        have h1 := congrArg (List.drop 1) (insDown_drop c j ((q.set (j + 1) (q[j]'(by omega))).set j q[j + 1]))
        rw [List.drop_drop, List.drop_drop] at h1
        rw [h1, List.drop_set_of_lt (by omega), List.drop_set_of_lt (by omega)]
      · rw [insDown_stop hj hlt]
    · rw [List.drop_of_length_le (by rw [insDown_len]; omega), List.drop_of_length_le (by omega)]
theorem insTo_drop {α : Type} (c : α → α → Int) (l : List α) : ∀ m, (insTo c 0 m l).drop (m + 1) = l.drop (m + 1)
  | 0 => rfl
  | m + 1 => by
    have ih := insTo_drop c l m
    have h1 := congrArg (List.drop 1) ih
    rw [List.drop_drop, List.drop_drop] at h1
    rw [insTo, show 0 + 1 + m = m + 1 by omega, insDown_drop, h1]
theorem insDown_congr {α : Type} {c c' : α → α → Int} : ∀ (j : Nat) (q : List α) (hj : j < q.length), (∀ i (hi : i < j), c q[j] (q[i]'(by omega)) < 0 ↔ c' q[j] (q[i]'(by omega)) < 0) → insDown c 0 j q = insDown c' 0 j q
  | 0, q, _, _ => rfl
  | j + 1, q, hj, h => by
    by_cases hlt : c q[j + 1] (q[j]'(by omega)) < 0
    · have hlt' := (h j (by omega)).1 hlt
      rw [insDown_step (by omega) hj hlt, insDown_step (by omega) hj hlt']
      refine insDown_congr j _ (by simp; omega) ?_
      intro i hi
      have e1 : ((q.set (j + 1) (q[j]'(by omega))).set j q[j + 1])[j]'(by simp; omega) = q[j + 1] := by rw [List.getElem_set_self]
      have e2 : ((q.set (j + 1) (q[j]'(by omega))).set j q[j + 1])[i]'(by simp; omega) = q[i]'(by omega) := by
        rw [List.getElem_set_ne (by omega), List.getElem_set_ne (by omega)]
      rw [e1, e2]
      exact h i (by omega)
    · have hlt' : ¬ c' q[j + 1] (q[j]'(by omega)) < 0 := fun e => hlt ((h j (by omega)).2 e)
      rw [insDown_stop hj hlt, insDown_stop hj hlt']
theorem insTo_congr {α : Type} {c c' : α → α → Int} {l : List α} (h : ∀ i j (hi : i < j) (hj : j < l.length), c l[j] (l[i]'(by omega)) < 0 ↔ c' l[j] (l[i]'(by omega)) < 0) : ∀ m, m < l.length → insTo c 0 m l = insTo c' 0 m l
  | 0, _ => rfl
  | m + 1, hm => by
    have ih := insTo_congr h m (by omega)
    have hlen := insTo_len c 0 m l
    have hd := insTo_drop c l m
    have hp := insTo_perm c 0 m l
    rw [insTo, insTo, ← ih, show 0 + 1 + m = m + 1 by omega]
    generalize insTo c 0 m l = q at hlen hd hp ⊢
    have hq1 : q[m + 1]'(by omega) = l[m + 1] := getElem_of_drop hd (Nat.le_refl _) (by omega) (by omega)
    have htk : (q.take (m + 1)).Perm (l.take (m + 1)) := by
      have h1 : (q.take (m + 1) ++ q.drop (m + 1)).Perm (l.take (m + 1) ++ l.drop (m + 1)) := by rw [List.take_append_drop, List.take_append_drop]; exact hp
      rw [hd] at h1
      exact (List.perm_append_right_iff _).1 h1
    refine insDown_congr (m + 1) q (by omega) ?_
    intro i hi
    have hmem : q[i]'(by omega) ∈ l.take (m + 1) := by
      refine htk.mem_iff.1 ?_
      rw [← List.getElem_take (j := m + 1) (h := by simp; omega)]
      exact List.getElem_mem _
    obtain ⟨i', hi', he⟩ := List.getElem_of_mem hmem
    rw [List.length_take] at hi'
    rw [List.getElem_take] at he
    rw [hq1, ← he]
    exact h i' (m + 1) (by omega) hm
/-- a sort that is stable sorts what rises by one thing by another thing, and then by the first -/
theorem insSort_congr {α : Type} {c c' : α → α → Int} {l : List α} (h : ∀ i j (hi : i < j) (hj : j < l.length), c l[j] (l[i]'(by omega)) < 0 ↔ c' l[j] (l[i]'(by omega)) < 0) : insSort c l = insSort c' l := by
  unfold insSort
  cases hl : l with
  | nil => rfl
  | cons a r => rw [← hl]; exact insTo_congr h _ (by rw [hl]; simp)
end Go.Proofs.YteccacaonllceaaGreatDoor

/- Strings sorted (a few), and what numbers look like: Itoa by the kit's contract. -/
namespace Go.Proofs.YteccacaonllceaaGreatDoor
set_option linter.unusedVariables false
set_option linter.unusedSimpArgs false
open Abs

set_option maxRecDepth 100000 in
set_option maxHeartbeats 4000000 in
theorem isNaNO_pc (s : ByteArray) : PCp 87 [.c (.str s)] [] (.c (.bool false)) [] := by
  refine fn_sound (mt := mts) tab_fits tab_mixed Tryz.func87 (by rfl) (by kernel_rfl) (by kernel_rfl) Tryz.results87 (Nat.le_of_ble_eq_true (by kernel_rfl)) ?_
  conv => whnf
  exact finb (by simp)
set_option maxRecDepth 100000 in
set_option maxHeartbeats 4000000 in
theorem lessO_pc (a b : ByteArray) : PCp 63 [.c (.str a), .c (.str b)] [] (.c (.bool (ltB a b))) [] := by
  refine fn_sound (mt := mts) tab_fits tab_mixed Tryz.func63 (by rfl) (by kernel_rfl) (by kernel_rfl) Tryz.results63 (Nat.le_of_ble_eq_true (by kernel_rfl)) ?_
  conv => whnf
  repeat' (first
    | (refine Split.mk (fun h => ?_) (fun h => ?_) <;> (try simp only [decide_eq_true_eq, decide_eq_false_iff_not, Bool.not_eq_true', Bool.not_eq_false', beq_iff_eq, beq_eq_false_iff_ne, bne_iff_ne, bne_eq_false_iff_eq] at h) <;> (first | (exfalso; first | omega | exact h trivial) | (conv => whnf)))
    | (refine CondG.mk (fun h => ?_) (fun h => ?_) <;> (try simp only [decide_eq_true_eq, decide_eq_false_iff_not, Bool.not_eq_true', Bool.not_eq_false', beq_iff_eq, beq_eq_false_iff_ne, bne_iff_ne, bne_eq_false_iff_eq] at h) <;> (first | (exfalso; first | omega | exact h trivial) | (conv => whnf)))
    | (refine CallX.mk _ _ (by first | exact isNaNO_pc _) ?_; conv => whnf)
    | (refine CallG.mk _ _ (by first | exact isNaNO_pc _) ?_; conv => whnf)
    | (refine Ask.mk (by first | omega | (unfold roomOK; simp [cutRows]; done) | (unfold roomOK; simp [cutRows]; omega) | (simp [cutRows]; done) | (simp [cutRows]; omega)) ?_; conv => whnf)
    | (refine SliceG.fr ?_; conv => whnf)
    | (refine idx_at _ (by with_reducible rfl) (by first | assumption | omega) ?_; conv => whnf)
    | ((with_reducible refine row_map (by first | assumption | omega) ?_); conv => whnf)
    | ((with_reducible refine row_set (by first | assumption | omega | (simp only [List.length_set]; omega) | (simp; omega)) ?_); conv => whnf)
    | fail)
  all_goals exact finb (by simp_all [ltB])
set_option maxRecDepth 100000 in
set_option maxHeartbeats 4000000 in
theorem insS_pc (a b : Nat) (l : List ByteArray) (ha : a ≤ l.length) (hb : b ≤ l.length) (hl : l.length ≤ 1000000000) :
    PCp 98 [.c (.row 0), .c (.int .i64 a), .c (.int .i64 b)] [.row 9 1 (l.map encS)] (.tup []) [.row 9 1 ((insTo cmpS a (b - (a + 1)) l).map encS)] := by
  have hw : IntKind.i64.wrap ((a : Int) + 1) = ((a + 1 : Nat) : Int) := by rw [wrap_in (by omega) (by omega)]; rfl
  refine fn_sound (mt := mts) tab_fits tab_mixed Tryz.func98 (by rfl) (by kernel_rfl) (by kernel_rfl) Tryz.results98 (Nat.le_of_ble_eq_true (by kernel_rfl)) ?_
  conv => whnf
  rw [hw]
  refine loop_count (b - (a + 1)) [] [0, 1, 2, 6] (fun k (_ : Unit) => ⟨[(0, .c (.row 0)), (1, .c (.int .i64 a)), (2, .c (.int .i64 b)), (6, .c (.int .i64 ((a + 1 + k : Nat) : Int)))], [(0, .row 9 1 ((insTo cmpS a k l).map encS))], 1⟩) (fun k (_ : Unit) => True) (()) ?_ ?_ ?_
  · conv => whnf
    exact ⟨rfl, trivial⟩
  · intro k _ hk _
    have hlen := insTo_len cmpS a k l
    conv => whnf
    refine .mk (fun h => ?_) (fun h => ?_)
    rotate_left
    · simp at h; omega
    conv => whnf
    refine loop_meas2 (fun (j : Nat) (q : List ByteArray) => j) [] [0, 1, 2, 6, 7] (fun (j : Nat) (q : List ByteArray) => ⟨[(0, .c (.row 0)), (1, .c (.int .i64 a)), (2, .c (.int .i64 b)), (6, .c (.int .i64 ((a + 1 + k : Nat) : Int))), (7, .c (.int .i64 ((j : Nat) : Int)))], [(0, .row 9 1 (q.map encS))], 1⟩) (fun (j : Nat) (q : List ByteArray) => insDown cmpS a j q = insTo cmpS a (k + 1) l ∧ j < l.length ∧ q.length = l.length) (a + 1 + k) (insTo cmpS a k l) ?_ ?_
    · conv => whnf
      exact ⟨rfl, rfl, by omega, by omega⟩
    · intro j q ⟨h1, h2, h3⟩
      conv => whnf
      repeat' (first
        | (refine Split.mk (fun h => ?_) (fun h => ?_) <;> (try simp only [decide_eq_true_eq, decide_eq_false_iff_not, Bool.not_eq_true', Bool.not_eq_false', beq_iff_eq, beq_eq_false_iff_ne] at h) <;> (first | (exfalso; first | omega | exact h trivial) | (conv => whnf)))
        | (refine CondG.mk (fun h => ?_) (fun h => ?_) <;> (try simp only [decide_eq_true_eq, decide_eq_false_iff_not, Bool.not_eq_true', Bool.not_eq_false', beq_iff_eq, beq_eq_false_iff_ne] at h) <;> (first | (exfalso; first | omega | exact h trivial) | (conv => whnf)))
        | (refine Ask.mk (by first | omega | (unfold roomOK; simp [cutRows]; done) | (unfold roomOK; simp [cutRows]; omega)) ?_; conv => whnf)
        | (refine SliceG.fr ?_; conv => whnf)
        | fail)
      · -- one more to the left?
        obtain ⟨i, rfl⟩ : ∃ i, j = i + 1 := ⟨j - 1, by omega⟩
        have hw2 : IntKind.i64.wrap (((i + 1 : Nat) : Int) - 1) = ((i : Nat) : Int) := by rw [wrap_in (by omega) (by omega)]; omega
        refine .mk (by rw [List.length_map]; omega) ?_
        conv => whnf
        refine row_at (i + 1) toN (by omega) ?_
        conv => whnf
        rw [hw2]
        refine .mk (by rw [List.length_map]; omega) ?_
        conv => whnf
        refine row_at i toN (by omega) ?_
        conv => whnf
        repeat' (first
          | (refine Split.mk (fun h => ?_) (fun h => ?_) <;> (try simp only [decide_eq_true_eq, decide_eq_false_iff_not, Bool.not_eq_true', Bool.not_eq_false', beq_iff_eq, beq_eq_false_iff_ne, bne_iff_ne, bne_eq_false_iff_eq] at h) <;> (first | (exfalso; first | omega | exact h trivial) | (conv => whnf)))
          | (refine CondG.mk (fun h => ?_) (fun h => ?_) <;> (try simp only [decide_eq_true_eq, decide_eq_false_iff_not, Bool.not_eq_true', Bool.not_eq_false', beq_iff_eq, beq_eq_false_iff_ne, bne_iff_ne, bne_eq_false_iff_eq] at h) <;> (first | (exfalso; first | omega | exact h trivial) | (conv => whnf)))
          | (refine CallX.mk _ _ (by first | exact lessO_pc _ _) ?_; conv => whnf)
          | (refine CallG.mk _ _ (by first | exact lessO_pc _ _) ?_; conv => whnf)
          | (refine Ask.mk (by first | omega | (unfold roomOK; simp [cutRows]; done) | (unfold roomOK; simp [cutRows]; omega) | (simp [cutRows]; done) | (simp [cutRows]; omega)) ?_; conv => whnf)
          | (refine SliceG.fr ?_; conv => whnf)
          | (refine idx_at _ (by with_reducible rfl) (by first | assumption | omega) ?_; conv => whnf)
          | ((with_reducible refine row_map (by first | assumption | omega) ?_); conv => whnf)
          | ((with_reducible refine row_set (by first | assumption | omega | (simp only [List.length_set]; omega) | (simp; omega)) ?_); conv => whnf)
          | fail)
        · rw [insDown_step (by omega) (by omega) (cmp_lt.2 h)] at h1
          repeat' (first
            | (refine Split.mk (fun h => ?_) (fun h => ?_) <;> (try simp only [decide_eq_true_eq, decide_eq_false_iff_not, Bool.not_eq_true', Bool.not_eq_false', beq_iff_eq, beq_eq_false_iff_ne] at h) <;> (first | (exfalso; first | omega | exact h trivial) | (conv => whnf)))
            | (refine CondG.mk (fun h => ?_) (fun h => ?_) <;> (try simp only [decide_eq_true_eq, decide_eq_false_iff_not, Bool.not_eq_true', Bool.not_eq_false', beq_iff_eq, beq_eq_false_iff_ne] at h) <;> (first | (exfalso; first | omega | exact h trivial) | (conv => whnf)))
            | (refine Ask.mk (by first | omega | (unfold roomOK; simp [cutRows]; done) | (unfold roomOK; simp [cutRows]; omega)) ?_; conv => whnf)
            | (refine SliceG.fr ?_; conv => whnf)
            | fail)
          rw [hw2]
          refine .mk (by rw [List.length_map]; omega) ?_
          conv => whnf
          refine row_at i toN (by omega) ?_
          conv => whnf
          refine .mk (by rw [List.length_map]; omega) ?_
          conv => whnf
          refine row_at (i + 1) toN (by omega) ?_
          conv => whnf
          refine .mk (by rw [List.length_map]; omega) ?_
          conv => whnf
          refine row_at (i + 1) toN (by omega) ?_
          conv => whnf
          refine .mk (by rw [List.length_set, List.length_map]; omega) ?_
          conv => whnf
          refine .mk (encS (q[i]'(by omega))) (by rw [toN, toN, List.getElem?_set_ne (by omega)]; simp [show i < q.length by omega]) ?_
          conv => whnf
          refine meas_next (i, (q.set (i + 1) (q[i]'(by omega))).set i (q[i + 1]'(by omega))) (by simp only; omega) (by rw [toN, toN, hw2]; simp only [List.map_set]; rfl) ⟨h1, by simp only; omega, by simp [h3]⟩
        · rw [insDown_stop (by omega) (fun e => by rw [cmp_lt.1 e] at h; cases h)] at h1
          conv => whnf
          refine count_next () hk (by rw [h1, show IntKind.i64.wrap (((a + 1 + k : Nat) : Int) + 1) = ((a + 1 + (k + 1) : Nat) : Int) by rw [wrap_in (by omega) (by omega)]; omega]; rfl) trivial
      · rw [insDown_low (by omega)] at h1
        refine count_next () hk (by rw [h1, show IntKind.i64.wrap (((a + 1 + k : Nat) : Int) + 1) = ((a + 1 + (k + 1) : Nat) : Int) by rw [wrap_in (by omega) (by omega)]; omega]; rfl) trivial
  · intro _ _
    have hlen := insTo_len cmpS a (b - (a + 1)) l
    conv => whnf
    repeat' (first
      | (refine Split.mk (fun h => ?_) (fun h => ?_) <;> (try simp only [decide_eq_true_eq, decide_eq_false_iff_not, Bool.not_eq_true', Bool.not_eq_false', beq_iff_eq, beq_eq_false_iff_ne] at h) <;> (first | (exfalso; first | omega | exact h trivial) | (conv => whnf)))
      | (refine CondG.mk (fun h => ?_) (fun h => ?_) <;> (try simp only [decide_eq_true_eq, decide_eq_false_iff_not, Bool.not_eq_true', Bool.not_eq_false', beq_iff_eq, beq_eq_false_iff_ne] at h) <;> (first | (exfalso; first | omega | exact h trivial) | (conv => whnf)))
      | (refine Ask.mk (by first | omega | (unfold roomOK; simp [cutRows]; done) | (unfold roomOK; simp [cutRows]; omega)) ?_; conv => whnf)
      | (refine SliceG.fr ?_; conv => whnf)
      | fail)
    exact .mk ⟨rfl, rfl⟩

set_option maxRecDepth 100000 in
set_option maxHeartbeats 4000000 in
theorem sortS_pc (l : List ByteArray) (hl : l.length ≤ 12) : PCp 58 [.c (.row 0)] [.row 9 1 (l.map encS)] (.tup []) [.row 9 1 ((insSort cmpS l).map encS)] := by
  have hlm : (l.map encS).length = l.length := List.length_map ..
  have hst : ∀ lim : Int, PCp 79 [.c (.row 0), .c (.int .i64 0), .c (.int .i64 l.length), .c (.int .i64 lim)] [.row 9 1 (l.map encS)] (.tup []) [.row 9 1 ((insSort cmpS l).map encS)] := by
    intro lim
    have hw : IntKind.i64.wrap ((l.length : Int) - 0) = l.length := by rw [wrap_in (by omega) (by omega)]; omega
    refine fn_sound (mt := mts) tab_fits tab_mixed Tryz.func79 (by rfl) (by kernel_rfl) (by kernel_rfl) Tryz.results79 (Nat.le_of_ble_eq_true (by kernel_rfl)) ?_
    conv => whnf
    refine .un 1 ?_
    conv => whnf
    rw [hw]
    repeat' (first
      | (refine Split.mk (fun h => ?_) (fun h => ?_) <;> (try simp only [decide_eq_true_eq, decide_eq_false_iff_not, Bool.not_eq_true', Bool.not_eq_false', beq_iff_eq, beq_eq_false_iff_ne] at h) <;> (first | (exfalso; first | omega | exact h trivial) | (conv => whnf)))
      | (refine CondG.mk (fun h => ?_) (fun h => ?_) <;> (try simp only [decide_eq_true_eq, decide_eq_false_iff_not, Bool.not_eq_true', Bool.not_eq_false', beq_iff_eq, beq_eq_false_iff_ne] at h) <;> (first | (exfalso; first | omega | exact h trivial) | (conv => whnf)))
      | (refine Ask.mk (by first | omega | (unfold roomOK; simp [cutRows]; done) | (unfold roomOK; simp [cutRows]; omega)) ?_; conv => whnf)
      | (refine SliceG.fr ?_; conv => whnf)
      | fail)
    refine .mk _ _ (insS_pc 0 l.length l (Nat.zero_le _) (Nat.le_refl _) (by omega)) ?_
    conv => whnf
    exact .mk ⟨rfl, rfl⟩
  refine fn_sound (mt := mts) tab_fits tab_mixed Tryz.func58 (by rfl) (by kernel_rfl) (by kernel_rfl) Tryz.results58 (Nat.le_of_ble_eq_true (by kernel_rfl)) ?_
  conv => whnf
  rw [hlm, wrapU64 l.length (by omega)]
  obtain ⟨lim, hlim⟩ := bLen_ex l.length (by omega)
  repeat' (first
    | (refine Split.mk (fun h => ?_) (fun h => ?_) <;> (try simp only [decide_eq_true_eq, decide_eq_false_iff_not, Bool.not_eq_true', Bool.not_eq_false', beq_iff_eq, beq_eq_false_iff_ne] at h) <;> (first | (exfalso; first | omega | exact h trivial) | (conv => whnf)))
    | (refine CondG.mk (fun h => ?_) (fun h => ?_) <;> (try simp only [decide_eq_true_eq, decide_eq_false_iff_not, Bool.not_eq_true', Bool.not_eq_false', beq_iff_eq, beq_eq_false_iff_ne] at h) <;> (first | (exfalso; first | omega | exact h trivial) | (conv => whnf)))
    | (refine CallX.mk _ _ (by first | exact hlim | exact hst _) ?_; conv => whnf)
    | (refine CallG.mk _ _ (by first | exact hlim | exact hst _) ?_; conv => whnf)
    | (refine Ask.mk (by first | omega | (unfold roomOK; simp [cutRows]; done) | (unfold roomOK; simp [cutRows]; omega)) ?_; conv => whnf)
    | (refine SliceG.fr ?_; conv => whnf)
    | fail)
  exact .mk ⟨rfl, rfl⟩
/-! what a function of the library gives that makes new memory of its own -/
theorem Nx.grown {F : Nat → Prop} {φ : Nat → Option Value} {w : World} {N : Nat → Prop} {h : Nat → Option Ob} (k : Nat) (os : Array Obj) : Nx F φ w h N [] F φ (Sort.grow (w.drewN k) os) where
  hF _ h := h
  hφ _ _ h := h
  nφ _ _ h := .inl h
  os := rfl
  tape := rfl
  output := rfl
  drawn := Nat.le_add_right _ _
  size := by simp [Sort.grow, World.drewN]
  keep b hb hne := (hne (by simp only [Sort.grow, World.drewN]; rw [Array.getElem?_append_left hb])).elim
  nF b h := .inl h
  objs l o h := by simp [chGet] at h
  own l o b h := by simp [chGet] at h
  inj l l' o o' b h := by simp [chGet] at h
theorem PCs.of_laid {P : Program} {f : Nat} {args : List S} {r : S} {cargs : Array Value} {c : Value} (hfn : ∃ fn, P.funcs[f]? = some fn ∧ (fn.name == "runtime.NumGoroutine") = false ∧ fn.body.isNone = false)
    (ha : ∀ (F : Nat → Prop) (φ : Nat → Option Value) (w : World) (cs : Array Value), P2 (RS F φ w) cs.toList args → cs = cargs) (hr : ∀ (F : Nat → Prop) (φ : Nat → Option Value) (w : World), RS F φ w c r) {g : Nat × Array Value} (hg : g ∈ globs)
    (h : ∀ w, (∃ t f, w.heap[g.1]? = some (.cells g.2 t f)) → Calls P f cargs w fun e w' => e = .returned c ∧ ∃ k os, w' = Sort.grow (w.drewN k) os) : PCs P f args [] r [] := by
  refine ⟨hfn, fun F φ w cs hp hrp hφ => ?_⟩
  have := ha F φ w cs hp
  subst this
  refine (h w (hrp.tb g hg).2).mono ?_
  rintro e w' ⟨rfl, k, os, rfl⟩
  exact ⟨c, F, φ, r, [], ⟨rfl, rfl⟩, rfl, hr F φ _, Nx.grown k os⟩
def itoaB (n : Int) : ByteArray := ⟨(Lib.itoa n).toArray⟩
theorem itoa_pc (n : Int) (h0 : -9223372036854775808 ≤ n) (h1 : n ≤ 9223372036854775807) : PCp 32 [.c (.int .i64 n)] [] (.c (.str (itoaB n))) [] :=
  PCs.of_laid ⟨_, Tryz.func32, by kernel_rfl, by kernel_rfl⟩ (cargs := #[.int .i64 n]) (fun F φ w cs hp => by
    obtain ⟨x, xs, e1, r1, hp⟩ := hp.cons_inv
    have := hp.nil_inv
    subst this
    apply Array.ext'
    rw [e1, r1.int_inv]) (fun F φ w => .c (.tree (.str _))) (g := (1, (Lib.pow10Tab.map fun z => Value.int .u64 z).toArray)) (by simp [globs])
    (fun w ⟨t, fm, hc⟩ => Any.strconv_Itoa layItoa n h0 h1 w (by
      unfold Lib.TabIs World.var?
      rw [show (Tryz.prog).globalNamed "internal/strconv.uint64pow10" = some 1 from by kernel_rfl]
      simp only [Option.bind_some]
      rw [hc]))
end Go.Proofs.YteccacaonllceaaGreatDoor

/- What each element affects by itself: the plain part, and sorts. -/
namespace Go.Proofs.YteccacaonllceaaGreatDoor
set_option linter.unusedVariables false
set_option linter.unusedSimpArgs false
open Abs

/-! elements and customers, one behind another -/
def prsOf (s : List Sv) : List (ByteArray × Int) := s.flatMap fun x => x.els.map fun e => (e, x.cust)
def wOf (l : List (ByteArray × Int)) (e : ByteArray) : Int := ((l.filter fun p => decide (p.1 = e)).map (·.2)).sum
def mnM (l : List (ByteArray × Int)) : MN := l.foldl (fun m p => m.put p.1 (IntKind.i64.wrap ((m.get p.1).getD 0 + p.2))) SM.nil
def nmS (l : List (ByteArray × Int)) : List ByteArray := l.foldl (fun n p => if p.1 ∈ n then n else n ++ [p.1]) []
theorem mnM_app (l : List (ByteArray × Int)) (p : ByteArray × Int) : mnM (l ++ [p]) = (mnM l).put p.1 (IntKind.i64.wrap (((mnM l).get p.1).getD 0 + p.2)) := by
  unfold mnM; rw [List.foldl_append]; rfl
theorem nmS_app (l : List (ByteArray × Int)) (p : ByteArray × Int) : nmS (l ++ [p]) = if p.1 ∈ nmS l then nmS l else nmS l ++ [p.1] := by
  unfold nmS; rw [List.foldl_append]; rfl
theorem wOf_app (l : List (ByteArray × Int)) (p : ByteArray × Int) (e : ByteArray) : wOf (l ++ [p]) e = wOf l e + if p.1 = e then p.2 else 0 := by
  unfold wOf
  rw [List.filter_append, List.map_append, List.sum_append, List.filter_cons, List.filter_nil]
  by_cases h : p.1 = e <;> simp [h]
def PrOk (l : List (ByteArray × Int)) : Prop := ∀ p ∈ l, 1 ≤ p.2 ∧ p.2 ≤ 100000
theorem wOf_in {l : List (ByteArray × Int)} (h : PrOk l) (e : ByteArray) : 0 ≤ wOf l e ∧ wOf l e ≤ 100000 * l.length := by
  have h1 := sum_in (f := fun p : ByteArray × Int => p.2) (B := 100000) (l := l.filter fun p => decide (p.1 = e)) (fun p hp => by have := h p (List.mem_filter.1 hp).1; omega)
  have h2 := List.length_filter_le (fun p : ByteArray × Int => decide (p.1 = e)) l
  unfold wOf; omega
theorem rev_ind {α : Type} {P : List α → Prop} (h0 : P []) (h1 : ∀ l x, P l → P (l ++ [x])) : ∀ l, P l := by
  intro l
  have : ∀ n, ∀ l : List α, l.length = n → P l := by
    intro n
    induction n with
    | zero => intro l hl; rw [List.length_eq_zero_iff.1 hl]; exact h0
    | succ n ih =>
      intro l hl
      have hne : l ≠ [] := by intro e; subst e; simp at hl
      rw [← List.dropLast_concat_getLast hne]
      exact h1 _ _ (ih _ (by rw [List.length_dropLast]; omega))
  exact this _ l rfl
theorem mnM_get (e : ByteArray) : ∀ l : List (ByteArray × Int), PrOk l → l.length ≤ 1000000 → ((mnM l).get e).getD 0 = wOf l e := by
  refine rev_ind (P := fun l => PrOk l → l.length ≤ 1000000 → ((mnM l).get e).getD 0 = wOf l e) (fun _ _ => rfl) ?_
  intro l p ih h hl
  have hl' : PrOk l := fun q hq => h q (by simp [hq])
  simp only [List.length_append, List.length_cons, List.length_nil] at hl
  have h1 := ih hl' (by omega)
  have h2 := wOf_in hl' e
  have h3 := h p (by simp)
  rw [mnM_app, SM.get_put, wOf_app]
  by_cases e1 : p.1 = e
  · rw [if_pos e1, if_pos e1, e1, h1, wrap_in (by omega) (by omega)]; rfl
  · rw [if_neg e1, if_neg e1, h1]; omega
theorem nmS_mem (e : ByteArray) : ∀ l : List (ByteArray × Int), e ∈ nmS l ↔ ∃ p ∈ l, p.1 = e := by
  refine rev_ind (by simp [nmS]) ?_
  intro l p ih
  rw [nmS_app]
  by_cases h : p.1 ∈ nmS l
  · rw [if_pos h, ih]
    constructor
    · rintro ⟨q, hq, rfl⟩; exact ⟨q, by simp [hq], rfl⟩
    · rintro ⟨q, hq, rfl⟩
      rcases List.mem_append.1 hq with hq | hq
      · exact ⟨q, hq, rfl⟩
      · simp at hq; subst hq; exact (ih).1 h
  · rw [if_neg h, List.mem_append, ih]
    constructor
    · rintro (⟨q, hq, rfl⟩ | hq)
      · exact ⟨q, by simp [hq], rfl⟩
      · simp at hq; exact ⟨p, by simp, hq.symm⟩
    · rintro ⟨q, hq, rfl⟩
      rcases List.mem_append.1 hq with hq | hq
      · exact .inl ⟨q, hq, rfl⟩
      · simp at hq; subst hq; right; simp
theorem nmS_nd : ∀ l : List (ByteArray × Int), (nmS l).Nodup := by
  refine rev_ind (by simp [nmS]) ?_
  intro l p ih
  rw [nmS_app]
  by_cases h : p.1 ∈ nmS l
  · rw [if_pos h]; exact ih
  · rw [if_neg h, List.nodup_append]
    refine ⟨ih, by simp, ?_⟩
    intro a ha b hb
    simp at hb; subst hb
    intro e; subst e; exact h ha
theorem wOf_pos (e : ByteArray) : ∀ l : List (ByteArray × Int), PrOk l → (wOf l e = 0 ↔ ¬ e ∈ nmS l) := by
  refine rev_ind (P := fun l => PrOk l → (wOf l e = 0 ↔ ¬ e ∈ nmS l)) (fun _ => by simp [wOf, nmS]) ?_
  intro l p ih h
  have hl' : PrOk l := fun q hq => h q (by simp [hq])
  have h1 := ih hl'
  have h2 := wOf_in hl' e
  have h3 := h p (by simp)
  rw [wOf_app, nmS_app]
  by_cases e1 : p.1 = e
  · rw [if_pos e1]
    constructor
    · intro h4; omega
    · intro h4
      exfalso; apply h4
      rw [e1]; split
      · assumption
      · simp
  · rw [if_neg e1, Int.add_zero, h1]
    split
    · exact Iff.rfl
    · rw [List.mem_append]; simp [show ¬ e = p.1 from fun x => e1 x.symm]
theorem wOf_aff {e : ByteArray} : ∀ {s : List Sv}, (∀ x ∈ s, x.els.Nodup) → wOf (prsOf s) e = affN s [e]
  | [], _ => by simp [prsOf, wOf, affN, affL, custN]
  | x :: r, h => by
    have ih := wOf_aff (e := e) (s := r) (fun y hy => h y (by simp [hy]))
    have hn := h x (by simp)
    have h1 : prsOf (x :: r) = (x.els.map fun k => (k, x.cust)) ++ prsOf r := rfl
    have h2 : wOf ((x.els.map fun k => (k, x.cust)) ++ prsOf r) e = wOf (x.els.map fun k => (k, x.cust)) e + wOf (prsOf r) e := by
      unfold wOf; rw [List.filter_append, List.map_append, List.sum_append]
    have h3 : wOf (x.els.map fun k => (k, x.cust)) e = if e ∈ x.els then x.cust else 0 := by
      have : ∀ l : List ByteArray, l.Nodup → wOf (l.map fun k => (k, x.cust)) e = if e ∈ l then x.cust else 0 := by
        intro l
        induction l with
        | nil => intro _; simp [wOf]
        | cons a t ih =>
          intro hl
          obtain ⟨q1, q2⟩ := List.nodup_cons.1 hl
          have q3 := ih q2
          unfold wOf at q3 ⊢
          rw [List.map_cons, List.filter_cons]
          by_cases q4 : a = e
          · subst q4
            rw [if_neg q1] at q3
            simp [q3]
          · have q5 : ¬ e = a := fun x => q4 x.symm
            simp [q4, q5, q3]
      exact this _ hn
    have h4 : affP [e] x = decide (e ∈ x.els) := by
      rw [← affP_comm]; simp
    rw [h1, h2, h3, ih]
    unfold affN affL custN
    rw [List.filter_cons, h4]
    by_cases h5 : e ∈ x.els <;> simp [h5]
/-! how they are ordered -/
def sgC (w : ByteArray → Int) (a b : ByteArray) : Int := firstErr [cmpI (w b) (w a), cmpS a b]
theorem sgC_cmp (w : ByteArray → Int) : Cmp (sgC w) := by
  have h := (cmp_int (fun a : ByteArray => - w a)).lex (cmp_str (fun a : ByteArray => a))
  have e : sgC w = fun a b => if cmpI (- w a) (- w b) = 0 then cmpS a b else cmpI (- w a) (- w b) := by
    funext a b
    have h1 : cmpI (w b) (w a) = cmpI (- w a) (- w b) := by unfold cmpI; (repeat' split) <;> omega
    unfold sgC firstErr firstErr firstErr
    rw [h1]
    split
    · split <;> simp_all
    · rfl
  rw [e]; exact h
theorem sgC_zero {w : ByteArray → Int} {a b : ByteArray} (h : sgC w a b = 0) : a = b := by
  unfold sgC firstErr firstErr firstErr at h
  split at h
  · split at h
    · rename_i h2; exact cmp_zero.1 h2
    · exact cmp_zero.1 h
  · omega
theorem sgC_one {w : ByteArray → Int} {a b : List ByteArray} (hp : a.Perm b) (h1 : a.Pairwise fun x y => ¬ sgC w y x < 0) (h2 : b.Pairwise fun x y => ¬ sgC w y x < 0) : a = b := by
  refine sorted_one (c := sgC w) (sgC_cmp w).swo ?_ hp h1 h2
  intro x y q1 q2
  have := (sgC_cmp w).anti x y
  exact sgC_zero (w := w) (by omega)
/-- the elements in the order of their weights -/
def sgV (s : List Sv) : List ByteArray := insSort (sgC fun e => affN s [e]) (nmS (prsOf s))
def prV (s : List Sv) : List (ByteArray × ByteArray) := (sgV s).map fun e => (e, itoaB (affN s [e]))
def encPs (x : ByteArray × ByteArray) : List V := [.str x.1, .str x.2]
def elsAll (s : List Sv) (p : ByteArray → Bool) : List ByteArray := (s.filter fun x => p x.key).flatMap Sv.els
def elsV (s : List Sv) (p : ByteArray → Bool) : List ByteArray := cpt (insSort cmpS (elsAll s p))
end Go.Proofs.YteccacaonllceaaGreatDoor

/- What each element affects by itself: walked. -/
namespace Go.Proofs.YteccacaonllceaaGreatDoor
set_option linter.unusedVariables false
set_option linter.unusedSimpArgs false
open Abs

theorem cptA_rise : ∀ (l : List ByteArray) (d : ByteArray), (d :: l).Pairwise (fun x y => ¬ cmpS y x < 0) → Rise id (d :: cptA d l) ∧ ∀ x, x ∈ d :: cptA d l ↔ x ∈ d :: l
  | [], d, _ => by simp [cptA, Rise]
  | a :: r, d, h => by
    obtain ⟨h1, h2⟩ := List.pairwise_cons.1 h
    obtain ⟨h3, h4⟩ := List.pairwise_cons.1 h2
    by_cases e : a = d
    · subst e
      have ih := cptA_rise r a h2
      rw [cptA, if_pos rfl]
      refine ⟨ih.1, fun x => ?_⟩
      rw [ih.2 x]; simp
    · have ih := cptA_rise r a h2
      rw [cptA, if_neg e]
      have hlt : ltB d a = true := by
        have := h1 a (by simp)
        rw [cmp_lt] at this
        rcases ltB_tri d a with q | q | q
        · exact q
        · exact absurd q.symm e
        · exact absurd q this
      refine ⟨List.pairwise_cons.2 ⟨fun y hy => ?_, ih.1⟩, fun x => ?_⟩
      · rcases List.mem_cons.1 hy with rfl | hy
        · exact hlt
        · exact ltB_trans hlt ((List.pairwise_cons.1 ih.1).1 y hy)
      · have := ih.2 x
        rw [List.mem_cons, this]; simp
theorem cpt_rise {l : List ByteArray} (h : l.Pairwise fun x y => ¬ cmpS y x < 0) : Rise id (cpt l) ∧ ∀ x, x ∈ cpt l ↔ x ∈ l := by
  cases l with
  | nil => simp [cpt, Rise]
  | cons a r => exact cptA_rise r a h
theorem elsV_rise (s : List Sv) (p : ByteArray → Bool) : Rise id (elsV s p) := (cpt_rise (insSort_srt (swo_key id) _)).1
theorem elsV_mem (s : List Sv) (p : ByteArray → Bool) (x : ByteArray) : x ∈ elsV s p ↔ x ∈ elsAll s p := by
  unfold elsV
  rw [(cpt_rise (l := insSort cmpS (elsAll s p)) (insSort_srt (swo_key id) _)).2, (insSort_perm ..).mem_iff]
theorem elsAll_succ (s : List Sv) (p : ByteArray → Bool) {k : Nat} (h : k < s.length) : elsAll (s.take (k + 1)) p = elsAll (s.take k) p ++ (if p s[k].key then s[k].els else []) := by
  unfold elsAll; rw [List.take_succ_eq_append_getElem h, List.filter_append, List.flatMap_append, List.filter_cons, List.filter_nil]
  split <;> simp
theorem elsAll_len {p : ByteArray → Bool} : ∀ {s : List Sv}, (∀ x ∈ s, x.els.length ≤ 1000) → (elsAll s p).length ≤ 1000 * s.length
  | [], _ => by simp [elsAll]
  | x :: r, h => by
    have ih := elsAll_len (p := p) (s := r) (fun y hy => h y (by simp [hy]))
    have h1 := h x (by simp)
    unfold elsAll at ih ⊢
    rw [List.filter_cons]
    split
    · rw [List.flatMap_cons, List.length_append]; simp only [List.length_cons]; omega
    · simp only [List.length_cons]; omega
set_option maxRecDepth 100000 in
set_option maxHeartbeats 4000000 in
theorem rEls_pc (g : Nat) (p : ByteArray → Bool) (hg : ∀ k : ByteArray, PCp g [.c (.str k)] [] (.c (.bool (p k))) []) (s : List Sv) (hl : s.length ≤ 1000) (hx : ∀ x ∈ s, x.els.length ≤ 1000) :
    PCp 37 [.c (.lst 3 (s.map encSv)), .c (.fn g [])] [] (.c (.row 0)) [.row 9 1 ((elsV s p).map encS)] := by
  have hsm : (s.map encSv).length = s.length := List.length_map ..
  refine fn_sound (mt := mts) tab_fits tab_mixed Tryz.func37 (by rfl) (by kernel_rfl) (by kernel_rfl) Tryz.results37 (Nat.le_of_ble_eq_true (by kernel_rfl)) ?_
  conv => whnf
  refine loop_for (s.length) [.sl 5 9 1] [1, 5, 8, 9, 10] (fun k (_ : Unit) => [(10, .c (.int .i64 (k : Int)))]) (fun k (_ : Unit) => [(0, .row 9 1 ((elsAll (s.take k) p).map encS))]) (fun k (_ : Unit) => True) (()) ?_
  conv => whnf
  refine ⟨(by first | rfl | (simp; done) | (simp; rfl)), (by trivial), ?_, ?_⟩
  · intro k _ hk _
    have h1 := hx _ (List.getElem_mem hk)
    have htl : (s.take k).length = k := by rw [List.length_take]; omega
    have h2 := elsAll_len (p := p) (s := s.take k) (fun x hm => hx x (List.mem_of_mem_take hm))
    have h3 : ((elsAll (s.take k) p).map encS).length = (elsAll (s.take k) p).length := List.length_map ..
    have h4 : (s[k].els.map encS).length = s[k].els.length := List.length_map ..
    conv => whnf
    repeat' (first
      | (refine Split.mk (fun h => ?_) (fun h => ?_) <;> (try simp only [decide_eq_true_eq, decide_eq_false_iff_not, Bool.not_eq_true', Bool.not_eq_false', beq_iff_eq, beq_eq_false_iff_ne, bne_iff_ne, bne_eq_false_iff_eq] at h) <;> (first | (exfalso; first | omega | exact h trivial) | (conv => whnf)))
      | (refine CondG.mk (fun h => ?_) (fun h => ?_) <;> (try simp only [decide_eq_true_eq, decide_eq_false_iff_not, Bool.not_eq_true', Bool.not_eq_false', beq_iff_eq, beq_eq_false_iff_ne, bne_iff_ne, bne_eq_false_iff_eq] at h) <;> (first | (exfalso; first | omega | exact h trivial) | (conv => whnf)))
      | (refine CallX.mk _ _ (by first | exact hg _) ?_; conv => whnf)
      | (refine CallG.mk _ _ (by first | exact hg _) ?_; conv => whnf)
      | (refine Ask.mk (by first | omega | (unfold roomOK; simp [cutRows]; done) | (unfold roomOK; simp [cutRows]; omega) | (simp [cutRows]; done) | (simp [cutRows]; omega)) ?_; conv => whnf)
      | (refine SliceG.fr ?_; conv => whnf)
      | (refine idx_at _ (by with_reducible rfl) (by first | assumption | omega) ?_; conv => whnf)
      | ((with_reducible refine row_map (by first | assumption | omega) ?_); conv => whnf)
      | ((with_reducible refine row_set (by first | assumption | omega | (simp only [List.length_set]; omega) | (simp; omega)) ?_); conv => whnf)
      | fail)
    all_goals rename_i h
    · exact count_next () hk (by rw [wrap_succ hk (by omega), elsAll_succ s p hk, if_pos h, List.map_append]; rfl) trivial
    · exact count_next () hk (by rw [wrap_succ hk (by omega), elsAll_succ s p hk, if_neg (by rw [h]; decide), List.append_nil]; rfl) trivial
  · intro _ _
    rw [List.take_length]
    have h2 := elsAll_len (p := p) hx
    have h3 := insSort_len cmpS (elsAll s p)
    conv => whnf
    repeat' (first
      | (refine Split.mk (fun h => ?_) (fun h => ?_) <;> (try simp only [decide_eq_true_eq, decide_eq_false_iff_not, Bool.not_eq_true', Bool.not_eq_false', beq_iff_eq, beq_eq_false_iff_ne, bne_iff_ne, bne_eq_false_iff_eq] at h) <;> (first | (exfalso; first | omega | exact h trivial) | (conv => whnf)))
      | (refine CondG.mk (fun h => ?_) (fun h => ?_) <;> (try simp only [decide_eq_true_eq, decide_eq_false_iff_not, Bool.not_eq_true', Bool.not_eq_false', beq_iff_eq, beq_eq_false_iff_ne, bne_iff_ne, bne_eq_false_iff_eq] at h) <;> (first | (exfalso; first | omega | exact h trivial) | (conv => whnf)))
      | (refine CallX.mk _ _ (by first | exact sortG_pc (elsAll s p) (by omega) | exact cptS_pc (insSort cmpS (elsAll s p)) (by omega)) ?_; conv => whnf)
      | (refine CallG.mk _ _ (by first | exact sortG_pc (elsAll s p) (by omega) | exact cptS_pc (insSort cmpS (elsAll s p)) (by omega)) ?_; conv => whnf)
      | (refine Ask.mk (by first | omega | (unfold roomOK; simp [cutRows]; done) | (unfold roomOK; simp [cutRows]; omega) | (simp [cutRows]; done) | (simp [cutRows]; omega)) ?_; conv => whnf)
      | (refine SliceG.fr ?_; conv => whnf)
      | (refine idx_at _ (by with_reducible rfl) (by first | assumption | omega) ?_; conv => whnf)
      | ((with_reducible refine row_map (by first | assumption | omega) ?_); conv => whnf)
      | ((with_reducible refine row_set (by first | assumption | omega | (simp only [List.length_set]; omega) | (simp; omega)) ?_); conv => whnf)
      | fail)
    exact .mk ⟨rfl, rfl⟩
/-! the program's -/
set_option maxRecDepth 100000 in
set_option maxHeartbeats 4000000 in
theorem sg1_pc (m : MN) (a b : ByteArray) : PCp 28 [.c (.str a), .c (.str b), .c (.ptr 0 0)] [.box [.mp 1], smO ekB evN m] (.c (.int .i64 (sgC (fun e => (m.get e).getD 0) a b))) [.box [.mp 1], smO ekB evN m] := by
  refine fn_sound (mt := mts) tab_fits tab_mixed Tryz.func28 (by rfl) (by kernel_rfl) (by kernel_rfl) Tryz.results28 (Nat.le_of_ble_eq_true (by kernel_rfl)) ?_
  conv => whnf
  repeat' (first
    | (refine Split.mk (fun h => ?_) (fun h => ?_) <;> (try simp only [decide_eq_true_eq, decide_eq_false_iff_not, Bool.not_eq_true', Bool.not_eq_false', beq_iff_eq, beq_eq_false_iff_ne, bne_iff_ne, bne_eq_false_iff_eq] at h) <;> (first | (exfalso; first | omega | exact h trivial) | (conv => whnf)))
    | (refine CondG.mk (fun h => ?_) (fun h => ?_) <;> (try simp only [decide_eq_true_eq, decide_eq_false_iff_not, Bool.not_eq_true', Bool.not_eq_false', beq_iff_eq, beq_eq_false_iff_ne, bne_iff_ne, bne_eq_false_iff_eq] at h) <;> (first | (exfalso; first | omega | exact h trivial) | (conv => whnf)))
    | (refine CallX.mk _ _ (by first | exact cmpI_pc _ _ | exact sCompare_pc _ _ | exact orI_pc [cmpI ((m.get b).getD 0) ((m.get a).getD 0), cmpS a b] (by simp)) ?_; conv => whnf)
    | (refine CallG.mk _ _ (by first | exact cmpI_pc _ _ | exact sCompare_pc _ _ | exact orI_pc [cmpI ((m.get b).getD 0) ((m.get a).getD 0), cmpS a b] (by simp)) ?_; conv => whnf)
    | (refine Ask.mk (by first | omega | (unfold roomOK; simp [cutRows]; done) | (unfold roomOK; simp [cutRows]; omega) | (simp [cutRows]; done) | (simp [cutRows]; omega)) ?_; conv => whnf)
    | (refine SliceG.fr ?_; conv => whnf)
    | (refine idx_at _ (by with_reducible rfl) (by first | assumption | omega) ?_; conv => whnf)
    | ((with_reducible refine row_map (by first | assumption | omega) ?_); conv => whnf)
    | ((with_reducible refine row_set (by first | assumption | omega | (simp only [List.length_set]; omega) | (simp; omega)) ?_); conv => whnf)
    | ((with_reducible refine sm_look (ek := ekB) (ev := evN) keyStr _ _ ((0 : Int)) ?_ ?_); exact rfl; conv => whnf)
    | ((with_reducible refine sm_upd (ek := ekB) (ev := evN) keyStr _ _ _ ?_); conv => whnf)
    | ((with_reducible refine sm_del (ek := ekB) (ev := evN) keyStr _ _ ?_); conv => whnf)
    | ((with_reducible refine sm_entry (ek := ekB) (ev := evN) keyStr _ _ ((0 : Int)) ?_ ?_); exact rfl; conv => whnf)
    | fail)
  exact .mk ⟨rfl, rfl⟩
set_option maxRecDepth 100000 in
set_option maxHeartbeats 4000000 in
theorem insFs_pc (m : MN) (g : Nat) (c : ByteArray → ByteArray → Int) (hg : ∀ x y : ByteArray, PCp g [.c (.str x), .c (.str y), .c (.ptr 0 0)] [.box [.mp 1], smO ekB evN m] (.c (.int .i64 (c x y))) [.box [.mp 1], smO ekB evN m]) (a b : Nat) (l : List ByteArray) (ha : a ≤ l.length) (hb : b ≤ l.length) (hl : l.length ≤ 1000000000) :
    PCp 65 [.c (.row 0), .c (.int .i64 a), .c (.int .i64 b), .c (.fn g [.ptr 1 0])] [.row 9 1 (l.map encS), .box [.mp 2], smO ekB evN m] (.tup []) [.row 9 1 ((insTo c a (b - (a + 1)) l).map encS), .box [.mp 2], smO ekB evN m] := by
  have hw : IntKind.i64.wrap ((a : Int) + 1) = ((a + 1 : Nat) : Int) := by rw [wrap_in (by omega) (by omega)]; rfl
  refine fn_sound (mt := mts) tab_fits tab_mixed Tryz.func65 (by rfl) (by kernel_rfl) (by kernel_rfl) Tryz.results65 (Nat.le_of_ble_eq_true (by kernel_rfl)) ?_
  conv => whnf
  rw [hw]
  refine loop_count (b - (a + 1)) [] [0, 1, 2, 3, 8] (fun k (_ : Unit) => ⟨[(0, .c (.row 0)), (1, .c (.int .i64 a)), (2, .c (.int .i64 b)), (3, .c (.fn g [.ptr 1 0])), (8, .c (.int .i64 ((a + 1 + k : Nat) : Int)))], [(0, .row 9 1 ((insTo c a k l).map encS)), (1, .box [.mp 2]), (2, smO ekB evN m)], 3⟩) (fun k (_ : Unit) => True) (()) ?_ ?_ ?_
  · conv => whnf
    exact ⟨rfl, trivial⟩
  · intro k _ hk _
    have hlen := insTo_len c a k l
    conv => whnf
    refine .mk (fun h => ?_) (fun h => ?_)
    rotate_left
    · simp at h; omega
    conv => whnf
    refine loop_meas2 (fun (j : Nat) (q : List ByteArray) => j) [] [0, 1, 2, 3, 8, 9] (fun (j : Nat) (q : List ByteArray) => ⟨[(0, .c (.row 0)), (1, .c (.int .i64 a)), (2, .c (.int .i64 b)), (3, .c (.fn g [.ptr 1 0])), (8, .c (.int .i64 ((a + 1 + k : Nat) : Int))), (9, .c (.int .i64 ((j : Nat) : Int)))], [(0, .row 9 1 (q.map encS)), (1, .box [.mp 2]), (2, smO ekB evN m)], 3⟩) (fun (j : Nat) (q : List ByteArray) => insDown c a j q = insTo c a (k + 1) l ∧ j < l.length ∧ q.length = l.length) (a + 1 + k) (insTo c a k l) ?_ ?_
    · conv => whnf
      exact ⟨rfl, rfl, by omega, by omega⟩
    · intro j q ⟨h1, h2, h3⟩
      conv => whnf
      repeat' (first
        | (refine Split.mk (fun h => ?_) (fun h => ?_) <;> (try simp only [decide_eq_true_eq, decide_eq_false_iff_not, Bool.not_eq_true', Bool.not_eq_false', beq_iff_eq, beq_eq_false_iff_ne] at h) <;> (first | (exfalso; first | omega | exact h trivial) | (conv => whnf)))
        | (refine CondG.mk (fun h => ?_) (fun h => ?_) <;> (try simp only [decide_eq_true_eq, decide_eq_false_iff_not, Bool.not_eq_true', Bool.not_eq_false', beq_iff_eq, beq_eq_false_iff_ne] at h) <;> (first | (exfalso; first | omega | exact h trivial) | (conv => whnf)))
        | (refine Ask.mk (by first | omega | (unfold roomOK; simp [cutRows]; done) | (unfold roomOK; simp [cutRows]; omega)) ?_; conv => whnf)
        | (refine SliceG.fr ?_; conv => whnf)
        | fail)
      · -- one more to the left?
        obtain ⟨i, rfl⟩ : ∃ i, j = i + 1 := ⟨j - 1, by omega⟩
        have hw2 : IntKind.i64.wrap (((i + 1 : Nat) : Int) - 1) = ((i : Nat) : Int) := by rw [wrap_in (by omega) (by omega)]; omega
        refine .mk (by rw [List.length_map]; omega) ?_
        conv => whnf
        refine row_at (i + 1) toN (by omega) ?_
        conv => whnf
        rw [hw2]
        refine .mk (by rw [List.length_map]; omega) ?_
        conv => whnf
        refine row_at i toN (by omega) ?_
        conv => whnf
        repeat' (first
          | (refine Split.mk (fun h => ?_) (fun h => ?_) <;> (try simp only [decide_eq_true_eq, decide_eq_false_iff_not, Bool.not_eq_true', Bool.not_eq_false', beq_iff_eq, beq_eq_false_iff_ne] at h) <;> (first | (exfalso; first | omega | exact h trivial) | (conv => whnf)))
          | (refine CondG.mk (fun h => ?_) (fun h => ?_) <;> (try simp only [decide_eq_true_eq, decide_eq_false_iff_not, Bool.not_eq_true', Bool.not_eq_false', beq_iff_eq, beq_eq_false_iff_ne] at h) <;> (first | (exfalso; first | omega | exact h trivial) | (conv => whnf)))
          | (refine CallX.mk _ _ (by first | exact hg _ _) ?_; conv => whnf)
          | (refine CallG.mk _ _ (by first | exact hg _ _) ?_; conv => whnf)
          | (refine Ask.mk (by first | omega | (unfold roomOK; simp [cutRows]; done) | (unfold roomOK; simp [cutRows]; omega)) ?_; conv => whnf)
          | (refine SliceG.fr ?_; conv => whnf)
          | fail)
        · rw [insDown_step (by omega) (by omega) h] at h1
          repeat' (first
            | (refine Split.mk (fun h => ?_) (fun h => ?_) <;> (try simp only [decide_eq_true_eq, decide_eq_false_iff_not, Bool.not_eq_true', Bool.not_eq_false', beq_iff_eq, beq_eq_false_iff_ne] at h) <;> (first | (exfalso; first | omega | exact h trivial) | (conv => whnf)))
            | (refine CondG.mk (fun h => ?_) (fun h => ?_) <;> (try simp only [decide_eq_true_eq, decide_eq_false_iff_not, Bool.not_eq_true', Bool.not_eq_false', beq_iff_eq, beq_eq_false_iff_ne] at h) <;> (first | (exfalso; first | omega | exact h trivial) | (conv => whnf)))
            | (refine Ask.mk (by first | omega | (unfold roomOK; simp [cutRows]; done) | (unfold roomOK; simp [cutRows]; omega)) ?_; conv => whnf)
            | (refine SliceG.fr ?_; conv => whnf)
            | fail)
          rw [hw2]
          refine .mk (by rw [List.length_map]; omega) ?_
          conv => whnf
          refine row_at i toN (by omega) ?_
          conv => whnf
          refine .mk (by rw [List.length_map]; omega) ?_
          conv => whnf
          refine row_at (i + 1) toN (by omega) ?_
          conv => whnf
          refine .mk (by rw [List.length_map]; omega) ?_
          conv => whnf
          refine row_at (i + 1) toN (by omega) ?_
          conv => whnf
          refine .mk (by rw [List.length_set, List.length_map]; omega) ?_
          conv => whnf
          refine .mk (encS (q[i]'(by omega))) (by rw [toN, toN, List.getElem?_set_ne (by omega)]; simp [show i < q.length by omega]) ?_
          conv => whnf
          refine meas_next (i, (q.set (i + 1) (q[i]'(by omega))).set i (q[i + 1]'(by omega))) (by simp only; omega) (by rw [toN, toN, hw2]; simp only [List.map_set]; rfl) ⟨h1, by simp only; omega, by simp [h3]⟩
        · rw [insDown_stop (by omega) h] at h1
          conv => whnf
          refine count_next () hk (by rw [h1, show IntKind.i64.wrap (((a + 1 + k : Nat) : Int) + 1) = ((a + 1 + (k + 1) : Nat) : Int) by rw [wrap_in (by omega) (by omega)]; omega]; rfl) trivial
      · rw [insDown_low (by omega)] at h1
        refine count_next () hk (by rw [h1, show IntKind.i64.wrap (((a + 1 + k : Nat) : Int) + 1) = ((a + 1 + (k + 1) : Nat) : Int) by rw [wrap_in (by omega) (by omega)]; omega]; rfl) trivial
  · intro _ _
    have hlen := insTo_len c a (b - (a + 1)) l
    conv => whnf
    repeat' (first
      | (refine Split.mk (fun h => ?_) (fun h => ?_) <;> (try simp only [decide_eq_true_eq, decide_eq_false_iff_not, Bool.not_eq_true', Bool.not_eq_false', beq_iff_eq, beq_eq_false_iff_ne] at h) <;> (first | (exfalso; first | omega | exact h trivial) | (conv => whnf)))
      | (refine CondG.mk (fun h => ?_) (fun h => ?_) <;> (try simp only [decide_eq_true_eq, decide_eq_false_iff_not, Bool.not_eq_true', Bool.not_eq_false', beq_iff_eq, beq_eq_false_iff_ne] at h) <;> (first | (exfalso; first | omega | exact h trivial) | (conv => whnf)))
      | (refine Ask.mk (by first | omega | (unfold roomOK; simp [cutRows]; done) | (unfold roomOK; simp [cutRows]; omega)) ?_; conv => whnf)
      | (refine SliceG.fr ?_; conv => whnf)
      | fail)
    exact .mk ⟨rfl, rfl⟩
set_option maxRecDepth 100000 in
set_option maxHeartbeats 4000000 in
theorem pdqFs_pc (m : MN) (g : Nat) (c : ByteArray → ByteArray → Int) (hg : ∀ x y : ByteArray, PCp g [.c (.str x), .c (.str y), .c (.ptr 0 0)] [.box [.mp 1], smO ekB evN m] (.c (.int .i64 (c x y))) [.box [.mp 1], smO ekB evN m]) (l : List ByteArray) (hl : l.length ≤ 12) :
    PCp 27 [.c (.row 0), .c (.fn g [.ptr 1 0])] [.row 9 1 (l.map encS), .box [.mp 2], smO ekB evN m] (.tup []) [.row 9 1 ((insSort c l).map encS), .box [.mp 2], smO ekB evN m] := by
  have hlm : (l.map encS).length = l.length := List.length_map ..
  have hst : ∀ lim : Int, PCp 49 [.c (.row 0), .c (.int .i64 0), .c (.int .i64 l.length), .c (.int .i64 lim), .c (.fn g [.ptr 1 0])] [.row 9 1 (l.map encS), .box [.mp 2], smO ekB evN m] (.tup []) [.row 9 1 ((insSort c l).map encS), .box [.mp 2], smO ekB evN m] := by
    intro lim
    have hw : IntKind.i64.wrap ((l.length : Int) - 0) = l.length := by rw [wrap_in (by omega) (by omega)]; omega
    refine fn_sound (mt := mts) tab_fits tab_mixed Tryz.func49 (by rfl) (by kernel_rfl) (by kernel_rfl) Tryz.results49 (Nat.le_of_ble_eq_true (by kernel_rfl)) ?_
    conv => whnf
    refine .un 1 ?_
    conv => whnf
    rw [hw]
    repeat' (first
      | (refine Split.mk (fun h => ?_) (fun h => ?_) <;> (try simp only [decide_eq_true_eq, decide_eq_false_iff_not, Bool.not_eq_true', Bool.not_eq_false', beq_iff_eq, beq_eq_false_iff_ne] at h) <;> (first | (exfalso; first | omega | exact h trivial) | (conv => whnf)))
      | (refine CondG.mk (fun h => ?_) (fun h => ?_) <;> (try simp only [decide_eq_true_eq, decide_eq_false_iff_not, Bool.not_eq_true', Bool.not_eq_false', beq_iff_eq, beq_eq_false_iff_ne] at h) <;> (first | (exfalso; first | omega | exact h trivial) | (conv => whnf)))
      | (refine Ask.mk (by first | omega | (unfold roomOK; simp [cutRows]; done) | (unfold roomOK; simp [cutRows]; omega)) ?_; conv => whnf)
      | (refine SliceG.fr ?_; conv => whnf)
      | fail)
    refine .mk _ _ (insFs_pc m g c hg 0 l.length l (Nat.zero_le _) (Nat.le_refl _) (by omega)) ?_
    conv => whnf
    exact .mk ⟨rfl, rfl⟩
  refine fn_sound (mt := mts) tab_fits tab_mixed Tryz.func27 (by rfl) (by kernel_rfl) (by kernel_rfl) Tryz.results27 (Nat.le_of_ble_eq_true (by kernel_rfl)) ?_
  conv => whnf
  rw [hlm, wrapU64 l.length (by omega)]
  obtain ⟨lim, hlim⟩ := bLen_ex l.length (by omega)
  repeat' (first
    | (refine Split.mk (fun h => ?_) (fun h => ?_) <;> (try simp only [decide_eq_true_eq, decide_eq_false_iff_not, Bool.not_eq_true', Bool.not_eq_false', beq_iff_eq, beq_eq_false_iff_ne] at h) <;> (first | (exfalso; first | omega | exact h trivial) | (conv => whnf)))
    | (refine CondG.mk (fun h => ?_) (fun h => ?_) <;> (try simp only [decide_eq_true_eq, decide_eq_false_iff_not, Bool.not_eq_true', Bool.not_eq_false', beq_iff_eq, beq_eq_false_iff_ne] at h) <;> (first | (exfalso; first | omega | exact h trivial) | (conv => whnf)))
    | (refine CallX.mk _ _ (by first | exact hlim | exact hst _) ?_; conv => whnf)
    | (refine CallG.mk _ _ (by first | exact hlim | exact hst _) ?_; conv => whnf)
    | (refine Ask.mk (by first | omega | (unfold roomOK; simp [cutRows]; done) | (unfold roomOK; simp [cutRows]; omega)) ?_; conv => whnf)
    | (refine SliceG.fr ?_; conv => whnf)
    | fail)
  exact .mk ⟨rfl, rfl⟩
theorem prsOf_succ (s : List Sv) {k : Nat} (h : k < s.length) : prsOf (s.take (k + 1)) = prsOf (s.take k) ++ s[k].els.map fun e => (e, s[k].cust) := by
  unfold prsOf; rw [List.take_succ_eq_append_getElem h, List.flatMap_append]; simp
theorem prsOf_len : ∀ {s : List Sv}, (∀ x ∈ s, x.els.length ≤ 100) → (prsOf s).length ≤ 100 * s.length
  | [], _ => by simp [prsOf]
  | x :: r, h => by
    have ih := prsOf_len (s := r) (fun y hy => h y (by simp [hy]))
    have h1 := h x (by simp)
    unfold prsOf at ih ⊢
    rw [List.flatMap_cons, List.length_append, List.length_map]; simp only [List.length_cons]; omega
theorem prsOf_ok {s : List Sv} (h : ∀ x ∈ s, 1 ≤ x.cust ∧ x.cust ≤ 100000) : PrOk (prsOf s) := by
  intro p hp
  obtain ⟨x, hx, hp⟩ := List.mem_flatMap.1 hp
  obtain ⟨e, he, rfl⟩ := List.mem_map.1 hp
  exact h x hx
theorem nms_few {s : List Sv} (hN : ∀ x ∈ s, ∀ e ∈ x.els, e ∈ svNames) : (nmS (prsOf s)).length ≤ 10 := by
  have := nodup_sub_len (nmS_nd (prsOf s)) (m := svNames) (fun e he => by
    obtain ⟨p, hp, rfl⟩ := (nmS_mem e (prsOf s)).1 he
    obtain ⟨x, hx, hp⟩ := List.mem_flatMap.1 hp
    obtain ⟨e', he', rfl⟩ := List.mem_map.1 hp
    exact hN x hx e' he')
  exact this
set_option maxRecDepth 100000 in
set_option maxHeartbeats 4000000 in
theorem single_pc (s : List Sv) (hs : SvOk s) (h0 : svFault s = 0) (hN : ∀ x ∈ s, ∀ e ∈ x.els, e ∈ svNames) :
    PCp 7 [.c (.lst 3 (s.map encSv))] [] (.tup [.c (.lst 2 ((prV s).map encPs)), .c (.int .i64 0)]) [] := by
  have hsl := hs.len
  have hsm : (s.map encSv).length = s.length := List.length_map ..
  have hx : ∀ x ∈ s, x.els.length ≤ 1000000 := fun x hx => Nat.le_trans (hs.each x hx).len (by decide)
  refine fn_sound (mt := mts) tab_fits tab_mixed Tryz.func7 (by rfl) (by kernel_rfl) (by kernel_rfl) Tryz.results7 (Nat.le_of_ble_eq_true (by kernel_rfl)) ?_
  conv => whnf
  repeat' (first
    | (refine Split.mk (fun h => ?_) (fun h => ?_) <;> (try simp only [decide_eq_true_eq, decide_eq_false_iff_not, Bool.not_eq_true', Bool.not_eq_false', beq_iff_eq, beq_eq_false_iff_ne, bne_iff_ne, bne_eq_false_iff_eq] at h) <;> (first | (exfalso; first | omega | exact h trivial) | (conv => whnf)))
    | (refine CondG.mk (fun h => ?_) (fun h => ?_) <;> (try simp only [decide_eq_true_eq, decide_eq_false_iff_not, Bool.not_eq_true', Bool.not_eq_false', beq_iff_eq, beq_eq_false_iff_ne, bne_iff_ne, bne_eq_false_iff_eq] at h) <;> (first | (exfalso; first | omega | exact h trivial) | (conv => whnf)))
    | (refine CallX.mk _ _ (by first | exact checkServices_pc s hx) ?_; conv => whnf)
    | (refine CallG.mk _ _ (by first | exact checkServices_pc s hx) ?_; conv => whnf)
    | (refine Ask.mk (by first | omega | (unfold roomOK; simp [cutRows]; done) | (unfold roomOK; simp [cutRows]; omega) | (simp [cutRows]; done) | (simp [cutRows]; omega)) ?_; conv => whnf)
    | (refine SliceG.fr ?_; conv => whnf)
    | (refine idx_at _ (by with_reducible rfl) (by first | assumption | omega) ?_; conv => whnf)
    | ((with_reducible refine row_map (by first | assumption | omega) ?_); conv => whnf)
    | ((with_reducible refine row_set (by first | assumption | omega | (simp only [List.length_set]; omega) | (simp; omega)) ?_); conv => whnf)
    | fail)
  refine loop_for (s.length) [.sl 6 9 1] [5, 6, 20, 21, 22] (fun k (_ : Unit) => [(22, .c (.int .i64 (k : Int)))]) (fun k (_ : Unit) => [(1, smO ekB evN (mnM (prsOf (s.take k)))), (2, .row 9 1 ((nmS (prsOf (s.take k))).map encS))]) (fun k (_ : Unit) => True) (()) ?_
  conv => whnf
  refine ⟨(by first | rfl | (simp; done) | (simp; rfl)), (by trivial), ?_, ?_⟩
  · intro k _ hk _
    obtain ⟨h1, h2, h3, h4, h5, h6⟩ := hs.each _ (List.getElem_mem hk)
    have htl : (s.take k).length = k := by rw [List.length_take]; omega
    have hpl := prsOf_len (s := s.take k) (fun x hm => (hs.each x (List.mem_of_mem_take hm)).len)
    have hpo := prsOf_ok (s := s.take k) (fun x hm => (hs.each x (List.mem_of_mem_take hm)).cust)
    have h4' : (s[k].els.map encS).length = s[k].els.length := List.length_map ..
    conv => whnf
    repeat' (first
      | (refine Split.mk (fun h => ?_) (fun h => ?_) <;> (try simp only [decide_eq_true_eq, decide_eq_false_iff_not, Bool.not_eq_true', Bool.not_eq_false', beq_iff_eq, beq_eq_false_iff_ne, bne_iff_ne, bne_eq_false_iff_eq] at h) <;> (first | (exfalso; first | omega | exact h trivial) | (conv => whnf)))
      | (refine CondG.mk (fun h => ?_) (fun h => ?_) <;> (try simp only [decide_eq_true_eq, decide_eq_false_iff_not, Bool.not_eq_true', Bool.not_eq_false', beq_iff_eq, beq_eq_false_iff_ne, bne_iff_ne, bne_eq_false_iff_eq] at h) <;> (first | (exfalso; first | omega | exact h trivial) | (conv => whnf)))
      | (refine Ask.mk (by first | omega | (unfold roomOK; simp [cutRows]; done) | (unfold roomOK; simp [cutRows]; omega) | (simp [cutRows]; done) | (simp [cutRows]; omega)) ?_; conv => whnf)
      | (refine SliceG.fr ?_; conv => whnf)
      | (refine idx_at _ (by with_reducible rfl) (by first | assumption | omega) ?_; conv => whnf)
      | ((with_reducible refine row_map (by first | assumption | omega) ?_); conv => whnf)
      | ((with_reducible refine row_set (by first | assumption | omega | (simp only [List.length_set]; omega) | (simp; omega)) ?_); conv => whnf)
      | fail)
    refine loop_for (s[k].els.length) [.sl 6 9 1] [5, 6, 8, 20, 21, 22, 27, 28, 29] (fun j (_ : Unit) => [(29, .c (.int .i64 (j : Int)))]) (fun j (_ : Unit) => [(1, smO ekB evN (mnM (prsOf (s.take k) ++ (s[k].els.take j).map fun e => (e, s[k].cust)))), (2, .row 9 1 ((nmS (prsOf (s.take k) ++ (s[k].els.take j).map fun e => (e, s[k].cust))).map encS))]) (fun j (_ : Unit) => True) (()) ?_
    conv => whnf
    refine ⟨(by first | rfl | (simp; done) | (simp; rfl)), (by trivial), ?_, ?_⟩
    · intro j _ hj _
      have hjl : ((s[k].els.take j).map fun e => (e, s[k].cust)).length = j := by rw [List.length_map, List.length_take]; omega
      have hL : prsOf (s.take k) ++ ((s[k].els.take (j + 1)).map fun e => (e, s[k].cust)) = (prsOf (s.take k) ++ (s[k].els.take j).map fun e => (e, s[k].cust)) ++ [(s[k].els[j], s[k].cust)] := by
        rw [List.take_succ_eq_append_getElem hj, List.map_append, List.append_assoc]; rfl
      have hLl : (prsOf (s.take k) ++ (s[k].els.take j).map fun e => (e, s[k].cust)).length ≤ 1000000 := by rw [List.length_append, hjl]; omega
      have hLo : PrOk (prsOf (s.take k) ++ (s[k].els.take j).map fun e => (e, s[k].cust)) := by
        intro q hq
        rcases List.mem_append.1 hq with hq | hq
        · exact hpo q hq
        · obtain ⟨e, _, rfl⟩ := List.mem_map.1 hq; exact h5
      obtain ⟨L, hLe⟩ : ∃ L, L = prsOf (s.take k) ++ ((s[k].els.take j).map fun e => (e, s[k].cust)) := ⟨_, rfl⟩
      rw [← hLe] at hL hLl hLo
      rw [← hLe]
      have hg := mnM_get s[k].els[j] L hLo hLl
      have hz := wOf_pos s[k].els[j] L hLo
      have hnl : (nmS L).length ≤ 1000000 := by
        have := nodup_sub_len (nmS_nd L) (m := L.map (·.1)) (fun e he => by obtain ⟨q, hq, rfl⟩ := (nmS_mem e L).1 he; exact List.mem_map.2 ⟨q, hq, rfl⟩)
        rw [List.length_map] at this; omega
      have hnm : ((nmS L).map encS).length = (nmS L).length := List.length_map ..
      conv => whnf
      repeat' (first
        | (refine Split.mk (fun h => ?_) (fun h => ?_) <;> (try simp only [decide_eq_true_eq, decide_eq_false_iff_not, Bool.not_eq_true', Bool.not_eq_false', beq_iff_eq, beq_eq_false_iff_ne, bne_iff_ne, bne_eq_false_iff_eq] at h) <;> (first | (exfalso; first | omega | exact h trivial) | (conv => whnf)))
        | (refine CondG.mk (fun h => ?_) (fun h => ?_) <;> (try simp only [decide_eq_true_eq, decide_eq_false_iff_not, Bool.not_eq_true', Bool.not_eq_false', beq_iff_eq, beq_eq_false_iff_ne, bne_iff_ne, bne_eq_false_iff_eq] at h) <;> (first | (exfalso; first | omega | exact h trivial) | (conv => whnf)))
        | (refine Ask.mk (by first | omega | (unfold roomOK; simp [cutRows]; done) | (unfold roomOK; simp [cutRows]; omega) | (simp [cutRows]; done) | (simp [cutRows]; omega)) ?_; conv => whnf)
        | (refine SliceG.fr ?_; conv => whnf)
        | (refine idx_at _ (by with_reducible rfl) (by first | assumption | omega) ?_; conv => whnf)
        | ((with_reducible refine row_map (by first | assumption | omega) ?_); conv => whnf)
        | ((with_reducible refine row_set (by first | assumption | omega | (simp only [List.length_set]; omega) | (simp; omega)) ?_); conv => whnf)
        | ((with_reducible refine sm_look (ek := ekB) (ev := evN) keyStr _ _ ((0 : Int)) ?_ ?_); exact rfl; conv => whnf)
        | ((with_reducible refine sm_upd (ek := ekB) (ev := evN) keyStr _ _ _ ?_); conv => whnf)
        | ((with_reducible refine sm_del (ek := ekB) (ev := evN) keyStr _ _ ?_); conv => whnf)
        | ((with_reducible refine sm_entry (ek := ekB) (ev := evN) keyStr _ _ ((0 : Int)) ?_ ?_); exact rfl; conv => whnf)
        | fail)
      all_goals rename_i h
      all_goals rw [hg] at h
      · exact count_next () hj (by rw [wrap_succ hj (by omega), hL, mnM_app, nmS_app, if_neg (hz.1 (by simpa using h)), List.map_append]; rfl) trivial
      · have hin : s[k].els[j] ∈ nmS L := by
          by_cases q : s[k].els[j] ∈ nmS L
          · exact q
          · exact absurd (hz.2 q) (by simpa using h)
        exact count_next () hj (by rw [wrap_succ hj (by omega), hL, mnM_app, nmS_app, if_pos hin]; rfl) trivial
    · intro _ _
      rw [List.take_length]
      conv => whnf
      repeat' (first
        | (refine Split.mk (fun h => ?_) (fun h => ?_) <;> (try simp only [decide_eq_true_eq, decide_eq_false_iff_not, Bool.not_eq_true', Bool.not_eq_false', beq_iff_eq, beq_eq_false_iff_ne, bne_iff_ne, bne_eq_false_iff_eq] at h) <;> (first | (exfalso; first | omega | exact h trivial) | (conv => whnf)))
        | (refine CondG.mk (fun h => ?_) (fun h => ?_) <;> (try simp only [decide_eq_true_eq, decide_eq_false_iff_not, Bool.not_eq_true', Bool.not_eq_false', beq_iff_eq, beq_eq_false_iff_ne, bne_iff_ne, bne_eq_false_iff_eq] at h) <;> (first | (exfalso; first | omega | exact h trivial) | (conv => whnf)))
        | (refine Ask.mk (by first | omega | (unfold roomOK; simp [cutRows]; done) | (unfold roomOK; simp [cutRows]; omega) | (simp [cutRows]; done) | (simp [cutRows]; omega)) ?_; conv => whnf)
        | (refine SliceG.fr ?_; conv => whnf)
        | (refine idx_at _ (by with_reducible rfl) (by first | assumption | omega) ?_; conv => whnf)
        | ((with_reducible refine row_map (by first | assumption | omega) ?_); conv => whnf)
        | ((with_reducible refine row_set (by first | assumption | omega | (simp only [List.length_set]; omega) | (simp; omega)) ?_); conv => whnf)
        | fail)
      exact count_next () hk (by rw [wrap_succ hk (by omega), prsOf_succ s hk]; rfl) trivial
  · intro _ _
    rw [List.take_length]
    have hpl := prsOf_len (s := s) (fun x hm => (hs.each x hm).len)
    have hpo := prsOf_ok (s := s) (fun x hm => (hs.each x hm).cust)
    have hfew := nms_few hN
    have hw : ∀ e, ((mnM (prsOf s)).get e).getD 0 = affN s [e] := fun e => by
      rw [mnM_get e (prsOf s) hpo (by omega)]
      exact wOf_aff (fun x hm => rise_nd (hs.each x hm).rise)
    have hc : (sgC fun e => ((mnM (prsOf s)).get e).getD 0) = sgC fun e => affN s [e] := by
      have : (fun e => ((mnM (prsOf s)).get e).getD 0) = fun e => affN s [e] := funext hw
      rw [this]
    have hit : ∀ e, 0 ≤ ((mnM (prsOf s)).get e).getD 0 ∧ ((mnM (prsOf s)).get e).getD 0 ≤ 50000000 := fun e => by
      have := affN_in (s := s) (fun x hm => (hs.each x hm).cust) [e]
      rw [hw]; omega
    have haf : ∀ e, 0 ≤ affN s [e] ∧ affN s [e] ≤ 100000 * s.length := fun e => affN_in (fun x hm => (hs.each x hm).cust) [e]
    conv => whnf
    repeat' (first
      | (refine Split.mk (fun h => ?_) (fun h => ?_) <;> (try simp only [decide_eq_true_eq, decide_eq_false_iff_not, Bool.not_eq_true', Bool.not_eq_false', beq_iff_eq, beq_eq_false_iff_ne, bne_iff_ne, bne_eq_false_iff_eq] at h) <;> (first | (exfalso; first | omega | exact h trivial) | (conv => whnf)))
      | (refine CondG.mk (fun h => ?_) (fun h => ?_) <;> (try simp only [decide_eq_true_eq, decide_eq_false_iff_not, Bool.not_eq_true', Bool.not_eq_false', beq_iff_eq, beq_eq_false_iff_ne, bne_iff_ne, bne_eq_false_iff_eq] at h) <;> (first | (exfalso; first | omega | exact h trivial) | (conv => whnf)))
      | (refine CallX.mk _ _ (by first | exact pdqFs_pc (mnM (prsOf s)) 28 (sgC fun e => ((mnM (prsOf s)).get e).getD 0) (fun x y => sg1_pc _ x y) (nmS (prsOf s)) (by omega)) ?_; conv => whnf)
      | (refine CallG.mk _ _ (by first | exact pdqFs_pc (mnM (prsOf s)) 28 (sgC fun e => ((mnM (prsOf s)).get e).getD 0) (fun x y => sg1_pc _ x y) (nmS (prsOf s)) (by omega)) ?_; conv => whnf)
      | (refine Ask.mk (by first | omega | (unfold roomOK; simp [cutRows]; done) | (unfold roomOK; simp [cutRows]; omega) | (simp [cutRows]; done) | (simp [cutRows]; omega)) ?_; conv => whnf)
      | (refine SliceG.fr ?_; conv => whnf)
      | (refine idx_at _ (by with_reducible rfl) (by first | assumption | omega) ?_; conv => whnf)
      | ((with_reducible refine row_map (by first | assumption | omega) ?_); conv => whnf)
      | ((with_reducible refine row_set (by first | assumption | omega | (simp only [List.length_set]; omega) | (simp; omega)) ?_); conv => whnf)
      | fail)
    rw [hc]
    have hsg : insSort (sgC fun e => affN s [e]) (nmS (prsOf s)) = sgV s := rfl
    rw [hsg]
    have hsgl : (sgV s).length ≤ 10 := by unfold sgV; rw [insSort_len]; exact hfew
    have hsgm : ((sgV s).map encS).length = (sgV s).length := List.length_map ..
    refine loop_for ((sgV s).length) [.sl 11 44 2] [5, 11, 52, 53, 54] (fun k (_ : Unit) => [(54, .c (.int .i64 (k : Int)))]) (fun k (_ : Unit) => [(2, .row 44 2 ((((sgV s).take k).map fun e => (e, itoaB (affN s [e]))).map encPs))]) (fun k (_ : Unit) => True) (()) ?_
    conv => whnf
    refine ⟨(by first | rfl | (simp; done) | (simp; rfl)), (by trivial), ?_, ?_⟩
    · intro k _ hk _
      have hbe := haf (sgV s)[k]
      have hol : ((((sgV s).take k).map fun e => (e, itoaB (affN s [e]))).map encPs).length = k := by simp; omega
      conv => whnf
      repeat' (first
        | (refine Split.mk (fun h => ?_) (fun h => ?_) <;> (try simp only [decide_eq_true_eq, decide_eq_false_iff_not, Bool.not_eq_true', Bool.not_eq_false', beq_iff_eq, beq_eq_false_iff_ne, bne_iff_ne, bne_eq_false_iff_eq] at h) <;> (first | (exfalso; first | omega | exact h trivial) | (conv => whnf)))
        | (refine CondG.mk (fun h => ?_) (fun h => ?_) <;> (try simp only [decide_eq_true_eq, decide_eq_false_iff_not, Bool.not_eq_true', Bool.not_eq_false', beq_iff_eq, beq_eq_false_iff_ne, bne_iff_ne, bne_eq_false_iff_eq] at h) <;> (first | (exfalso; first | omega | exact h trivial) | (conv => whnf)))
        | (refine CallX.mk _ _ (by first | exact itoa_pc _ (Int.le_trans (by decide) (hit _).1) (Int.le_trans (hit _).2 (by decide))) ?_; conv => whnf)
        | (refine CallG.mk _ _ (by first | exact itoa_pc _ (Int.le_trans (by decide) (hit _).1) (Int.le_trans (hit _).2 (by decide))) ?_; conv => whnf)
        | (refine Ask.mk (by first | omega | (unfold roomOK; simp [cutRows]; done) | (unfold roomOK; simp [cutRows]; omega) | (simp [cutRows]; done) | (simp [cutRows]; omega)) ?_; conv => whnf)
        | (refine SliceG.fr ?_; conv => whnf)
        | (refine idx_at _ (by with_reducible rfl) (by first | assumption | omega) ?_; conv => whnf)
        | ((with_reducible refine row_map (by first | assumption | omega) ?_); conv => whnf)
        | ((with_reducible refine row_set (by first | assumption | omega | (simp only [List.length_set]; omega) | (simp; omega)) ?_); conv => whnf)
        | ((with_reducible refine sm_look (ek := ekB) (ev := evN) keyStr _ _ ((0 : Int)) ?_ ?_); exact rfl; conv => whnf)
        | ((with_reducible refine sm_upd (ek := ekB) (ev := evN) keyStr _ _ _ ?_); conv => whnf)
        | ((with_reducible refine sm_del (ek := ekB) (ev := evN) keyStr _ _ ?_); conv => whnf)
        | ((with_reducible refine sm_entry (ek := ekB) (ev := evN) keyStr _ _ ((0 : Int)) ?_ ?_); exact rfl; conv => whnf)
        | fail)
      rw [hw]
      exact count_next () hk (by rw [wrap_succ hk (by omega), List.take_succ_eq_append_getElem hk, List.map_append, List.map_append]; rfl) trivial
    · intro _ _
      rw [List.take_length]
      conv => whnf
      repeat' (first
        | (refine Split.mk (fun h => ?_) (fun h => ?_) <;> (try simp only [decide_eq_true_eq, decide_eq_false_iff_not, Bool.not_eq_true', Bool.not_eq_false', beq_iff_eq, beq_eq_false_iff_ne, bne_iff_ne, bne_eq_false_iff_eq] at h) <;> (first | (exfalso; first | omega | exact h trivial) | (conv => whnf)))
        | (refine CondG.mk (fun h => ?_) (fun h => ?_) <;> (try simp only [decide_eq_true_eq, decide_eq_false_iff_not, Bool.not_eq_true', Bool.not_eq_false', beq_iff_eq, beq_eq_false_iff_ne, bne_iff_ne, bne_eq_false_iff_eq] at h) <;> (first | (exfalso; first | omega | exact h trivial) | (conv => whnf)))
        | (refine Ask.mk (by first | omega | (unfold roomOK; simp [cutRows]; done) | (unfold roomOK; simp [cutRows]; omega) | (simp [cutRows]; done) | (simp [cutRows]; omega)) ?_; conv => whnf)
        | (refine SliceG.fr ?_; conv => whnf)
        | (refine idx_at _ (by with_reducible rfl) (by first | assumption | omega) ?_; conv => whnf)
        | ((with_reducible refine row_map (by first | assumption | omega) ?_); conv => whnf)
        | ((with_reducible refine row_set (by first | assumption | omega | (simp only [List.length_set]; omega) | (simp; omega)) ?_); conv => whnf)
        | fail)
      refine .frz 0 _ _ _ rfl (.weak [_] (.tup _ _ rfl ?_) rfl (Nat.le_refl _))
      intro i a b ha hb
      match i with
      | 0 => cases ha; cases hb; exact .fro 0 _ _ rfl
      | 1 => cases ha; cases hb; exact .refl _
end Go.Proofs.YteccacaonllceaaGreatDoor
