/- Parts of the proof, in order. -/
import Derived.Test.YtilfcojhdhgmfaaGreatDoorMStoresAddUp4

namespace Go.Proofs.YtilfcojhdhgmfaaGreatDoor
set_option linter.unusedVariables false
set_option linter.unusedSimpArgs false
open Abs

structure CntOk (m : SM ByteArray Int) (ks : List ByteArray) : Prop where
  ok : m.ok
  cnt : ∀ k, (m.get k).getD 0 = (ks.count k : Nat)
theorem CntOk.nil : CntOk SM.nil [] := ⟨SM.ok_nil, fun k => by rw [SM.get_nil]; rfl⟩
theorem CntOk.push {m : SM ByteArray Int} {ks : List ByteArray} (h : CntOk m ks) (k : ByteArray) : CntOk (m.put k ((ks.count k + 1 : Nat) : Int)) (ks ++ [k]) := by
  refine ⟨h.ok.put _ _, fun x => ?_⟩
  rw [SM.get_put, List.count_append]
  by_cases e : k = x
  · subst e; simp
  · have : [k].count x = 0 := by rw [List.count_eq_zero]; simpa using fun h => e h.symm
    rw [if_neg e, h.cnt, this]; rfl
set_option maxRecDepth 100000 in
set_option maxHeartbeats 4000000 in
theorem checkLying_pc (d : List Du) (l : List Ly) (hx : ∀ x ∈ l, x.ducts.length ≤ 1000000) : PCp 70 [.c (.lst 5 (d.map encDu)), .c (.lst 3 (l.map encLy))] [] (.c (.int .i64 (lyFault d l))) [] := by
  have hlm : (l.map encLy).length = l.length := List.length_map ..
  refine fn_sound (mt := mts) tab_fits tab_mixed Tryz.func70 (by rfl) (by kernel_rfl) (by kernel_rfl) Tryz.results70 (Nat.le_of_ble_eq_true (by kernel_rfl)) ?_
  conv => whnf
  repeat' (first | (refine .mk (fun h => ?_) (fun h => ?_) <;> (try simp only [decide_eq_true_eq, decide_eq_false_iff_not, Bool.not_eq_true', Bool.not_eq_false', beq_iff_eq, beq_eq_false_iff_ne, bne_iff_ne, bne_eq_false_iff_eq] at h) <;> (first | (exfalso; first | omega | exact h trivial) | (conv => whnf))) | (refine .mk _ _ (by exact checkDucts_pc d) ?_; conv => whnf) | fail)
  · exact fini (by rw [lyFault, if_pos h])
  · exact fini (by rw [lyFault, if_neg (by simp_all), if_pos (by omega)])
  rename_i hd0
  have hd0 : duFault d = 0 := by simpa using hd0
  have hd := duFault_ok hd0
  have hF : lyFault d l = if lysErr d l ≠ 0 then lysErr d l else if fullL d l then 12 else 0 := by rw [lyFault, if_neg (by simp [hd0]), if_neg (by omega)]
  refine loop_for (l.length) [] [0, 1, 6, 7, 22, 23, 24] (fun k (m : SM ByteArray Int) => [(7, .c (.bool (manyB ((l.take k).flatMap Ly.ducts)))), (24, .c (.int .i64 (k : Int)))]) (fun k (m : SM ByteArray Int) => [(0, smO ekS evI m)]) (fun k (m : SM ByteArray Int) => CntOk m ((l.take k).flatMap Ly.ducts) ∧ ((l.take k).flatMap Ly.ducts).length ≤ 300 * k ∧ seqErr (lyErr d) Ly.cable (decide (k = 0)) (befK Ly.cable l k) (l.drop k) = lysErr d l) (SM.nil) ?_
  conv => whnf
  refine ⟨(by first | rfl | (simp; done) | (simp; rfl)), ?_, ?_, ?_⟩
  · exact ⟨CntOk.nil, by simp, rfl⟩
  · intro k m hk ⟨hm, hn, hi⟩
    have hb := befK_pos (key := Ly.cable) (l := l) (Nat.le_of_lt hk)
    conv => whnf
    repeat' (first | (refine .mk (fun h => ?_) (fun h => ?_) <;> (try simp only [decide_eq_true_eq, decide_eq_false_iff_not, Bool.not_eq_true', Bool.not_eq_false', beq_iff_eq, beq_eq_false_iff_ne, bne_iff_ne, bne_eq_false_iff_eq] at h) <;> (first | (exfalso; first | omega | exact h trivial) | (conv => whnf))) | (refine .mk _ _ (by first | exact bKey_pc _ | exact cableFault_pc d hd l[k] (hx _ (List.getElem_mem hk))) ?_; conv => whnf) | (refine idx_at _ (by with_reducible rfl) (by first | assumption | omega) ?_; conv => whnf) | ((refine idx_map (k - 1) (by omega) (by rw [wrap_in (by omega) (by omega)]; omega) ?_); conv => whnf) | fail)
    all_goals try simp only [toList_eq'] at *
    all_goals first
      | (have he : lyErr d (decide (k = 0)) (befK Ly.cable l k) l[k] = 5 := by (unfold lyErr; clear hi hF; (try rw [hb (by omega)]); (repeat' split) <;> first | rfl | (exfalso; first | omega | (simp_all [leB, toList_eq']; done) | (simp_all [leB, toList_eq']; omega)))
         have h9 := seq_hit hk hi he (by decide)
         exact fini (by rw [hF, if_pos (by omega)]; exact h9))
      | (have he : lyErr d (decide (k = 0)) (befK Ly.cable l k) l[k] = 7 := by (unfold lyErr; clear hi hF; (try rw [hb (by omega)]); (repeat' split) <;> first | rfl | (exfalso; first | omega | (simp_all [leB, toList_eq']; done) | (simp_all [leB, toList_eq']; omega)))
         have h9 := seq_hit hk hi he (by decide)
         exact fini (by rw [hF, if_pos (by omega)]; exact h9))
      | (have he : lyErr d (decide (k = 0)) (befK Ly.cable l k) l[k] = cabErr d l[k] := by (unfold lyErr; clear hi hF; (try rw [hb (by omega)]); (repeat' split) <;> first | rfl | (exfalso; first | omega | (simp_all [leB, toList_eq']; done) | (simp_all [leB, toList_eq']; omega)))
         have h9 := seq_hit hk hi he (by assumption)
         exact fini (by rw [hF, if_pos (by omega)]; exact h9))
      | skip
    all_goals
      have he : lyErr d (decide (k = 0)) (befK Ly.cable l k) l[k] = 0 := by (unfold lyErr; clear hi hF; (try rw [hb (by omega)]); (repeat' split) <;> first | rfl | assumption | (exfalso; first | omega | (simp_all [leB, toList_eq']; done) | (simp_all [leB, toList_eq']; omega)))
      have hX := (lyErr_ok he).1
      have hxl := hX.len
      have hxm : (l[k].ducts.map encS).length = l[k].ducts.length := List.length_map ..
      have hnx := seq_next' hk hi he
      have hft : (l.take (k + 1)).flatMap Ly.ducts = (l.take k).flatMap Ly.ducts ++ l[k].ducts := by rw [List.take_succ_eq_append_getElem hk, List.flatMap_append, List.flatMap_cons, List.flatMap_nil, List.append_nil]
      generalize (l.take k).flatMap Ly.ducts = A at *
      refine loop_for (l[k].ducts.length) [] [0, 1, 6, 7, 22, 23, 24, 55, 56, 57] (fun j (m' : SM ByteArray Int) => [(7, .c (.bool (manyB (A ++ l[k].ducts.take j)))), (57, .c (.int .i64 (j : Int)))]) (fun j (m' : SM ByteArray Int) => [(0, smO ekS evI m')]) (fun j (m' : SM ByteArray Int) => CntOk m' (A ++ l[k].ducts.take j)) (m) ?_
      conv => whnf
      refine ⟨?_, ?_, ?_, ?_⟩
      · rw [List.take_zero, List.append_nil]; rfl
      · simpa using hm
      · intro j m' hj hm'
        have htj : A ++ l[k].ducts.take (j + 1) = A ++ l[k].ducts.take j ++ [l[k].ducts[j]] := by rw [List.take_succ_eq_append_getElem hj, List.append_assoc]
        have hlen : (A ++ l[k].ducts.take j).count l[k].ducts[j] ≤ 300 * k + 300 := Nat.le_trans List.count_le_length (by rw [List.length_append, List.length_take]; omega)
        have hmp := many_push (A ++ l[k].ducts.take j) l[k].ducts[j]
        rw [← htj] at hmp
        conv => whnf
        repeat' (first | (refine .mk (fun h => ?_) (fun h => ?_) <;> (try simp only [decide_eq_true_eq, decide_eq_false_iff_not, Bool.not_eq_true', Bool.not_eq_false', beq_iff_eq, beq_eq_false_iff_ne, bne_iff_ne, bne_eq_false_iff_eq] at h) <;> (first | (exfalso; first | omega | exact h trivial) | (conv => whnf))) | (refine idx_at _ (by with_reducible rfl) (by first | assumption | omega) ?_; conv => whnf) | ((with_reducible refine sm_look (ek := ekS) (ev := evI) keyStr _ _ ((0 : Int)) ?_ ?_); exact rfl; conv => whnf) | ((with_reducible refine sm_upd (ek := ekS) (ev := evI) keyStr _ _ _ ?_); conv => whnf) | fail)
        all_goals
          generalize hc : (A ++ l[k].ducts.take j).count l[k].ducts[j] = c at *
          have hcm : (m'.get l[k].ducts[j]).getD 0 = (c : Nat) := by rw [hm'.cnt, hc]
          have hw : IntKind.i64.wrap ((m'.get l[k].ducts[j]).getD 0 + 1) = ((c + 1 : Nat) : Int) := by rw [hcm, wrap_in (by omega) (by omega)]; rfl
          have hg : ((m'.put l[k].ducts[j] ((c + 1 : Nat) : Int)).get l[k].ducts[j]).getD 0 = ((c + 1 : Nat) : Int) := by rw [SM.get_put, if_pos rfl]; rfl
          have hdc : decide ((20 : Int) < ((c + 1 : Nat) : Int)) = decide (20 < c + 1) := by rw [decide_eq_decide]; omega
          have hok := hm'.push l[k].ducts[j]
          rw [hc, ← htj] at hok
          rw [hw]
        · exact count_next _ hj (by rw [wrap_succ hj (by omega), hmp, h]; rfl) hok
        · rw [hg, hdc]
          exact count_next _ hj (by rw [wrap_succ hj (by omega), hmp, h]; rfl) hok
      · intro m' hm'
        rw [List.take_length] at *
        conv => whnf
        repeat' (first | (refine .mk (fun h => ?_) (fun h => ?_) <;> (try simp only [decide_eq_true_eq, decide_eq_false_iff_not, Bool.not_eq_true', Bool.not_eq_false', beq_iff_eq, beq_eq_false_iff_ne, bne_iff_ne, bne_eq_false_iff_eq] at h) <;> (first | (exfalso; first | omega | exact h trivial) | (conv => whnf))) | fail)
        exact count_next m' hk (by rw [wrap_succ hk (by omega), hft]; rfl) ⟨by rw [hft]; exact hm', by rw [hft, List.length_append]; omega, hnx⟩
  · intro m ⟨hm, hn, hi⟩
    rw [List.take_length] at *
    have h0 := seq_end hi
    have hall := many_full (lysErr_ok h0).2
    conv => whnf
    repeat' (first | (refine .mk (fun h => ?_) (fun h => ?_) <;> (try simp only [decide_eq_true_eq, decide_eq_false_iff_not, Bool.not_eq_true', Bool.not_eq_false', beq_iff_eq, beq_eq_false_iff_ne, bne_iff_ne, bne_eq_false_iff_eq] at h) <;> (first | (exfalso; first | omega | exact h trivial) | (conv => whnf))) | fail)
    · exact fini (by rw [hF, if_neg (by simp [h0]), if_pos (by rw [← hall]; exact h)])
    · exact fini (by rw [hF, if_neg (by simp [h0]), if_neg (by rw [← hall, h]; decide)])
end Go.Proofs.YtilfcojhdhgmfaaGreatDoor

namespace Go.Proofs.YtilfcojhdhgmfaaGreatDoor
set_option linter.unusedVariables false
set_option linter.unusedSimpArgs false
open Abs

theorem inL_take {l : List Ly} {k : Nat} (h : k < l.length) (key : ByteArray) : inL (l.take (k + 1)) key = inL (l.take k) key ++ (if key ∈ l[k].ducts then [l[k]] else []) := by
  unfold inL
  rw [List.take_succ_eq_append_getElem h, List.filter_append]
  by_cases e : key ∈ l[k].ducts <;> simp [e]
theorem inL_len (l : List Ly) (key : ByteArray) : (inL l key).length ≤ l.length := List.length_filter_le _ _
end Go.Proofs.YtilfcojhdhgmfaaGreatDoor

namespace Go.Proofs.YtilfcojhdhgmfaaGreatDoor
set_option linter.unusedVariables false
set_option linter.unusedSimpArgs false
open Abs

theorem hitS_eq {l : List ByteArray} (h : Rise id l) (t : ByteArray) : hitS t l = decide (t ∈ l) := by
  have hc : ∀ x : ByteArray, ((if ltB x t then (-1 : Int) else if x.toList = t.toList then 0 else 1) < 0 ↔ ltB (id x) t = true) ∧ ((if ltB x t then (-1 : Int) else if x.toList = t.toList then 0 else 1) = 0 ↔ id x = t) := by
    intro x
    by_cases h1 : ltB x t = true
    · simp [h1, ltB_ne h1]
    · by_cases h2 : x = t
      · subst h2; simp [h1]
      · simp [h1, h2, toList_eq']
  have hf := find_rise hc h
  unfold hitS
  generalize hh : hitL (fun x => if ltB x t then (-1 : Int) else if x.toList = t.toList then 0 else 1) l = b at *
  rw [Bool.eq_iff_iff, decide_eq_true_eq]
  cases b with
  | false =>
    constructor
    · intro e; cases e
    · intro ht
      have h1 : (l.find? fun x => decide (id x = t)).isSome := by rw [List.find?_isSome]; exact ⟨t, ht, by simp⟩
      rw [hf] at h1; simp at h1
  | true =>
    refine ⟨fun _ => ?_, fun _ => rfl⟩
    unfold hitL at hh
    split at hh
    · rename_i x hx
      rw [if_pos rfl, hx] at hf
      have h1 := List.find?_some hf
      have h2 := List.mem_of_find?_eq_some hf
      have : x = t := by simpa using h1
      rwa [this] at h2
    · cases hh
theorem binS_ok {l : List ByteArray} (h : Rise id l) (hl : l.length ≤ 1000000) (t : ByteArray) : PCp 219 [.c (.lst 1 (l.map encS)), .c (.str t)] [] (.tup [.c (.int .i64 ((cntS t l : Nat) : Int)), .c (.bool (decide (t ∈ l)))]) [] := by
  rw [← hitS_eq h]
  refine binS_pc t l hl ?_
  intro i j hj hij hlt
  rcases Nat.lt_or_ge i j with h1 | h1
  · exact ltB_trans (h.at h1 hj) hlt
  · have : i = j := by omega
    subst this; exact hlt
set_option maxRecDepth 100000 in
set_option maxHeartbeats 4000000 in
theorem dIn_pc (l : List Ly) (hl : l.length ≤ 1000000) (hx : ∀ x ∈ l, Rise id x.ducts ∧ x.ducts.length ≤ 1000000) (key : ByteArray) : PCp 181 [.c (.lst 3 (l.map encLy)), .c (.str key)] [] (.c (.lst 3 ((inL l key).map encLy))) [] := by
  have hlm : (l.map encLy).length = l.length := List.length_map ..
  refine fn_sound (mt := mts) tab_fits tab_mixed Tryz.func181 (by rfl) (by kernel_rfl) (by kernel_rfl) Tryz.results181 (Nat.le_of_ble_eq_true (by kernel_rfl)) ?_
  conv => whnf
  refine loop_for (l.length) [.sl 5 78 3] [1, 5, 10, 11, 12] (fun k (_ : Unit) => [(12, .c (.int .i64 (k : Int)))]) (fun k (_ : Unit) => [(0, .row 78 3 ((inL (l.take k) key).map encLy))]) (fun k (_ : Unit) => True) (()) ?_
  conv => whnf
  refine ⟨(by first | rfl | (simp; done) | (simp; rfl)), (by trivial), ?_, ?_⟩
  · intro k _ hk _
    have hle := inL_len (l.take k) key
    have hcm : ((inL (l.take k) key).map encLy).length = (inL (l.take k) key).length := List.length_map ..
    have htl : (l.take k).length = k := by rw [List.length_take]; omega
    have ht := inL_take hk key
    obtain ⟨h1, h2⟩ := hx _ (List.getElem_mem hk)
    conv => whnf
    repeat' (first | (refine .mk (fun h => ?_) (fun h => ?_) <;> (try simp only [decide_eq_true_eq, decide_eq_false_iff_not, Bool.not_eq_true', Bool.not_eq_false', beq_iff_eq, beq_eq_false_iff_ne, bne_iff_ne, bne_eq_false_iff_eq] at h) <;> (first | (exfalso; first | omega | exact h trivial) | (conv => whnf))) | (refine .mk _ _ (by exact binS_ok h1 h2 key) ?_; conv => whnf) | (refine .mk (by first | omega | (unfold roomOK; simp [cutRows]; done) | (unfold roomOK; simp [cutRows]; omega) | (simp [cutRows]; done) | (simp [cutRows]; omega)) ?_; conv => whnf) | (refine idx_at _ (by with_reducible rfl) (by first | assumption | omega) ?_; conv => whnf) | fail)
    · rw [if_pos h] at ht
      exact count_next () hk (by rw [wrap_succ hk (by omega), ht, List.map_append]; rfl) trivial
    · rw [if_neg h, List.append_nil] at ht
      exact count_next () hk (by rw [wrap_succ hk (by omega), ht]; rfl) trivial
  · intro _ _
    rw [List.take_length]
    conv => whnf
    repeat' (first | (refine .mk (fun h => ?_) (fun h => ?_) <;> (try simp only [decide_eq_true_eq, decide_eq_false_iff_not, Bool.not_eq_true', Bool.not_eq_false', beq_iff_eq, beq_eq_false_iff_ne, bne_iff_ne, bne_eq_false_iff_eq] at h) <;> (first | (exfalso; first | omega | exact h trivial) | (conv => whnf))) | fail)
    exact .frz 0 _ _ _ rfl (.weak [_] (.fro 0 _ _ rfl) rfl (Nat.le_refl _))
set_option maxRecDepth 100000 in
set_option maxHeartbeats 4000000 in
theorem dOuters_pc (l : List Ly) (hl : l.length ≤ 1000000) (hx : ∀ x ∈ l, Rise id x.ducts ∧ x.ducts.length ≤ 1000000) (key : ByteArray) : PCp 130 [.c (.lst 3 (l.map encLy)), .c (.str key)] [] (.c (.row 0)) [.row 3 1 ((outV l key).map encI)] := by
  have hle := inL_len l key
  refine fn_sound (mt := mts) tab_fits tab_mixed Tryz.func130 (by rfl) (by kernel_rfl) (by kernel_rfl) Tryz.results130 (Nat.le_of_ble_eq_true (by kernel_rfl)) ?_
  conv => whnf
  repeat' (first | (refine .mk _ _ (by exact dIn_pc l hl hx key) ?_; conv => whnf) | fail)
  have hO : outV l key = (inL l key).map Ly.outer := rfl
  rw [hO]
  generalize inL l key = L at *
  have hlm : (L.map encLy).length = L.length := List.length_map ..
  refine loop_for (L.length) [.sl 5 3 1] [5, 10, 11, 12] (fun k (_ : Unit) => [(12, .c (.int .i64 (k : Int)))]) (fun k (_ : Unit) => [(0, .row 3 1 (((L.take k).map Ly.outer).map encI))]) (fun k (_ : Unit) => True) (()) ?_
  conv => whnf
  refine ⟨(by first | rfl | (simp; done) | (simp; rfl)), (by trivial), ?_, ?_⟩
  · intro k _ hk _
    have hcm : (((L.take k).map Ly.outer).map encI).length = (L.take k).length := by simp
    have htl : (L.take k).length = k := by rw [List.length_take]; omega
    conv => whnf
    repeat' (first | (refine .mk (fun h => ?_) (fun h => ?_) <;> (try simp only [decide_eq_true_eq, decide_eq_false_iff_not, Bool.not_eq_true', Bool.not_eq_false', beq_iff_eq, beq_eq_false_iff_ne, bne_iff_ne, bne_eq_false_iff_eq] at h) <;> (first | (exfalso; first | omega | exact h trivial) | (conv => whnf))) | (refine .mk (by first | omega | (unfold roomOK; simp [cutRows]; done) | (unfold roomOK; simp [cutRows]; omega) | (simp [cutRows]; done) | (simp [cutRows]; omega)) ?_; conv => whnf) | (refine idx_at _ (by with_reducible rfl) (by first | assumption | omega) ?_; conv => whnf) | fail)
    exact count_next () hk (by rw [wrap_succ hk (by omega), List.take_succ_eq_append_getElem hk, List.map_append, List.map_append]; rfl) trivial
  · intro _ _
    rw [List.take_length]
    conv => whnf
    repeat' (first | (refine .mk (fun h => ?_) (fun h => ?_) <;> (try simp only [decide_eq_true_eq, decide_eq_false_iff_not, Bool.not_eq_true', Bool.not_eq_false', beq_iff_eq, beq_eq_false_iff_ne, bne_iff_ne, bne_eq_false_iff_eq] at h) <;> (first | (exfalso; first | omega | exact h trivial) | (conv => whnf))) | fail)
    exact .mk ⟨rfl, rfl⟩
end Go.Proofs.YtilfcojhdhgmfaaGreatDoor

namespace Go.Proofs.YtilfcojhdhgmfaaGreatDoor
set_option linter.unusedVariables false
set_option linter.unusedSimpArgs false
open Abs

def oneE (d : List Du) (l : List Ly) (k : ByteArray) : Int := if lyFault d l ≠ 0 then lyFault d l else if hasD d k then 0 else 8
def duV (d : List Du) (l : List Ly) (k : ByteArray) : Du := if oneE d l k = 0 then duG d k else du0
theorem oneE_ok {d : List Du} {l : List Ly} {k : ByteArray} (h : oneE d l k = 0) : LyOk d l ∧ hasD d k = true ∧ lyFault d l = 0 := by
  unfold oneE at h
  split at h
  · exact absurd h (by assumption)
  · split at h
    · rename_i h1 h2; exact ⟨lyFault_ok (by omega), h2, by omega⟩
    · omega
theorem LyOk.rl {d : List Du} {l : List Ly} (h : LyOk d l) : ∀ x ∈ l, Rise id x.ducts ∧ x.ducts.length ≤ 1000000 := fun x hx => ⟨(h.each x hx).rise, by have := (h.each x hx).len; omega⟩
theorem LyOk.o1000 {d : List Du} {l : List Ly} (h : LyOk d l) (k : ByteArray) : ∀ x ∈ outV l k, 0 ≤ x ∧ x ≤ 1000 := by
  intro x hx
  obtain ⟨y, hy, rfl⟩ := List.mem_map.1 hx
  have := (h.each y (List.mem_filter.1 hy).1).out
  omega
theorem outV_len (l : List Ly) (k : ByteArray) : (outV l k).length = (inL l k).length := List.length_map ..
theorem LyOk.out20 {d : List Du} {l : List Ly} (h : LyOk d l) {k : ByteArray} (hk : hasD d k = true) : (outV l k).length ≤ 20 := by
  obtain ⟨x, hx, rfl⟩ := hasD_iff.1 hk
  rw [outV_len]; exact h.few x hx
theorem duG_in {d : List Du} (h : DuOk d) {k : ByteArray} (hk : hasD d k = true) : duG d k ∈ d ∧ (duG d k).key = k := by
  obtain ⟨x, hx, rfl⟩ := hasD_iff.1 hk
  rw [duG_mem h hx]; exact ⟨hx, rfl⟩
set_option maxRecDepth 100000 in
set_option maxHeartbeats 4000000 in
theorem ductOf_pc (d : List Du) (l : List Ly) (hx : ∀ x ∈ l, x.ducts.length ≤ 1000000) (k : ByteArray) : PCp 127 [.c (.lst 5 (d.map encDu)), .c (.lst 3 (l.map encLy)), .c (.str k)] [] (.tup [.agg (encDu (duV d l k)), .c (.int .i64 (oneE d l k))]) [] := by
  refine fn_sound (mt := mts) tab_fits tab_mixed Tryz.func127 (by rfl) (by kernel_rfl) (by kernel_rfl) Tryz.results127 (Nat.le_of_ble_eq_true (by kernel_rfl)) ?_
  conv => whnf
  repeat' (first | (refine .mk (fun h => ?_) (fun h => ?_) <;> (try simp only [decide_eq_true_eq, decide_eq_false_iff_not, Bool.not_eq_true', Bool.not_eq_false', beq_iff_eq, beq_eq_false_iff_ne, bne_iff_ne, bne_eq_false_iff_eq] at h) <;> (first | (exfalso; first | omega | exact h trivial) | (conv => whnf))) | (refine .mk _ _ (by exact checkLying_pc d l hx) ?_; conv => whnf) | fail)
  · have h1 : oneE d l k = lyFault d l := by rw [oneE, if_pos h]
    exact .mk ⟨by rw [duV, h1, if_neg h]; rfl, rfl⟩
  have hok := lyFault_ok h
  repeat' (first | (refine .mk (fun h => ?_) (fun h => ?_) <;> (try simp only [decide_eq_true_eq, decide_eq_false_iff_not, Bool.not_eq_true', Bool.not_eq_false', beq_iff_eq, beq_eq_false_iff_ne, bne_iff_ne, bne_eq_false_iff_eq] at h) <;> (first | (exfalso; first | omega | exact h trivial) | (conv => whnf))) | (refine .mk _ _ (by exact find_pc d hok.du k) ?_; conv => whnf) | fail)
  · have h1 : oneE d l k = 8 := by rw [oneE, if_neg (by omega), if_neg (by rw [h]; decide)]
    exact .mk ⟨by rw [duV, h1, if_neg (by decide)]; rfl, rfl⟩
  · have h1 : oneE d l k = 0 := by rw [oneE, if_neg (by omega), if_pos h]
    exact .mk ⟨by rw [duV, h1, if_pos rfl]; rfl, rfl⟩
end Go.Proofs.YtilfcojhdhgmfaaGreatDoor

namespace Go.Proofs.YtilfcojhdhgmfaaGreatDoor
set_option linter.unusedVariables false
set_option linter.unusedSimpArgs false
open Abs

set_option maxRecDepth 100000 in
set_option maxHeartbeats 4000000 in
theorem dOuterFault_pc (n : Int) : PCp 128 [.c (.int .i64 n)] [] (.c (.int .i64 (if n < 1 ∨ 1000 < n then 1 else 0))) [] := by
  refine fn_sound (mt := mts) tab_fits tab_mixed Tryz.func128 (by rfl) (by kernel_rfl) (by kernel_rfl) Tryz.results128 (Nat.le_of_ble_eq_true (by kernel_rfl)) ?_
  conv => whnf
  repeat' (first | (refine .mk (fun h => ?_) (fun h => ?_) <;> (try simp only [decide_eq_true_eq, decide_eq_false_iff_not, Bool.not_eq_true', Bool.not_eq_false', beq_iff_eq, beq_eq_false_iff_ne, bne_iff_ne, bne_eq_false_iff_eq] at h) <;> (first | (exfalso; first | omega | exact h trivial) | (conv => whnf))) | (refine .mk _ _ (by exact bOut_pc _ _ _) ?_; conv => whnf) | fail)
  all_goals exact fini (by simp_all <;> omega)
set_option maxRecDepth 100000 in
set_option maxHeartbeats 4000000 in
theorem ixIK_pc (key : Int) (g : Nat) (p : Int → Bool) (l : List Int) (hl : l.length ≤ 1000000) (hg : ∀ x ∈ l, PCp g [.c (.int .i64 x), .c (.ptr 0 0)] [.box [.int .i64 key]] (.c (.bool (p x))) [.box [.int .i64 key]]) : PCp 259 [.c (.lst 1 (l.map encI)), .c (.fn g [.ptr 0 0])] [.box [.int .i64 key]] (.c (.int .i64 (idxP p l))) [.box [.int .i64 key]] := by
  have hlm : (l.map encI).length = l.length := List.length_map ..
  refine fn_sound (mt := mts) tab_fits tab_mixed Tryz.func259 (by rfl) (by kernel_rfl) (by kernel_rfl) Tryz.results259 (Nat.le_of_ble_eq_true (by kernel_rfl)) ?_
  conv => whnf
  refine loop_count (l.length) [] [0, 1, 7, 8] (fun k (_ : Unit) => ⟨[(0, .c (.lst 1 (l.map encI))), (1, .c (.fn g [.ptr 0 0])), (7, .c (.int .i64 (l.map encI).length)), (8, .c (.int .i64 k))], [(0, .box [.int .i64 key])], 1⟩) (fun k (_ : Unit) => ∀ i (hi : i < l.length), i < k → p l[i] = false) (()) ?_ ?_ ?_
  · conv => whnf
    exact ⟨rfl, by intro i hi h; omega⟩
  · intro k _ hk hi
    conv => whnf
    repeat' (first | (refine .mk (fun h => ?_) (fun h => ?_) <;> (try simp only [decide_eq_true_eq, decide_eq_false_iff_not, Bool.not_eq_true', Bool.not_eq_false', beq_iff_eq, beq_eq_false_iff_ne, bne_iff_ne, bne_eq_false_iff_eq] at h) <;> (first | (exfalso; first | omega | exact h trivial) | (conv => whnf))) | (refine .mk _ _ (by exact hg l[k] (List.getElem_mem hk)) ?_; conv => whnf) | (refine idx_at _ (by with_reducible rfl) (by first | assumption | omega) ?_; conv => whnf) | fail)
    · exact .mk ⟨by rw [idxP_hit hk (fun i hi' => hi i (by omega) hi') h]; rfl, rfl⟩
    · refine count_next () hk (by rw [wrap_succ hk (by omega)]; rfl) ?_
      exact all_succ' hi h
  · intro _ hi
    conv => whnf
    repeat' (first | (refine .mk (fun h => ?_) (fun h => ?_) <;> (try simp only [decide_eq_true_eq, decide_eq_false_iff_not, Bool.not_eq_true', Bool.not_eq_false', beq_iff_eq, beq_eq_false_iff_ne] at h) <;> (first | (exfalso; first | omega | exact h trivial) | (conv => whnf))) | fail)
    exact .mk ⟨by rw [idxP_miss (fun i h => hi i h h)]; rfl, rfl⟩
set_option maxRecDepth 100000 in
set_option maxHeartbeats 4000000 in
theorem ixIKC_pc (key : Int) (g : Nat) (p : Int → Bool) (l : List Int) (hl : l.length ≤ 1000000) (hg : ∀ x ∈ l, PCp g [.c (.int .i64 x), .c (.ptr 0 0)] [.box [.int .i64 key]] (.c (.bool (p x))) [.box [.int .i64 key]]) : PCp 225 [.c (.lst 1 (l.map encI)), .c (.fn g [.ptr 0 0])] [.box [.int .i64 key]] (.c (.bool (l.any p))) [.box [.int .i64 key]] := by
  refine fn_sound (mt := mts) tab_fits tab_mixed Tryz.func225 (by rfl) (by kernel_rfl) (by kernel_rfl) Tryz.results225 (Nat.le_of_ble_eq_true (by kernel_rfl)) ?_
  conv => whnf
  repeat' (first | (refine .mk _ _ (by exact ixIK_pc key g p l hl hg) ?_; conv => whnf) | fail)
  exact .mk ⟨by rw [← idxP_any]; rfl, rfl⟩
set_option maxRecDepth 100000 in
set_option maxHeartbeats 4000000 in
theorem room1_pc (n inner : Int) : PCp 226 [.c (.int .i64 n), .c (.ptr 0 0)] [.box [.int .i64 inner]] (.c (.bool (decide (inner < n)))) [.box [.int .i64 inner]] := by
  refine fn_sound (mt := mts) tab_fits tab_mixed Tryz.func226 (by rfl) (by kernel_rfl) (by kernel_rfl) Tryz.results226 (Nat.le_of_ble_eq_true (by kernel_rfl)) ?_
  conv => whnf
  skip
  exact .mk ⟨rfl, rfl⟩
set_option maxRecDepth 100000 in
set_option maxHeartbeats 4000000 in
theorem part_pc (n : Nat) : PCp 224 [.c (.int .i64 (n : Int))] [] (.c (.int .i64 (partV n))) [] := by
  refine fn_sound (mt := mts) tab_fits tab_mixed Tryz.func224 (by rfl) (by kernel_rfl) (by kernel_rfl) Tryz.results224 (Nat.le_of_ble_eq_true (by kernel_rfl)) ?_
  conv => whnf
  repeat' (first | (refine .mk (fun h => ?_) (fun h => ?_) <;> (try simp only [decide_eq_true_eq, decide_eq_false_iff_not, Bool.not_eq_true', Bool.not_eq_false', beq_iff_eq, beq_eq_false_iff_ne, bne_iff_ne, bne_eq_false_iff_eq] at h) <;> (first | (exfalso; first | omega | exact h trivial) | (conv => whnf))) | fail)
  all_goals refine fini ?_
  all_goals unfold partV
  all_goals repeat' split
  all_goals omega
theorem partV_in (n : Nat) : 31 ≤ partV n ∧ partV n ≤ 53 := by
  unfold partV
  repeat' split
  all_goals omega
theorem room_w {inner : Int} {l : List Int} (hi : 1 ≤ inner ∧ inner ≤ 1000) (hl : l.length ≤ 100000) (ho : ∀ x ∈ l, 0 ≤ x ∧ x ≤ 1000) : IntKind.i64.wrap (100 * sqV l) = 100 * sqV l ∧ IntKind.i64.wrap (IntKind.i64.wrap (partV l.length * inner) * inner) = partV l.length * inner * inner ∧ 0 ≤ partV l.length * inner * inner := by
  have h1 := sq_in ho
  have h2 := partV_in l.length
  have h3 : 0 ≤ partV l.length * inner := Int.mul_nonneg (by omega) (by omega)
  have h4 : partV l.length * inner ≤ 53 * 1000 := Int.mul_le_mul (by omega) (by omega) (by omega) (by omega)
  have h5 : 0 ≤ partV l.length * inner * inner := Int.mul_nonneg h3 (by omega)
  have h6 : partV l.length * inner * inner ≤ 53000 * 1000 := Int.mul_le_mul (by omega) (by omega) (by omega) (by omega)
  refine ⟨wrap_in (by omega) (by omega), ?_, h5⟩
  rw [wrap_in (x := partV l.length * inner) (by omega) (by omega), wrap_in (by omega) (by omega)]
set_option maxRecDepth 100000 in
set_option maxHeartbeats 4000000 in
theorem dRoom_pc (inner : Int) (l : List Int) (hi : 1 ≤ inner ∧ inner ≤ 1000) (hl : l.length ≤ 100000) (ho : ∀ x ∈ l, 0 ≤ x ∧ x ≤ 1000) : PCp 180 [.c (.int .i64 inner), .c (.lst 1 (l.map encI))] [] (.c (.bool (roomB inner l))) [] := by
  have hlm : (l.map encI).length = l.length := List.length_map ..
  obtain ⟨w1, w2, _⟩ := room_w hi hl ho
  refine fn_sound (mt := mts) tab_fits tab_mixed Tryz.func180 (by rfl) (by kernel_rfl) (by kernel_rfl) Tryz.results180 (Nat.le_of_ble_eq_true (by kernel_rfl)) ?_
  conv => whnf
  repeat' (first | (refine .mk (fun h => ?_) (fun h => ?_) <;> (try simp only [decide_eq_true_eq, decide_eq_false_iff_not, Bool.not_eq_true', Bool.not_eq_false', beq_iff_eq, beq_eq_false_iff_ne, bne_iff_ne, bne_eq_false_iff_eq] at h) <;> (first | (exfalso; first | omega | exact h trivial) | (conv => whnf))) | (refine .mk _ _ (by first | exact dSquares_pc l ho (by omega) | exact (by rw [hlm]; exact part_pc l.length) | exact ixIKC_pc inner 226 (fun n => decide (inner < n)) l (by omega) (fun x _ => room1_pc x inner)) ?_; conv => whnf) | fail)
  all_goals rw [w1, w2] at *
  · refine finb ?_
    unfold roomB; rw [decide_eq_true h, Bool.true_and]
  · refine finb ?_
    unfold roomB; rw [decide_eq_false h, Bool.false_and]
set_option maxRecDepth 100000 in
set_option maxHeartbeats 4000000 in
theorem dMost_pc (x : Du) (all : List Int) (outer : Int) (hi : 1 ≤ x.inner ∧ x.inner ≤ 1000) (hl : all.length ≤ 20) (ho : ∀ y ∈ all, 0 ≤ y ∧ y ≤ 1000) (hq : 0 ≤ outer ∧ outer ≤ 1000) : PCp 129 [.agg (encDu x), .c (.lst 1 (all.map encI)), .c (.int .i64 outer)] [] (.c (.int .i64 (mostV x.inner all outer (20 - all.length) : Nat))) [] := by
  have hlm : (all.map encI).length = all.length := List.length_map ..
  have hin : ∀ n, ∀ y ∈ all ++ List.replicate n outer, 0 ≤ y ∧ y ≤ 1000 := by
    intro n y hy
    rcases List.mem_append.1 hy with h | h
    · exact ho y h
    · rw [(List.mem_replicate.1 h).2]; exact hq
  have hw : IntKind.i64.wrap (20 - ((all.map encI).length : Nat)) = ((20 - all.length : Nat) : Int) := by rw [hlm, wrap_in (by omega) (by omega)]; omega
  refine fn_sound (mt := mts) tab_fits tab_mixed Tryz.func129 (by rfl) (by kernel_rfl) (by kernel_rfl) Tryz.results129 (Nat.le_of_ble_eq_true (by kernel_rfl)) ?_
  conv => whnf
  rw [hw]
  refine loop_while (fun (n : Nat) => n) [] [1, 2, 3, 7] (fun (n : Nat) => [(7, .c (.int .i64 (n : Int)))]) (fun (n : Nat) => []) (fun (n : Nat) => n ≤ 20 - all.length ∧ mostV x.inner all outer n = mostV x.inner all outer (20 - all.length)) (20 - all.length) ?_
  conv => whnf
  refine ⟨(by first | rfl | (simp; done) | (simp; rfl)), ?_, ?_⟩
  · exact ⟨Nat.le_refl _, rfl⟩
  · intro n ⟨h1, h2⟩
    conv => whnf
    repeat' (first | (refine .mk (fun h => ?_) (fun h => ?_) <;> (try simp only [decide_eq_true_eq, decide_eq_false_iff_not, Bool.not_eq_true', Bool.not_eq_false', beq_iff_eq, beq_eq_false_iff_ne, bne_iff_ne, bne_eq_false_iff_eq] at h) <;> (first | (exfalso; first | omega | exact h trivial) | (conv => whnf))) | (refine .mk _ _ (by exact cloneI_pc all (by omega)) ?_; conv => whnf) | fail)
    · obtain ⟨m, rfl⟩ : ∃ m, n = m + 1 := ⟨n - 1, by omega⟩
      have hlr : ∀ k, k ≤ m + 1 → (all ++ List.replicate k outer).length ≤ 100 := by intro k hk; simp; omega
      refine loop_for (m + 1) [] [1, 2, 3, 7, 8, 18, 19] (fun k (_ : Unit) => [(19, .c (.int .i64 (k : Int)))]) (fun k (_ : Unit) => [(1, .row 3 1 ((all ++ List.replicate k outer).map encI))]) (fun k (_ : Unit) => True) (()) ?_
      conv => whnf
      refine ⟨(by first | rfl | (simp; done) | (simp; rfl)), (by trivial), ?_, ?_⟩
      · intro k _ hk _
        have h3 := hlr k (by omega)
        have h4 : ((all ++ List.replicate k outer).map encI).length ≤ 100 := by rw [List.length_map]; exact h3
        conv => whnf
        repeat' (first | (refine .mk (fun h => ?_) (fun h => ?_) <;> (try simp only [decide_eq_true_eq, decide_eq_false_iff_not, Bool.not_eq_true', Bool.not_eq_false', beq_iff_eq, beq_eq_false_iff_ne, bne_iff_ne, bne_eq_false_iff_eq] at h) <;> (first | (exfalso; first | omega | exact h trivial) | (conv => whnf))) | (refine .mk (by first | omega | (unfold roomOK; simp [cutRows]; done) | (unfold roomOK; simp [cutRows]; omega) | (simp [cutRows]; done) | (simp [cutRows]; omega)) ?_; conv => whnf) | fail)
        exact count_next () hk (by rw [wrap_succ hk (by omega), List.replicate_succ', ← List.append_assoc, List.map_append (l₁ := all ++ List.replicate k outer)]; rfl) trivial
      · intro _ _
        have h3 := hlr (m + 1) (by omega)
        have hR := dRoom_pc x.inner (all ++ List.replicate (m + 1) outer) hi (by omega) (hin _)
        conv => whnf
        repeat' (first | (refine .mk (fun h => ?_) (fun h => ?_) <;> (try simp only [decide_eq_true_eq, decide_eq_false_iff_not, Bool.not_eq_true', Bool.not_eq_false', beq_iff_eq, beq_eq_false_iff_ne, bne_iff_ne, bne_eq_false_iff_eq] at h) <;> (first | (exfalso; first | omega | exact h trivial) | (conv => whnf))) | (refine .mk _ _ (by exact hR) ?_; conv => whnf) | fail)
        · exact fini (by rw [← h2, mostV, if_pos h])
        · exact meas_next m (by omega) (by rw [show IntKind.i64.wrap (((m + 1 : Nat) : Int) - 1) = (m : Int) by rw [wrap_in (by omega) (by omega)]; omega]; rfl) ⟨by omega, by rw [← h2, mostV, if_neg (by rw [h]; decide)]⟩
    · have : n = 0 := by omega
      subst this
      exact fini (by rw [← h2]; rfl)
def twoE (d : List Du) (l : List Ly) (k : ByteArray) (outer : Int) : Int := if oneE d l k ≠ 0 then oneE d l k else if outer < 1 ∨ 1000 < outer then 1 else 0
theorem twoE_ok {d : List Du} {l : List Ly} {k : ByteArray} {outer : Int} (h : twoE d l k outer = 0) : oneE d l k = 0 ∧ 0 ≤ outer ∧ outer ≤ 1000 ∧ duV d l k = duG d k := by
  unfold twoE at h
  split at h
  · exact absurd h (by assumption)
  · split at h
    · omega
    · have h1 : oneE d l k = 0 := by omega
      exact ⟨h1, by omega, by omega, by rw [duV, if_pos h1]⟩
theorem twoE_first (d : List Du) (l : List Ly) (k : ByteArray) (outer : Int) : firstErr [oneE d l k, if outer < 1 ∨ 1000 < outer then 1 else 0] = twoE d l k outer := by
  unfold twoE firstErr firstErr firstErr
  repeat' split
  all_goals omega
def mostX (d : List Du) (l : List Ly) (k : ByteArray) (outer : Int) : Nat := if twoE d l k outer = 0 then mostV (duG d k).inner (outV l k) outer (20 - (outV l k).length) else 0
set_option maxRecDepth 100000 in
set_option maxHeartbeats 4000000 in
theorem dMostX_pc (d : List Du) (l : List Ly) (hx : ∀ x ∈ l, x.ducts.length ≤ 1000000) (k : ByteArray) (outer : Int) : PCp 61 [.c (.lst 5 (d.map encDu)), .c (.lst 3 (l.map encLy)), .c (.str k), .c (.int .i64 outer)] [] (.tup [.c (.int .i64 (mostX d l k outer : Nat)), .c (.int .i64 (twoE d l k outer))]) [] := by
  refine fn_sound (mt := mts) tab_fits tab_mixed Tryz.func61 (by rfl) (by kernel_rfl) (by kernel_rfl) Tryz.results61 (Nat.le_of_ble_eq_true (by kernel_rfl)) ?_
  conv => whnf
  repeat' (first | (refine .mk (fun h => ?_) (fun h => ?_) <;> (try simp only [decide_eq_true_eq, decide_eq_false_iff_not, Bool.not_eq_true', Bool.not_eq_false', beq_iff_eq, beq_eq_false_iff_ne, bne_iff_ne, bne_eq_false_iff_eq] at h) <;> (first | (exfalso; first | omega | exact h trivial) | (conv => whnf))) | (refine .mk _ _ (by first | exact ductOf_pc d l hx k | exact dOuterFault_pc outer | exact first_pc [oneE d l k, if outer < 1 ∨ 1000 < outer then 1 else 0] (by simp)) ?_; conv => whnf) | fail)
  all_goals rw [twoE_first] at *
  · exact .mk ⟨by rw [mostX, if_neg h]; rfl, rfl⟩
  have h : twoE d l k outer = 0 := by simpa using h
  obtain ⟨h1, h2, h3, h4⟩ := twoE_ok h
  obtain ⟨hok, hk, hf⟩ := oneE_ok h1
  obtain ⟨hm, _⟩ := duG_in hok.du hk
  have hi := hok.du.each _ hm
  have hll := hok.len
  rw [h4]
  repeat' (first | (refine .mk _ _ (by first | exact dOuters_pc l (by omega) hok.rl k | exact dMost_pc (duG d k) (outV l k) outer (by omega) (hok.out20 hk) (hok.o1000 k) ⟨h2, h3⟩) ?_; conv => whnf) | fail)
  exact .mk ⟨by rw [mostX, if_pos h, h]; rfl, rfl⟩
end Go.Proofs.YtilfcojhdhgmfaaGreatDoor

namespace Go.Proofs.YtilfcojhdhgmfaaGreatDoor
set_option linter.unusedVariables false
set_option linter.unusedSimpArgs false
open Go.Shelf Go.Sort Go.RowKit
namespace Abs
theorem bytesLess_dec : ∀ (x y : List UInt8), Op.bytesLess x y = decide (x < y)
  | [], [] => by simp [Op.bytesLess]
  | _ :: _, [] => by simp [Op.bytesLess]
  | [], _ :: _ => by simp [Op.bytesLess]
  | a :: x, b :: y => by
    rw [Op.bytesLess, bytesLess_dec x y]
    simp only [List.cons_lt_cons_iff]
    by_cases h1 : a < b <;> by_cases h2 : a = b <;> by_cases h3 : x < y <;> simp [h1, h2, h3]
theorem le_ltL {x y : List UInt8} : decide (x ≤ y) = !Op.bytesLess y x := by
  rw [bytesLess_dec, Bool.eq_iff_iff]
  simp only [decide_eq_true_eq, Bool.not_eq_true', decide_eq_false_iff_not]
  exact Iff.rfl
def unS (x : List UInt8) : ByteArray := ⟨x.toArray⟩
theorem unS_list (x : List UInt8) : (unS x).toList = x := by rw [ByteArray.toList_eq]; rfl
theorem unS_data (b : ByteArray) : unS b.data.toList = b := by cases b; rfl
theorem mergeS_eq (l : List ByteArray) : (((l.map fun b => b.data.toList).mergeSort fun x y => decide (x ≤ y)).map unS) = insSort cmpS l := by
  have hp : (((l.map fun b => b.data.toList).mergeSort fun x y => decide (x ≤ y)).map unS).Perm l := by
    have h1 := (List.mergeSort_perm (l.map fun b => b.data.toList) (fun x y => decide (x ≤ y))).map unS
    rw [List.map_map] at h1
    have h2 : l.map (unS ∘ fun b => b.data.toList) = l := by
      conv => rhs; rw [← List.map_id l]
      apply List.map_congr_left
      intro x _
      exact unS_data x
    rwa [h2] at h1
  have hs := List.pairwise_mergeSort (le := fun x y : List UInt8 => decide (x ≤ y)) (by
    intro a b c h1 h2
    rw [le_ltL] at *
    simp only [Bool.not_eq_true'] at *
    rcases ltL_tri c a with h3 | h3 | h3
    · rcases ltL_tri b c with h4 | h4 | h4
      · rw [ltL_trans h4 h3] at h1; cases h1
      · subst h4; rw [h3] at h1; cases h1
      · rw [h4] at h2; cases h2
    · subst h3; exact ltL_irr _
    · cases h5 : Op.bytesLess c a with
      | false => rfl
      | true => have := ltL_trans h3 h5; rw [ltL_irr] at this; cases this) (by
    intro a b
    rw [le_ltL, le_ltL]
    rcases ltL_tri a b with h3 | h3 | h3
    · cases h5 : Op.bytesLess b a with
      | false => rfl
      | true => have := ltL_trans h3 h5; rw [ltL_irr] at this; cases this
    · subst h3; rw [ltL_irr]; rfl
    · cases h5 : Op.bytesLess a b with
      | false => simp
      | true => have := ltL_trans h3 h5; rw [ltL_irr] at this; cases this) (l.map fun b => b.data.toList)
  refine sorted_one (c := cmpS) (swo_key id) ?_ (hp.trans (insSort_perm cmpS l).symm) ?_ (insSort_srt (swo_key id) l)
  · intro x y h1 h2
    rw [cmp_lt] at h1 h2
    rcases ltB_tri x y with h | h | h
    · exact (h1 h).elim
    · exact h
    · exact (h2 h).elim
  · rw [List.pairwise_map]
    refine hs.imp ?_
    intro x y h
    rw [le_ltL] at h
    rw [cmp_lt]
    unfold ltB
    rw [unS_list, unS_list]
    simpa using h
variable {P : Program} {ρ : Ren}
theorem strs_flat (l : List ByteArray) : (l.map encS).flatten = l.map V.str := by
  induction l with
  | nil => rfl
  | cons a r ih => rw [List.map_cons, List.flatten_cons, ih]; rfl
theorem sortS_any (L : Lays.n190 P ρ) (hb : ∃ fn, P.funcs[ρ.f 190]? = some fn ∧ (fn.name == "runtime.NumGoroutine") = false ∧ fn.body.isNone = false) (e : Nat) (l : List ByteArray) (hl : l.length < 1000000000000) :
    PCs P (ρ.f 190) [.c (.row 0)] [.row e 1 (l.map encS)] (.tup []) [.row e 1 ((insSort cmpS l).map encS)] := by
  refine ⟨hb, fun F φ w cargs hargs hobj hφ => ?_⟩
  obtain ⟨c0, cs1, e1, r0, hargs⟩ := hargs.cons_inv
  have e3 := hargs.nil_inv
  subst e3
  have hφ0 : φ 0 = some c0 := by
    cases r0 with | c h => cases h with
      | tree h => cases h
      | row _ _ h => exact h
  have hca : cargs = #[c0] := Array.ext' e1
  subst hca
  have hob : nth [Ob.row e 1 (l.map encS)] 0 = some (.row e 1 (l.map encS)) := rfl
  have ho := hobj.objs 0 _ hob
  have zero : ∀ (p : Option Addr) (cap : Nat), l = [] → c0 = .slice p 0 cap → Calls P (ρ.f 190) #[c0] w fun ee w' => ∃ cc F' φ' r objs', (one (.tup []) [.row e 1 ((insSort cmpS l).map encS)]) r objs' ∧ ee = .returned cc ∧ RS F' φ' w' cc r ∧ Nx F φ w (nth [Ob.row e 1 (l.map encS)]) (fun l_1 => [Ob.row e 1 (l.map encS)].length ≤ l_1) (chOf 0 objs') F' φ' w' := by
    intro p cap h0 hc0
    subst h0 hc0
    refine (Any.slices_Sort_string_none L p cap w).mono ?_
    rintro ee w' ⟨rfl, rfl⟩
    exact ⟨.tuple #[], F, φ, .tup [], [.row e 1 []], ⟨rfl, rfl⟩, rfl, .tup _ _ rfl (fun j c x h => by simp at h), Nx.same hobj⟩
  rcases ho with ⟨cv, xs, h1, h2, ⟨⟨hxl, hown⟩, hroomy⟩, h4, h5⟩ | ⟨h0, p, h1⟩
  · rw [hφ0] at h1; cases h1
    rcases hown with ⟨hv, hn0⟩ | ⟨gb, cap, cur, hv, _, hh, hcap, hmx, hcs, htk⟩
    · exact zero none 0 (by simpa using hn0) hv
    · rcases Nat.eq_zero_or_pos l.length with hn | hn
      · exact zero (some ⟨gb, 0, none⟩) cap (List.length_eq_zero_iff.1 hn) (by rw [hv]; simp [hn])
      · subst hv
        simp only [List.length_map, Nat.mul_one] at *
        have hFb : ¬ F gb := h2 gb (by cases cap with | zero => omega | succ => rfl)
        have hxs : xs = l.map fun b => Value.string b := by
          rw [strs_flat] at h4
          apply List.ext_getElem?
          intro j
          by_cases hj : j < l.length
          · have q1 : xs[j]? = some xs[j] := List.getElem?_eq_getElem (by rw [hxl]; exact hj)
            have q2 : (l.map V.str)[j]? = some (.str l[j]) := by simp [hj]
            have q3 := h4.2 j _ _ q1 q2
            rw [q1]
            have q4 : xs[j] = Value.string l[j] := by
              generalize xs[j] = z at q3
              cases q3; rfl
            rw [q4]; simp [hj]
          · rw [List.getElem?_eq_none (by omega), List.getElem?_eq_none (by simp; omega)]
        have hcell : ∀ j (hj : j < l.length), cur[j]? = some (Value.string l[j]) := by
          intro j hj
          have q1 : (cur.toList.take l.length)[j]? = xs[j]? := by rw [htk]
          rw [List.getElem?_take, if_pos hj, Array.getElem?_toList] at q1
          rw [q1, hxs]; simp [hj]
        let ss : List (List UInt8) := l.map fun b => b.data.toList
        have hss : ss.length = l.length := by simp [ss]
        have hH : Holds encStr w gb 0 ss.toArray := by
          intro j hj
          have hj' : j < l.length := by simpa [ss] using hj
          have hg : (ss.toArray)[j]! = l[j].data.toList := by
            rw [getElem!_pos _ j hj]; simp [ss]
          refine ⟨?_, ?_⟩
          · rw [hg]
            simp only [World.cell?, hh, Nat.zero_add, Option.isSome_none, Bool.false_eq_true, if_false, hcell j hj', encStr]
          · simp [World.frozen?, hh]
        have hblk : gb < w.heap.size := lt_heap hh
        have hS := Any.slices_Sort_string L gb 0 cap ss w hH hblk (by rw [hss]; omega)
        rw [hss] at hS
        refine hS.mono ?_
        rintro ee w' ⟨rfl, m, os, rfl⟩
        have hS2 := mergeS_eq l
        generalize hM : (ss.mergeSort fun x y => decide (x ≤ y)) = M at *
        have hM' : M.map unS = insSort cmpS l := by rw [← hS2]
        have hMl : M.length = l.length := by rw [← hM, List.length_mergeSort, hss]
        have hheap : ∀ b, b < w.heap.size → (grow (putRow encStr (Sort.ahead w m) gb 0 M.toArray) os).heap[b]? = if b = gb then some (.cells (putCells encStr 0 M.toArray cur) e (0, 0)) else w.heap[b]? := by
          intro b hb
          unfold grow putRow mapBlock Sort.ahead
          simp only
          rw [Array.getElem?_append_left (by simpa using hb), Array.getElem?_modify]
          by_cases e4 : gb = b
          · subst e4; rw [if_pos rfl, if_pos rfl, hh]; rfl
          · rw [if_neg e4, if_neg (fun h => e4 h.symm)]
        have hsize : w.heap.size ≤ (grow (putRow encStr (Sort.ahead w m) gb 0 M.toArray) os).heap.size := by
          unfold grow putRow mapBlock Sort.ahead
          simp
        have hil := insSort_len cmpS l
        have hro : RO F φ (grow (putRow encStr (Sort.ahead w m) gb 0 M.toArray) os) 0 (.row e 1 ((insSort cmpS l).map encS)) := by
          refine RO.mkrow (xs := (insSort cmpS l).map Value.string) hφ0 h2 ⟨?_, .inr ⟨gb, cap, putCells encStr 0 M.toArray cur, ?_, Nat.zero_le _, ?_, ?_, hmx, ?_, ?_⟩⟩ ?_ ?_
          · simp
          · simp [hil]
          · rw [hheap gb hblk, if_pos rfl]
          · simpa [hil] using hcap
          · simp [putCells, hcs]
          · apply List.ext_getElem?
            intro j
            rw [List.getElem?_take]
            by_cases hj : j < l.length
            · have hjc : j < cur.size := by rw [hcs]; omega
              rw [if_pos (by simpa [hil] using hj)]
              have hMj : j < M.length := by omega
              have hIj : j < (insSort cmpS l).length := by omega
              have q1 : (insSort cmpS l)[j] = unS M[j] := by simp [← hM']
              simp only [putCells, Array.getElem?_toList, Array.getElem?_mapIdx, Array.getElem?_eq_getElem hjc, Option.map_some, Nat.zero_le, true_and, Nat.zero_add, Nat.sub_zero, List.getElem?_map, List.getElem?_eq_getElem hIj]
              rw [if_pos (by simpa using hMj), q1, getElem!_pos _ _ (by simpa using hMj)]
              simp [encStr, unS]
            · rw [if_neg (by simpa [hil] using hj), List.getElem?_eq_none (by simp [hil]; omega)]
          · rw [strs_flat]
            refine ⟨by simp, fun j x y hx hy => ?_⟩
            rw [List.getElem?_map] at hx hy
            cases hz : (insSort cmpS l)[j]? with
            | none => rw [hz] at hx; cases hx
            | some z => rw [hz] at hx hy; cases hx; cases hy; exact .str z
          · intro r hr; obtain ⟨x, _, rfl⟩ := List.mem_map.1 hr; rfl
        have hone1 : ∀ l2 o, chGet (chOf 0 [Ob.row e 1 ((insSort cmpS l).map encS)]) l2 = some o → l2 = 0 ∧ o = .row e 1 ((insSort cmpS l).map encS) := by
          intro l2 o h
          rw [chGet_chOf] at h
          simp only [Nat.zero_le, if_true, Nat.sub_zero] at h
          cases l2 with
          | zero => simp only [List.getElem?_cons_zero, Option.some.injEq] at h; exact ⟨rfl, h.symm⟩
          | succ n => simp at h
        have hblk0 : blkOf φ 0 = some gb := by
          unfold blkOf; rw [hφ0]; cases cap with | zero => omega | succ => rfl
        refine ⟨.tuple #[], F, φ, .tup [], [.row e 1 ((insSort cmpS l).map encS)], ⟨rfl, rfl⟩, rfl, .tup _ _ rfl (fun j c x h => by simp at h), ?_⟩
        refine ⟨fun _ h => h, fun _ _ h => h, fun _ _ h => .inl h, rfl, rfl, rfl, fun _ => Nat.le_add_right _ _, hsize, ?_, fun b h => .inl h, ?_, ?_, ?_⟩
        · intro b hb hne
          rw [hheap b hb] at hne
          by_cases e4 : b = gb
          · subst e4; exact ⟨0, _, hob, rfl, .inl hblk0, rfl⟩
          · rw [if_neg e4] at hne; exact (hne rfl).elim
        · intro l2 o h
          obtain ⟨rfl, rfl⟩ := hone1 l2 o h
          exact hro
        · intro l2 o b h h6 h7
          obtain ⟨rfl, rfl⟩ := hone1 l2 o h
          exact .inr ⟨0, _, hob, rfl, .inl h7.base, rfl⟩
        · intro l2 l3 o o' b h h6 _ _ _ _
          rw [(hone1 l2 o h).1, (hone1 l3 o' h6).1]
  · exact zero _ 0 (by simpa using h0) (by rw [hφ0] at h1; cases h1; rfl)
end Abs
theorem sortG_pc (l : List ByteArray) (hl : l.length < 1000000000000) : PCp 109 [.c (.row 0)] [.row 9 1 (l.map encS)] (.tup []) [.row 9 1 ((insSort cmpS l).map encS)] :=
  Abs.sortS_any laySortS ⟨_, Tryz.func109, by kernel_rfl, by kernel_rfl⟩ _ l hl
end Go.Proofs.YtilfcojhdhgmfaaGreatDoor

namespace Go.Proofs.YtilfcojhdhgmfaaGreatDoor
set_option linter.unusedVariables false
set_option linter.unusedSimpArgs false
open Abs

structure Sv where
  key : ByteArray
  els : List ByteArray
  cust : Int
def encSv (x : Sv) : List V := [.str x.key, .lst 1 (x.els.map encS), .int .i64 x.cust]
def elErr (first : Bool) (before k : ByteArray) : Int := if !keyB k then 5 else if !first && leB k before then 7 else 0
def elsErr (l : List ByteArray) : Int := seqErr elErr id true ⟨#[]⟩ l
def elsFault (l : List ByteArray) : Int := if 100 < l.length then 2 else elsErr l
def svErr (first : Bool) (before : ByteArray) (x : Sv) : Int :=
  if !keyB x.key then 5 else if !first && leB x.key before then 7 else if x.els.length = 0 then 8 else if elsFault x.els ≠ 0 then elsFault x.els else if x.cust < 1 ∨ 100000 < x.cust then 1 else 0
def svFault (l : List Sv) : Int := if 500 < l.length then 2 else seqErr svErr Sv.key true ⟨#[]⟩ l
def svAt (s : List Sv) (k : ByteArray) : Option Sv := s.find? fun x => decide (x.key = k)
def sv0 : Sv := ⟨⟨#[]⟩, [], 0⟩
def svG (s : List Sv) (k : ByteArray) : Sv := (svAt s k).getD sv0
def hasSv (s : List Sv) (k : ByteArray) : Bool := (svAt s k).isSome
def stErr (s : List Sv) (l : List ByteArray) : Int := if 500 < l.length then 2 else seqErr (keyErr (hasSv s)) id true ⟨#[]⟩ l
def seenErr (s : List Sv) (down up : List ByteArray) : Int :=
  if svFault s ≠ 0 then svFault s else if stErr s down ≠ 0 then stErr s down else if stErr s up ≠ 0 then stErr s up else if down.any (fun k => decide (k ∈ up)) then 13 else 0
structure SvX (x : Sv) : Prop where
  key : keyB x.key = true
  rise : Rise id x.els
  pos : 1 ≤ x.els.length
  len : x.els.length ≤ 100
  cust : 1 ≤ x.cust ∧ x.cust ≤ 100000
  els : ∀ k ∈ x.els, keyB k = true
structure SvOk (s : List Sv) : Prop where
  rise : Rise Sv.key s
  len : s.length ≤ 500
  each : ∀ x ∈ s, SvX x
theorem elErr_ok {f : Bool} {b k : ByteArray} (h : elErr f b k = 0) : keyB k = true ∧ (f = false → ltB b k = true) := by
  unfold elErr at h
  split at h
  · omega
  · split at h
    · omega
    · rename_i h1 h2
      refine ⟨by simpa using h1, fun hf => ?_⟩
      subst hf
      simp at h2
      exact leB_not.1 h2
theorem elsErr_ok {l : List ByteArray} (h : elsErr l = 0) : Rise id l ∧ ∀ k ∈ l, keyB k = true := by
  refine ⟨seqErr_rise (fun b k hk => (elErr_ok hk).2 rfl) h, fun k hk => ?_⟩
  obtain ⟨f, b, h1⟩ := seqErr_all h k hk
  exact (elErr_ok h1).1
theorem elsFault_ok {l : List ByteArray} (h : elsFault l = 0) : Rise id l ∧ l.length ≤ 100 ∧ ∀ k ∈ l, keyB k = true := by
  unfold elsFault at h
  split at h
  · omega
  · exact ⟨(elsErr_ok h).1, by omega, (elsErr_ok h).2⟩
theorem svErr_ok {f : Bool} {b : ByteArray} {x : Sv} (h : svErr f b x = 0) : SvX x ∧ (f = false → ltB b x.key = true) := by
  unfold svErr at h
  split at h
  · omega
  · split at h
    · omega
    · split at h
      · omega
      · split at h
        · omega
        · split at h
          · omega
          · rename_i h1 h2 h3 h4 h5
            obtain ⟨e1, e2, e3⟩ := elsFault_ok (show elsFault x.els = 0 by omega)
            refine ⟨⟨by simpa using h1, e1, by omega, e2, by omega, e3⟩, fun hf => ?_⟩
            subst hf
            simp at h2
            exact leB_not.1 h2
theorem svFault_ok {s : List Sv} (h : svFault s = 0) : SvOk s := by
  unfold svFault at h
  split at h
  · omega
  · refine ⟨seqErr_rise (fun b x hx => (svErr_ok hx).2 rfl) h, by omega, fun x hx => ?_⟩
    obtain ⟨f, b, h1⟩ := seqErr_all h x hx
    exact (svErr_ok h1).1
theorem hasSv_iff {s : List Sv} {k : ByteArray} : hasSv s k = true ↔ ∃ x ∈ s, x.key = k := by
  unfold hasSv svAt
  rw [List.find?_isSome]; simp
theorem svAt_mem {s : List Sv} (h : Rise Sv.key s) {x : Sv} (hx : x ∈ s) : svAt s x.key = some x := rise_find h hx
theorem svG_mem {s : List Sv} (h : Rise Sv.key s) {x : Sv} (hx : x ∈ s) : svG s x.key = x := by unfold svG; rw [svAt_mem h hx]; rfl
structure StOkL (s : List Sv) (l : List ByteArray) : Prop where
  len : l.length ≤ 500
  rise : Rise id l
  has : ∀ k ∈ l, hasSv s k = true
theorem stErr_ok {s : List Sv} {l : List ByteArray} (h : stErr s l = 0) : StOkL s l := by
  unfold stErr at h
  split at h
  · omega
  · refine ⟨by omega, seqErr_rise (fun b k hk => (keyErr_ok hk).2 rfl) h, fun k hk => ?_⟩
    obtain ⟨f, b, h1⟩ := seqErr_all h k hk
    exact (keyErr_ok h1).1
end Go.Proofs.YtilfcojhdhgmfaaGreatDoor

namespace Go.Proofs.YtilfcojhdhgmfaaGreatDoor
set_option linter.unusedVariables false
set_option linter.unusedSimpArgs false
open Abs

theorem hitG_eq {l : List ByteArray} (h : Rise id l) (t : ByteArray) : hitS t l = decide (t ∈ l) := by
  have hc : ∀ x : ByteArray, ((if ltB x t then (-1 : Int) else if x.toList = t.toList then 0 else 1) < 0 ↔ ltB (id x) t = true) ∧ ((if ltB x t then (-1 : Int) else if x.toList = t.toList then 0 else 1) = 0 ↔ id x = t) := by
    intro x
    by_cases h1 : ltB x t = true
    · simp [h1, ltB_ne h1]
    · by_cases h2 : x = t
      · subst h2; simp [h1]
      · simp [h1, h2, toList_eq']
  have hf := find_rise hc h
  unfold hitS
  generalize hh : hitL (fun x => if ltB x t then (-1 : Int) else if x.toList = t.toList then 0 else 1) l = b at *
  rw [Bool.eq_iff_iff, decide_eq_true_eq]
  cases b with
  | false =>
    constructor
    · intro e; cases e
    · intro ht
      have h1 : (l.find? fun x => decide (id x = t)).isSome := by rw [List.find?_isSome]; exact ⟨t, ht, by simp⟩
      rw [hf] at h1; simp at h1
  | true =>
    refine ⟨fun _ => ?_, fun _ => rfl⟩
    unfold hitL at hh
    split at hh
    · rename_i x hx
      rw [if_pos rfl, hx] at hf
      have h1 := List.find?_some hf
      have h2 := List.mem_of_find?_eq_some hf
      have : x = t := by simpa using h1
      rwa [this] at h2
    · cases hh
theorem binG_pc {l : List ByteArray} (h : Rise id l) (hl : l.length ≤ 1000000) (t : ByteArray) : PCp 219 [.c (.lst 1 (l.map encS)), .c (.str t)] [] (.tup [.c (.int .i64 ((cntS t l : Nat) : Int)), .c (.bool (decide (t ∈ l)))]) [] := by
  rw [← hitG_eq h]
  refine binS_pc t l hl ?_
  intro i j hj hij hlt
  rcases Nat.lt_or_ge i j with h1 | h1
  · exact ltB_trans (h.at h1 hj) hlt
  · have : i = j := by omega
    subst this; exact hlt
end Go.Proofs.YtilfcojhdhgmfaaGreatDoor

namespace Go.Proofs.YtilfcojhdhgmfaaGreatDoor
set_option linter.unusedVariables false
set_option linter.unusedSimpArgs false
open Abs

set_option maxRecDepth 100000 in
set_option maxHeartbeats 4000000 in
theorem bsSv_pc (g : Nat) (c : Sv → Int) (t : S) (l : List Sv) (hl : l.length ≤ 1000000) (hmono : ∀ i j (hj : j < l.length) (hij : i ≤ j), c l[j] < 0 → c (l[i]'(by omega)) < 0) (ht : isStr t) (hg : ∀ x ∈ l, PCp g [.agg (encSv x), t] [] (.c (.int .i64 (c x))) []) :
    PCp 220 [.c (.lst 3 (l.map encSv)), t, .c (.fn g [])] [] (.tup [.c (.int .i64 ((cntL c l : Nat) : Int)), .c (.bool (hitL c l))]) [] := by
  have hlm : (l.map encSv).length = l.length := List.length_map ..
  obtain ⟨key, rfl⟩ := ht
  refine fn_sound (mt := mts) tab_fits tab_mixed Tryz.func220 (by rfl) (by kernel_rfl) (by kernel_rfl) Tryz.results220 (Nat.le_of_ble_eq_true (by kernel_rfl)) ?_
  conv => whnf
  refine loop_meas2 (fun (i : Nat) (j : Nat) => j - i) [] [0, 1, 2, 8, 9, 10] (fun (i : Nat) (j : Nat) => ⟨[(0, .c (.lst 3 (l.map encSv))), (1, .c (.str key)), (2, .c (.fn g [])), (8, .c (.int .i64 (l.map encSv).length)), (9, .c (.int .i64 ((i : Nat) : Int))), (10, .c (.int .i64 ((j : Nat) : Int)))], [], 0⟩) (fun (i : Nat) (j : Nat) => i ≤ j ∧ j ≤ l.length ∧ (∀ k (h : k < l.length), k < i → c l[k] < 0) ∧ (∀ k (h : k < l.length), j ≤ k → ¬ c l[k] < 0)) (0) (l.length) ?_ ?_
  · conv => whnf
    exact ⟨by rw [hlm]; rfl, Nat.zero_le _, Nat.le_refl _, by intro k h h2; omega, by intro k h h2; omega⟩
  · intro i j ⟨h1, h2, h3, h4⟩
    have hmid := mid_eq (i := i) (j := j) (by omega)
    conv => whnf
    repeat' (first | (refine .mk (fun h => ?_) (fun h => ?_) <;> (try simp only [decide_eq_true_eq, decide_eq_false_iff_not, Bool.not_eq_true', Bool.not_eq_false', beq_iff_eq, beq_eq_false_iff_ne, bne_iff_ne, bne_eq_false_iff_eq] at h) <;> (first | (exfalso; first | omega | exact h trivial) | (conv => whnf))) | (refine .mk (by first | omega | (unfold roomOK; simp [cutRows]; done) | (unfold roomOK; simp [cutRows]; omega) | (simp [cutRows]; done) | (simp [cutRows]; omega)) ?_; conv => whnf) | (refine idx_at _ (by with_reducible rfl) (by first | assumption | omega) ?_; conv => whnf) | fail)
    · rw [hmid]
      refine idx_map ((i + j) / 2) (by omega) rfl ?_
      conv => whnf
      repeat' (first | (refine .mk (fun h => ?_) (fun h => ?_) <;> (try simp only [decide_eq_true_eq, decide_eq_false_iff_not, Bool.not_eq_true', Bool.not_eq_false', beq_iff_eq, beq_eq_false_iff_ne] at h) <;> (first | (exfalso; first | omega | exact h trivial) | (conv => whnf))) | (refine .mk _ _ (by exact hg (l[(i + j) / 2]'(by omega)) (List.getElem_mem _)) ?_; conv => whnf) | fail)
      · exact meas_next ((i + j) / 2 + 1, j) (by simp only; omega) (by rw [wrap_succ (n := l.length) (by omega) (by omega)]; rfl) ⟨by simp only; omega, h2, fun k hk hki => hmono k ((i + j) / 2) (by omega) (by simp only at hki; omega) h, h4⟩
      · exact meas_next (i, (i + j) / 2) (by simp only; omega) rfl ⟨by simp only; omega, by simp only; omega, h3, fun k hk hki => fun hc => h (hmono ((i + j) / 2) k hk hki hc)⟩
    all_goals
      have hij : i = j := by omega
      subst hij
      have hci : cntL c l = i := cntL_at h2 h3 h4
    · repeat' (first
        | (refine Split.mk (fun h => ?_) (fun h => ?_) <;> (try simp only [decide_eq_true_eq, decide_eq_false_iff_not, Bool.not_eq_true', Bool.not_eq_false', beq_iff_eq, beq_eq_false_iff_ne, bne_iff_ne, bne_eq_false_iff_eq] at h) <;> (first | (exfalso; first | omega | exact h trivial) | (conv => whnf)))
        | (refine CondG.mk (fun h => ?_) (fun h => ?_) <;> (try simp only [decide_eq_true_eq, decide_eq_false_iff_not, Bool.not_eq_true', Bool.not_eq_false', beq_iff_eq, beq_eq_false_iff_ne, bne_iff_ne, bne_eq_false_iff_eq] at h) <;> (first | (exfalso; first | omega | exact h trivial) | (conv => whnf)))
        | (refine CallX.mk _ _ (by first | exact hg (l[i]'(by omega)) (List.getElem_mem _)) ?_; conv => whnf)
        | (refine CallG.mk _ _ (by first | exact hg (l[i]'(by omega)) (List.getElem_mem _)) ?_; conv => whnf)
        | (refine Ask.mk (by first | omega | (unfold roomOK; simp [cutRows]; done) | (unfold roomOK; simp [cutRows]; omega) | (simp [cutRows]; done) | (simp [cutRows]; omega)) ?_; conv => whnf)
        | (refine AppG.mk (by first | omega | (unfold roomOK; simp [cutRows]; done) | (unfold roomOK; simp [cutRows]; omega) | (simp [cutRows]; done) | (simp [cutRows]; omega)) ?_; conv => whnf)
        | (refine SliceG.fr ?_; conv => whnf)
        | (refine BuildG.fr ?_; conv => whnf)
        | (refine idx_at _ (by with_reducible rfl) (by first | assumption | omega) ?_; conv => whnf)
        | ((with_reducible refine row_map (by first | assumption | omega) ?_); conv => whnf)
        | ((with_reducible refine row_set (by first | assumption | omega | (simp only [List.length_set]; omega) | (simp; omega)) ?_); conv => whnf)
        | fail)
      exact .mk ⟨by rw [hitL, hci, List.getElem?_eq_getElem (show i < l.length by omega)]; rfl, rfl⟩
    · exact .mk ⟨by rw [hitL, hci, List.getElem?_eq_none (show l.length ≤ i by omega)]; rfl, rfl⟩
set_option maxRecDepth 100000 in
set_option maxHeartbeats 4000000 in
theorem keysFault_pc (l : List ByteArray) (hl : l.length ≤ 1000000) : PCp 217 [.c (.lst 1 (l.map encS))] [] (.c (.int .i64 (elsErr l))) [] := by
  have hlm : (l.map encS).length = l.length := List.length_map ..
  refine fn_sound (mt := mts) tab_fits tab_mixed Tryz.func217 (by rfl) (by kernel_rfl) (by kernel_rfl) Tryz.results217 (Nat.le_of_ble_eq_true (by kernel_rfl)) ?_
  conv => whnf
  refine loop_for (l.length) [] [0, 5, 6, 7] (fun k (_ : Unit) => [(7, .c (.int .i64 (k : Int)))]) (fun k (_ : Unit) => []) (fun k (_ : Unit) => seqErr elErr id (decide (k = 0)) (befK id l k) (l.drop k) = elsErr l) (()) ?_
  conv => whnf
  refine ⟨(by first | rfl | (simp; done) | (simp; rfl)), ?_, ?_, ?_⟩
  · rfl
  · intro k _ hk hi
    conv => whnf
    repeat' (first | (refine .mk (fun h => ?_) (fun h => ?_) <;> (try simp only [decide_eq_true_eq, decide_eq_false_iff_not, Bool.not_eq_true', Bool.not_eq_false', beq_iff_eq, beq_eq_false_iff_ne, bne_iff_ne, bne_eq_false_iff_eq] at h) <;> (first | (exfalso; first | omega | exact h trivial) | (conv => whnf))) | (refine .mk _ _ (by exact bKey_pc _) ?_; conv => whnf) | (refine idx_at _ (by with_reducible rfl) (by first | assumption | omega) ?_; conv => whnf) | ((refine idx_map (k - 1) (by omega) (by rw [wrap_in (by omega) (by omega)]; omega) ?_); conv => whnf) | fail)
    all_goals try simp only [toList_eq'] at *
    all_goals have hb := befK_pos (key := id) (l := l) (Nat.le_of_lt hk)
    all_goals first
      | (refine fini (seq_hit hk hi ?_ (by decide)); clear hi; unfold elErr; (try rw [hb (by omega)]); (repeat' split) <;> first | rfl | (exfalso; first | omega | (simp_all [leB, toList_eq']; done) | (simp_all [leB, toList_eq']; omega)))
      | (refine count_next () hk (by rw [wrap_succ hk (by omega)]; rfl) (seq_next' hk hi ?_); clear hi; unfold elErr; (try rw [hb (by omega)]); (repeat' split) <;> first | rfl | (exfalso; first | omega | (simp_all [leB, toList_eq']; done) | (simp_all [leB, toList_eq']; omega)))
  · intro _ hi
    conv => whnf
    repeat' (first | (refine .mk (fun h => ?_) (fun h => ?_) <;> (try simp only [decide_eq_true_eq, decide_eq_false_iff_not, Bool.not_eq_true', Bool.not_eq_false', beq_iff_eq, beq_eq_false_iff_ne, bne_iff_ne, bne_eq_false_iff_eq] at h) <;> (first | (exfalso; first | omega | exact h trivial) | (conv => whnf))) | fail)
    exact fini (seq_end hi).symm
set_option maxRecDepth 100000 in
set_option maxHeartbeats 4000000 in
theorem checkServices_pc (s : List Sv) (hx : ∀ x ∈ s, x.els.length ≤ 1000000) : PCp 171 [.c (.lst 3 (s.map encSv))] [] (.c (.int .i64 (svFault s))) [] := by
  have hlm : (s.map encSv).length = s.length := List.length_map ..
  refine fn_sound (mt := mts) tab_fits tab_mixed Tryz.func171 (by rfl) (by kernel_rfl) (by kernel_rfl) Tryz.results171 (Nat.le_of_ble_eq_true (by kernel_rfl)) ?_
  conv => whnf
  repeat' (first | (refine .mk (fun h => ?_) (fun h => ?_) <;> (try simp only [decide_eq_true_eq, decide_eq_false_iff_not, Bool.not_eq_true', Bool.not_eq_false', beq_iff_eq, beq_eq_false_iff_ne, bne_iff_ne, bne_eq_false_iff_eq] at h) <;> (first | (exfalso; first | omega | exact h trivial) | (conv => whnf))) | fail)
  · exact fini (by rw [svFault, if_pos (by omega)])
  have hF : svFault s = seqErr svErr Sv.key true ⟨#[]⟩ s := by rw [svFault, if_neg (by omega)]
  refine loop_for (s.length) [] [0, 9, 10, 11] (fun k (_ : Unit) => [(11, .c (.int .i64 (k : Int)))]) (fun k (_ : Unit) => []) (fun k (_ : Unit) => seqErr svErr Sv.key (decide (k = 0)) (befK Sv.key s k) (s.drop k) = svFault s) (()) ?_
  conv => whnf
  refine ⟨(by first | rfl | (simp; done) | (simp; rfl)), ?_, ?_, ?_⟩
  · exact hF.symm
  · intro k _ hk hi
    have hxk := hx _ (List.getElem_mem hk)
    have hxm : (s[k].els.map encS).length = s[k].els.length := List.length_map ..
    conv => whnf
    repeat' (first | (refine .mk (fun h => ?_) (fun h => ?_) <;> (try simp only [decide_eq_true_eq, decide_eq_false_iff_not, Bool.not_eq_true', Bool.not_eq_false', beq_iff_eq, beq_eq_false_iff_ne, bne_iff_ne, bne_eq_false_iff_eq] at h) <;> (first | (exfalso; first | omega | exact h trivial) | (conv => whnf))) | (refine .mk _ _ (by first | exact bKey_pc _ | exact bOut_pc _ _ _ | exact keysFault_pc _ hxk) ?_; conv => whnf) | (refine idx_at _ (by with_reducible rfl) (by first | assumption | omega) ?_; conv => whnf) | ((refine idx_map (k - 1) (by omega) (by rw [wrap_in (by omega) (by omega)]; omega) ?_); conv => whnf) | fail)
    all_goals try simp only [toList_eq'] at *
    all_goals have hb := befK_pos (key := Sv.key) (l := s) (Nat.le_of_lt hk)
    all_goals first
      | (refine fini (seq_hit hk hi ?_ (by first | decide | (simp_all; done))); clear hi hF; unfold svErr elsFault; (try rw [hb (by omega)]); (repeat' split) <;> first | rfl | (exfalso; first | omega | (simp_all [leB, toList_eq']; done) | (simp_all [leB, toList_eq']; omega)))
      | (refine count_next () hk (by rw [wrap_succ hk (by omega)]; rfl) (seq_next' hk hi ?_); clear hi hF; unfold svErr elsFault; (try rw [hb (by omega)]); (repeat' split) <;> first | rfl | (exfalso; first | omega | (simp_all [leB, toList_eq']; done) | (simp_all [leB, toList_eq']; omega)))
  · intro _ hi
    conv => whnf
    repeat' (first | (refine .mk (fun h => ?_) (fun h => ?_) <;> (try simp only [decide_eq_true_eq, decide_eq_false_iff_not, Bool.not_eq_true', Bool.not_eq_false', beq_iff_eq, beq_eq_false_iff_ne, bne_iff_ne, bne_eq_false_iff_eq] at h) <;> (first | (exfalso; first | omega | exact h trivial) | (conv => whnf))) | fail)
    exact fini (seq_end hi).symm
def svIx (s : List Sv) (k : ByteArray) : Int := if hitL (fun x : Sv => cmpS x.key k) s then (cntL (fun x : Sv => cmpS x.key k) s : Int) else -1
theorem svIx_or {s : List Sv} (hr : Rise Sv.key s) (k : ByteArray) : (hasSv s k = false ∧ svIx s k = -1) ∨ (hasSv s k = true ∧ ∃ i, ∃ hi : i < s.length, svIx s k = ((i : Nat) : Int) ∧ s[i] = svG s k) := by
  have hc : ∀ x : Sv, (cmpS x.key k < 0 ↔ ltB x.key k = true) ∧ (cmpS x.key k = 0 ↔ x.key = k) := fun x => ⟨cmp_lt, cmp_zero⟩
  have hf := find_rise (c := fun x : Sv => cmpS x.key k) hc hr
  unfold svIx hasSv svG
  cases h : hitL (fun x : Sv => cmpS x.key k) s with
  | false =>
    left
    have hn : svAt s k = none := by unfold svAt; rw [hf, h]; rfl
    rw [hn]; exact ⟨rfl, by simp⟩
  | true =>
    right
    have hlt : cntL (fun x : Sv => cmpS x.key k) s < s.length := by
      rcases Nat.lt_or_ge (cntL (fun x : Sv => cmpS x.key k) s) s.length with h1 | h1
      · exact h1
      · unfold hitL at h; rw [List.getElem?_eq_none h1] at h; cases h
    have hn : svAt s k = some (s[cntL (fun x : Sv => cmpS x.key k) s]) := by unfold svAt; rw [hf, if_pos h, List.getElem?_eq_getElem hlt]
    rw [hn]
    exact ⟨rfl, _, hlt, by simp, rfl⟩
set_option maxRecDepth 100000 in
set_option maxHeartbeats 4000000 in
theorem fFind1_pc (x : Sv) (k : ByteArray) : PCp 221 [.agg (encSv x), .c (.str k)] [] (.c (.int .i64 (cmpS x.key k))) [] := by
  refine fn_sound (mt := mts) tab_fits tab_mixed Tryz.func221 (by rfl) (by kernel_rfl) (by kernel_rfl) Tryz.results221 (Nat.le_of_ble_eq_true (by kernel_rfl)) ?_
  conv => whnf
  repeat' (first | (refine .mk _ _ (by exact sCompare_pc _ _) ?_; conv => whnf) | fail)
  exact fini rfl
set_option maxRecDepth 100000 in
set_option maxHeartbeats 4000000 in
theorem fFind_pc (s : List Sv) (hr : Rise Sv.key s) (hl : s.length ≤ 1000000) (k : ByteArray) : PCp 176 [.c (.lst 3 (s.map encSv)), .c (.str k)] [] (.c (.int .i64 (svIx s k))) [] := by
  have hlm : (s.map encSv).length = s.length := List.length_map ..
  refine fn_sound (mt := mts) tab_fits tab_mixed Tryz.func176 (by rfl) (by kernel_rfl) (by kernel_rfl) Tryz.results176 (Nat.le_of_ble_eq_true (by kernel_rfl)) ?_
  conv => whnf
  repeat' (first | (refine .mk (fun h => ?_) (fun h => ?_) <;> (try simp only [decide_eq_true_eq, decide_eq_false_iff_not, Bool.not_eq_true', Bool.not_eq_false', beq_iff_eq, beq_eq_false_iff_ne, bne_iff_ne, bne_eq_false_iff_eq] at h) <;> (first | (exfalso; first | omega | exact h trivial) | (conv => whnf))) | (refine .mk _ _ (by exact bsSv_pc 221 (fun x => cmpS x.key k) (.c (.str k)) s hl (rise_mono (fun x => cmp_lt) hr) ⟨_, rfl⟩ (fun x _ => fFind1_pc x k)) ?_; conv => whnf) | fail)
  · exact fini (by rw [svIx, if_neg (by rw [h]; decide)])
  · exact fini (by rw [svIx, if_pos h])
set_option maxRecDepth 100000 in
set_option maxHeartbeats 4000000 in
theorem listFault_pc (s : List Sv) (hs : SvOk s) (l : List ByteArray) : PCp 172 [.c (.lst 3 (s.map encSv)), .c (.lst 1 (l.map encS))] [] (.c (.int .i64 (stErr s l))) [] := by
  have hlm : (l.map encS).length = l.length := List.length_map ..
  have hsl := hs.len
  refine fn_sound (mt := mts) tab_fits tab_mixed Tryz.func172 (by rfl) (by kernel_rfl) (by kernel_rfl) Tryz.results172 (Nat.le_of_ble_eq_true (by kernel_rfl)) ?_
  conv => whnf
  repeat' (first | (refine .mk (fun h => ?_) (fun h => ?_) <;> (try simp only [decide_eq_true_eq, decide_eq_false_iff_not, Bool.not_eq_true', Bool.not_eq_false', beq_iff_eq, beq_eq_false_iff_ne, bne_iff_ne, bne_eq_false_iff_eq] at h) <;> (first | (exfalso; first | omega | exact h trivial) | (conv => whnf))) | fail)
  · exact fini (by rw [stErr, if_pos (by omega)])
  have hF : stErr s l = seqErr (keyErr (hasSv s)) id true ⟨#[]⟩ l := by rw [stErr, if_neg (by omega)]
  refine loop_for (l.length) [] [0, 1, 10, 11, 12] (fun k (_ : Unit) => [(12, .c (.int .i64 (k : Int)))]) (fun k (_ : Unit) => []) (fun k (_ : Unit) => seqErr (keyErr (hasSv s)) id (decide (k = 0)) (befK id l k) (l.drop k) = stErr s l) (()) ?_
  conv => whnf
  refine ⟨(by first | rfl | (simp; done) | (simp; rfl)), ?_, ?_, ?_⟩
  · exact hF.symm
  · intro k _ hk hi
    have hIx : svIx s l[k] < 0 ↔ hasSv s l[k] = false := by
      rcases svIx_or hs.rise l[k] with ⟨h1, h2⟩ | ⟨h1, i, hi, h2, _⟩
      · rw [h1, h2]; simp
      · rw [h1, h2]; simp
    conv => whnf
    repeat' (first | (refine .mk (fun h => ?_) (fun h => ?_) <;> (try simp only [decide_eq_true_eq, decide_eq_false_iff_not, Bool.not_eq_true', Bool.not_eq_false', beq_iff_eq, beq_eq_false_iff_ne, bne_iff_ne, bne_eq_false_iff_eq] at h) <;> (first | (exfalso; first | omega | exact h trivial) | (conv => whnf))) | (refine .mk _ _ (by exact fFind_pc s hs.rise (by omega) _) ?_; conv => whnf) | (refine idx_at _ (by with_reducible rfl) (by first | assumption | omega) ?_; conv => whnf) | ((refine idx_map (k - 1) (by omega) (by rw [wrap_in (by omega) (by omega)]; omega) ?_); conv => whnf) | fail)
    all_goals try simp only [toList_eq', hIx] at *
    all_goals have hb := befK_pos (key := id) (l := l) (Nat.le_of_lt hk)
    all_goals first
      | (refine fini (seq_hit hk hi ?_ (by decide)); clear hi hF; unfold keyErr; (try rw [hb (by omega)]); (repeat' split) <;> first | rfl | (exfalso; first | omega | (simp_all [leB, toList_eq']; done) | (simp_all [leB, toList_eq']; omega)))
      | (refine count_next () hk (by rw [wrap_succ hk (by omega)]; rfl) (seq_next' hk hi ?_); clear hi hF; unfold keyErr; (try rw [hb (by omega)]); (repeat' split) <;> first | rfl | (exfalso; first | omega | (simp_all [leB, toList_eq']; done) | (simp_all [leB, toList_eq']; omega)))
  · intro _ hi
    conv => whnf
    repeat' (first | (refine .mk (fun h => ?_) (fun h => ?_) <;> (try simp only [decide_eq_true_eq, decide_eq_false_iff_not, Bool.not_eq_true', Bool.not_eq_false', beq_iff_eq, beq_eq_false_iff_ne, bne_iff_ne, bne_eq_false_iff_eq] at h) <;> (first | (exfalso; first | omega | exact h trivial) | (conv => whnf))) | fail)
    exact fini (seq_end hi).symm
end Go.Proofs.YtilfcojhdhgmfaaGreatDoor

namespace Go.Proofs.YtilfcojhdhgmfaaGreatDoor
set_option linter.unusedVariables false
set_option linter.unusedSimpArgs false
open Abs

def strOf : List V → ByteArray
  | [.str s] => s
  | _ => ⟨#[]⟩
end Go.Proofs.YtilfcojhdhgmfaaGreatDoor

namespace Go.Proofs.YtilfcojhdhgmfaaGreatDoor
set_option linter.unusedVariables false
set_option linter.unusedSimpArgs false
open Abs

end Go.Proofs.YtilfcojhdhgmfaaGreatDoor

namespace Go.Proofs.YtilfcojhdhgmfaaGreatDoor
set_option linter.unusedVariables false
set_option linter.unusedSimpArgs false
open Abs

theorem row_strm {N : List ByteArray} {rows : List (List V)} {i : Nat} {k : List V → Prop} (h : rows = (rows.map strOf).map encS) (hN : (rows.map strOf).all (fun s => decide (s ∈ N)) = true) (hi : i < rows.length) (hk : ∀ s : ByteArray, s ∈ N → k (encS s)) : RowG rows i k := by
  refine .mk _ (List.getElem?_eq_getElem hi) ?_
  have h1 : rows[i] = encS (strOf rows[i]) := by
    conv => lhs; rw [List.getElem_of_eq h hi]
    simp
  rw [h1]
  refine hk _ ?_
  have h2 := List.all_eq_true.1 hN (strOf rows[i]) (List.mem_map.2 ⟨_, List.getElem_mem hi, rfl⟩)
  simpa using h2
end Go.Proofs.YtilfcojhdhgmfaaGreatDoor

namespace Go.Proofs.YtilfcojhdhgmfaaGreatDoor
set_option linter.unusedVariables false
set_option linter.unusedSimpArgs false
namespace Abs
section
variable {κ β : Type} [DecidableEq κ]
omit [DecidableEq κ] in
theorem SM.keys_nd {s : SM κ β} (h : s.ok) : (s.es.map (·.2.1)).Nodup := by
  have := h.kn
  rw [SM.m, List.map_map] at this
  exact this
theorem eput_lenG (c : Nat) : ∀ (es : List (Nat × κ × β)) (x : κ) (y : β), (eput c es x y).length ≤ es.length + 1
  | [], _, _ => by simp [eput]
  | e :: r, x, y => by
    unfold eput
    split
    · simp
    · have := eput_lenG c r x y; simp; omega
def putAll (m : SM κ β) (l : List κ) (b : β) : SM κ β := l.foldl (fun m x => m.put x b) m
theorem putAll_ok {b : β} : ∀ (l : List κ) {m : SM κ β}, m.ok → (putAll m l b).ok
  | [], m, h => h
  | a :: r, m, h => putAll_ok r (h.put a b)
theorem putAll_len {b : β} : ∀ (l : List κ) (m : SM κ β), (putAll m l b).es.length ≤ m.es.length + l.length
  | [], m => by simp [putAll]
  | a :: r, m => by
    have h1 := putAll_len (b := b) r (m.put a b)
    have h2 := eput_lenG m.clock m.es a b
    unfold putAll at h1 ⊢
    rw [List.foldl_cons]
    have h3 : (m.put a b).es.length = (eput m.clock m.es a b).length := rfl
    simp only [List.length_cons]; omega
theorem putAll_app {b : β} (m : SM κ β) (l l' : List κ) : putAll m (l ++ l') b = putAll (putAll m l b) l' b := List.foldl_append
theorem putAll_succ {b : β} (m : SM κ β) (l : List κ) {k : Nat} (h : k < l.length) : putAll m (l.take (k + 1)) b = (putAll m (l.take k) b).put l[k] b := by
  rw [List.take_succ_eq_append_getElem h, putAll_app]; rfl
end
abbrev ekB : ByteArray → S := fun b => .c (.str b)
abbrev evT : Bool → S := fun b => .c (.bool b)
abbrev MB := SM ByteArray Bool
def ktL (es : List (Nat × ByteArray × Bool)) : List ByteArray := (es.filter fun e => e.2.2).map (·.2.1)
theorem ktL_len (es : List (Nat × ByteArray × Bool)) : (ktL es).length ≤ es.length := by unfold ktL; rw [List.length_map]; exact List.length_filter_le _ _
end Abs
end Go.Proofs.YtilfcojhdhgmfaaGreatDoor

namespace Go.Proofs.YtilfcojhdhgmfaaGreatDoor
set_option linter.unusedVariables false
set_option linter.unusedSimpArgs false
open Abs

theorem srt_one {a b : List ByteArray} (hp : a.Perm b) : insSort cmpS a = insSort cmpS b := by
  refine sorted_one (c := cmpS) (swo_key id) ?_ ((insSort_perm cmpS a).trans (hp.trans (insSort_perm cmpS b).symm)) (insSort_srt (swo_key id) a) (insSort_srt (swo_key id) b)
  intro x y h1 h2
  rw [cmp_lt] at h1 h2
  rcases ltB_tri x y with h | h | h
  · exact (h1 h).elim
  · exact h
  · exact (h2 h).elim
def risV (m : MB) : List ByteArray := insSort cmpS (ktL m.es)
set_option maxRecDepth 100000 in
set_option maxHeartbeats 4000000 in
theorem fRising_pc (m : MB) (hok : m.ok) (hl : m.es.length ≤ 1000000) : PCp 177 [.c (.mp 0)] [smO ekB evT m] (.c (.lst 1 ((risV m).map encS))) [smO ekB evT m] := by
  refine fn_sound (mt := mts) tab_fits tab_mixed Tryz.func177 (by rfl) (by kernel_rfl) (by kernel_rfl) Tryz.results177 (Nat.le_of_ble_eq_true (by kernel_rfl)) ?_
  conv => whnf
  refine loop_meas (fun (vis : List (Nat × ByteArray × Bool)) => m.es.length - vis.length) [.sl 3 9 1] [3, 7] (fun (vis : List (Nat × ByteArray × Bool)) => ⟨[(3, .c (.row 1)), (7, .c (.ptr 2 0))], [(0, smO ekB evT m), (1, .row 9 1 ((ktL vis.reverse).map encS)), (2, .iter 0 m.clock (vis.map (·.1)))], 3⟩) (fun (vis : List (Nat × ByteArray × Bool)) => Vis m vis) ([]) ?_ ?_
  · conv => whnf
    exact ⟨rfl, Vis.nil _⟩
  · intro vis hv
    have hvl := hv.len
    have hsl := ktL_len vis.reverse
    rw [List.length_reverse] at hsl
    have hslm : ((ktL vis.reverse).map encS).length = (ktL vis.reverse).length := List.length_map ..
    conv => whnf
    refine .mk rfl ?_
    conv => whnf
    refine sm_next hok hv (fun hp => ?_) (fun e he hn hv' hlt => ?_)
    · conv => whnf
      have hpr : (ktL vis.reverse).Perm (ktL m.es) := (((List.reverse_perm vis).trans hp).filter _).map _
      repeat' (first | (refine .mk _ _ (by exact sortG_pc (ktL vis.reverse) (by omega)) ?_; conv => whnf) | fail)
      have h1 : insSort cmpS (ktL vis.reverse) = risV m := srt_one hpr
      rw [h1]
      first
        | exact .frz 1 _ _ _ rfl (.weak [_, _] (.fro 1 _ _ rfl) rfl (Nat.le_refl _))
        | exact .frz 1 _ _ _ rfl (.weak [_] (.fro 1 _ _ rfl) rfl (Nat.le_refl _))
    · obtain ⟨en, ek, eb⟩ := e
      have h1 : ktL ((en, ek, eb) :: vis).reverse = ktL vis.reverse ++ (if eb then [ek] else []) := by
        cases eb <;> simp [ktL]
      conv => whnf
      refine .mk rfl ?_
      conv => whnf
      refine sm_at hok he ?_
      conv => whnf
      repeat' (first | (refine .mk (fun h => ?_) (fun h => ?_) <;> (try simp only [decide_eq_true_eq, decide_eq_false_iff_not, Bool.not_eq_true', Bool.not_eq_false', beq_iff_eq, beq_eq_false_iff_ne, bne_iff_ne, bne_eq_false_iff_eq] at h) <;> (first | (exfalso; first | omega | exact h trivial) | (conv => whnf))) | (refine .mk (by first | omega | (unfold roomOK; simp [cutRows]; done) | (unfold roomOK; simp [cutRows]; omega) | (simp [cutRows]; done) | (simp [cutRows]; omega)) ?_; conv => whnf) | fail)
      · exact meas_next ((en, ek, eb) :: vis) (by simp only [List.length_cons]; omega) (by rw [h1, if_pos h, List.map_append]; rfl) hv'
      · exact meas_next ((en, ek, eb) :: vis) (by simp only [List.length_cons]; omega) (by rw [h1, if_neg (by rw [h]; decide), List.append_nil]; rfl) hv'
def elsOf (s : List Sv) (l : List ByteArray) : List ByteArray := l.flatMap fun k => (svG s k).els
def susM (s : List Sv) (down up : List ByteArray) : MB := putAll (putAll SM.nil (elsOf s down) true) (elsOf s up) false
def susV (s : List Sv) (down up : List ByteArray) : List ByteArray := risV (susM s down up)
theorem susM_ok (s : List Sv) (down up : List ByteArray) : (susM s down up).ok := putAll_ok _ (putAll_ok _ SM.ok_nil)
theorem elsOf_succ (s : List Sv) (l : List ByteArray) {k : Nat} (h : k < l.length) : elsOf s (l.take (k + 1)) = elsOf s (l.take k) ++ (svG s l[k]).els := by
  rw [List.take_succ_eq_append_getElem h]; unfold elsOf; rw [List.flatMap_append]; simp
theorem elsOf_len {s : List Sv} (hs : SvOk s) : ∀ {l : List ByteArray}, (∀ k ∈ l, hasSv s k = true) → (elsOf s l).length ≤ 100 * l.length
  | [], _ => by simp [elsOf]
  | a :: r, h => by
    have ih := elsOf_len hs (l := r) (fun k hk => h k (by simp [hk]))
    obtain ⟨x, hx, hk⟩ := hasSv_iff.1 (h a (by simp))
    have h1 : svG s a = x := by rw [← hk]; exact svG_mem hs.rise hx
    have h2 := (hs.each x hx).len
    unfold elsOf at ih ⊢
    rw [List.flatMap_cons, List.length_append, h1]
    simp only [List.length_cons]; omega
set_option maxRecDepth 100000 in
set_option maxHeartbeats 4000000 in
theorem fSuspects_pc (s : List Sv) (hs : SvOk s) (down up : List ByteArray) (hd : StOkL s down) (hu : StOkL s up) :
    PCp 126 [.c (.lst 3 (s.map encSv)), .c (.lst 1 (down.map encS)), .c (.lst 1 (up.map encS))] [] (.c (.lst 1 ((susV s down up).map encS))) [] := by
  have hsl := hs.len
  have hdl := hd.len
  have hul := hu.len
  have hdm : (down.map encS).length = down.length := List.length_map ..
  have hum : (up.map encS).length = up.length := List.length_map ..
  have hsm : (s.map encSv).length = s.length := List.length_map ..
  have hat : ∀ k, hasSv s k = true → ∃ i, ∃ hi : i < s.length, svIx s k = ((i : Nat) : Int) ∧ s[i] = svG s k ∧ s[i].els.length ≤ 100 := by
    intro k hk
    rcases svIx_or hs.rise k with ⟨h1, _⟩ | ⟨_, i, hi, h2, h3⟩
    · rw [h1] at hk; cases hk
    · exact ⟨i, hi, h2, h3, (hs.each _ (List.getElem_mem hi)).len⟩
  refine fn_sound (mt := mts) tab_fits tab_mixed Tryz.func126 (by rfl) (by kernel_rfl) (by kernel_rfl) Tryz.results126 (Nat.le_of_ble_eq_true (by kernel_rfl)) ?_
  conv => whnf
  refine loop_for (down.length) [] [0, 2, 7, 17, 18, 19] (fun k (_ : Unit) => [(19, .c (.int .i64 (k : Int)))]) (fun k (_ : Unit) => [(0, smO ekB evT (putAll SM.nil (elsOf s (down.take k)) true))]) (fun k (_ : Unit) => True) (()) ?_
  conv => whnf
  refine ⟨(by first | rfl | (simp; done) | (simp; rfl)), (by trivial), ?_, ?_⟩
  · intro k _ hk _
    obtain ⟨i, hi, h2, h3, h4⟩ := hat _ (hd.has _ (List.getElem_mem hk))
    have hem : (s[i].els.map encS).length = s[i].els.length := List.length_map ..
    conv => whnf
    repeat' (first | (refine .mk (fun h => ?_) (fun h => ?_) <;> (try simp only [decide_eq_true_eq, decide_eq_false_iff_not, Bool.not_eq_true', Bool.not_eq_false', beq_iff_eq, beq_eq_false_iff_ne, bne_iff_ne, bne_eq_false_iff_eq] at h) <;> (first | (exfalso; first | omega | exact h trivial) | (conv => whnf))) | (refine .mk _ _ (by exact fFind_pc s hs.rise (by omega) _) ?_; conv => whnf) | (refine idx_at _ (by with_reducible rfl) (by first | assumption | omega) ?_; conv => whnf) | ((rw [h2]; refine idx_map i hi rfl ?_); conv => whnf) | fail)
    refine loop_for (s[i].els.length) [] [0, 2, 7, 17, 18, 19, 29, 30, 31] (fun j (_ : Unit) => [(31, .c (.int .i64 (j : Int)))]) (fun j (_ : Unit) => [(0, smO ekB evT (putAll (putAll SM.nil (elsOf s (down.take k)) true) (s[i].els.take j) true))]) (fun j (_ : Unit) => True) (()) ?_
    conv => whnf
    refine ⟨(by first | rfl | (simp; done) | (simp; rfl)), (by trivial), ?_, ?_⟩
    · intro j _ hj _
      conv => whnf
      repeat' (first | (refine .mk (fun h => ?_) (fun h => ?_) <;> (try simp only [decide_eq_true_eq, decide_eq_false_iff_not, Bool.not_eq_true', Bool.not_eq_false', beq_iff_eq, beq_eq_false_iff_ne, bne_iff_ne, bne_eq_false_iff_eq] at h) <;> (first | (exfalso; first | omega | exact h trivial) | (conv => whnf))) | (refine idx_at _ (by with_reducible rfl) (by first | assumption | omega) ?_; conv => whnf) | ((with_reducible refine sm_upd (ek := ekB) (ev := evT) keyStr _ _ true ?_); conv => whnf) | fail)
      exact count_next () hj (by rw [wrap_succ hj (by omega), putAll_succ _ _ hj]; rfl) trivial
    · intro _ _
      rw [List.take_length]
      conv => whnf
      repeat' (first | (refine .mk (fun h => ?_) (fun h => ?_) <;> (try simp only [decide_eq_true_eq, decide_eq_false_iff_not, Bool.not_eq_true', Bool.not_eq_false', beq_iff_eq, beq_eq_false_iff_ne, bne_iff_ne, bne_eq_false_iff_eq] at h) <;> (first | (exfalso; first | omega | exact h trivial) | (conv => whnf))) | fail)
      exact count_next () hk (by rw [wrap_succ hk (by omega), elsOf_succ s down hk, putAll_app, ← h3]; rfl) trivial
  · intro _ _
    rw [List.take_length]
    conv => whnf
    repeat' (first | (refine .mk (fun h => ?_) (fun h => ?_) <;> (try simp only [decide_eq_true_eq, decide_eq_false_iff_not, Bool.not_eq_true', Bool.not_eq_false', beq_iff_eq, beq_eq_false_iff_ne, bne_iff_ne, bne_eq_false_iff_eq] at h) <;> (first | (exfalso; first | omega | exact h trivial) | (conv => whnf))) | fail)
    refine loop_for (up.length) [] [0, 7, 39, 40, 41] (fun k (_ : Unit) => [(41, .c (.int .i64 (k : Int)))]) (fun k (_ : Unit) => [(0, smO ekB evT (putAll (putAll SM.nil (elsOf s down) true) (elsOf s (up.take k)) false))]) (fun k (_ : Unit) => True) (()) ?_
    conv => whnf
    refine ⟨(by first | rfl | (simp; done) | (simp; rfl)), (by trivial), ?_, ?_⟩
    · intro k _ hk _
      obtain ⟨i, hi, h2, h3, h4⟩ := hat _ (hu.has _ (List.getElem_mem hk))
      have hem : (s[i].els.map encS).length = s[i].els.length := List.length_map ..
      conv => whnf
      repeat' (first | (refine .mk (fun h => ?_) (fun h => ?_) <;> (try simp only [decide_eq_true_eq, decide_eq_false_iff_not, Bool.not_eq_true', Bool.not_eq_false', beq_iff_eq, beq_eq_false_iff_ne, bne_iff_ne, bne_eq_false_iff_eq] at h) <;> (first | (exfalso; first | omega | exact h trivial) | (conv => whnf))) | (refine .mk _ _ (by exact fFind_pc s hs.rise (by omega) _) ?_; conv => whnf) | (refine idx_at _ (by with_reducible rfl) (by first | assumption | omega) ?_; conv => whnf) | ((rw [h2]; refine idx_map i hi rfl ?_); conv => whnf) | fail)
      refine loop_for (s[i].els.length) [] [0, 7, 39, 40, 41, 51, 52, 53] (fun j (_ : Unit) => [(53, .c (.int .i64 (j : Int)))]) (fun j (_ : Unit) => [(0, smO ekB evT (putAll (putAll (putAll SM.nil (elsOf s down) true) (elsOf s (up.take k)) false) (s[i].els.take j) false))]) (fun j (_ : Unit) => True) (()) ?_
      conv => whnf
      refine ⟨(by first | rfl | (simp; done) | (simp; rfl)), (by trivial), ?_, ?_⟩
      · intro j _ hj _
        conv => whnf
        repeat' (first | (refine .mk (fun h => ?_) (fun h => ?_) <;> (try simp only [decide_eq_true_eq, decide_eq_false_iff_not, Bool.not_eq_true', Bool.not_eq_false', beq_iff_eq, beq_eq_false_iff_ne, bne_iff_ne, bne_eq_false_iff_eq] at h) <;> (first | (exfalso; first | omega | exact h trivial) | (conv => whnf))) | (refine idx_at _ (by with_reducible rfl) (by first | assumption | omega) ?_; conv => whnf) | ((with_reducible refine sm_upd (ek := ekB) (ev := evT) keyStr _ _ false ?_); conv => whnf) | fail)
        exact count_next () hj (by rw [wrap_succ hj (by omega), putAll_succ _ _ hj]; rfl) trivial
      · intro _ _
        rw [List.take_length]
        conv => whnf
        repeat' (first | (refine .mk (fun h => ?_) (fun h => ?_) <;> (try simp only [decide_eq_true_eq, decide_eq_false_iff_not, Bool.not_eq_true', Bool.not_eq_false', beq_iff_eq, beq_eq_false_iff_ne, bne_iff_ne, bne_eq_false_iff_eq] at h) <;> (first | (exfalso; first | omega | exact h trivial) | (conv => whnf))) | fail)
        exact count_next () hk (by rw [wrap_succ hk (by omega), elsOf_succ s up hk, putAll_app, ← h3]; rfl) trivial
    · intro _ _
      rw [List.take_length]
      have hml : (susM s down up).es.length ≤ 1000000 := by
        have h1 := putAll_len (b := false) (elsOf s up) (putAll SM.nil (elsOf s down) true)
        have h2 := putAll_len (b := true) (elsOf s down) (SM.nil : MB)
        have h3 := elsOf_len hs hd.has
        have h4 := elsOf_len hs hu.has
        have h5 : (SM.nil : MB).es.length = 0 := rfl
        unfold susM; omega
      conv => whnf
      repeat' (first | (refine .mk (fun h => ?_) (fun h => ?_) <;> (try simp only [decide_eq_true_eq, decide_eq_false_iff_not, Bool.not_eq_true', Bool.not_eq_false', beq_iff_eq, beq_eq_false_iff_ne, bne_iff_ne, bne_eq_false_iff_eq] at h) <;> (first | (exfalso; first | omega | exact h trivial) | (conv => whnf))) | (refine .mk _ _ (by exact fRising_pc (susM s down up) (susM_ok ..) hml) ?_; conv => whnf) | fail)
      first
        | exact .mk ⟨rfl, rfl⟩
        | exact .weak [] (.refl _) rfl (Nat.le_refl _)
        | exact .weak [_] (.refl _) rfl (Nat.le_refl _)
set_option maxRecDepth 100000 in
set_option maxHeartbeats 4000000 in
theorem fHas_pc {l : List ByteArray} (h : Rise id l) (hl : l.length ≤ 1000000) (t : ByteArray) : PCp 175 [.c (.lst 1 (l.map encS)), .c (.str t)] [] (.c (.bool (decide (t ∈ l)))) [] := by
  refine fn_sound (mt := mts) tab_fits tab_mixed Tryz.func175 (by rfl) (by kernel_rfl) (by kernel_rfl) Tryz.results175 (Nat.le_of_ble_eq_true (by kernel_rfl)) ?_
  conv => whnf
  repeat' (first | (refine .mk _ _ (by exact binG_pc h hl t) ?_; conv => whnf) | fail)
  exact finb rfl
set_option maxRecDepth 100000 in
set_option maxHeartbeats 4000000 in
theorem ixU_pc (cs : List (List V)) (g : Nat) (p : ByteArray → Bool) (l : List ByteArray) (hl : l.length ≤ 1000000) (hg : ∀ x ∈ l, PCp g [.c (.str x), .c (.ptr 0 0)] [.box [.lst 1 cs]] (.c (.bool (p x))) [.box [.lst 1 cs]]) : PCp 218 [.c (.lst 1 (l.map encS)), .c (.fn g [.ptr 0 0])] [.box [.lst 1 cs]] (.c (.int .i64 (idxP p l))) [.box [.lst 1 cs]] := by
  have hlm : (l.map encS).length = l.length := List.length_map ..
  refine fn_sound (mt := mts) tab_fits tab_mixed Tryz.func218 (by rfl) (by kernel_rfl) (by kernel_rfl) Tryz.results218 (Nat.le_of_ble_eq_true (by kernel_rfl)) ?_
  conv => whnf
  refine loop_count (l.length) [] [0, 1, 7, 8] (fun k (_ : Unit) => ⟨[(0, .c (.lst 1 (l.map encS))), (1, .c (.fn g [.ptr 0 0])), (7, .c (.int .i64 (l.map encS).length)), (8, .c (.int .i64 k))], [(0, .box [.lst 1 cs])], 1⟩) (fun k (_ : Unit) => ∀ i (hi : i < l.length), i < k → p l[i] = false) (()) ?_ ?_ ?_
  · conv => whnf
    exact ⟨rfl, by intro i hi h; omega⟩
  · intro k _ hk hi
    conv => whnf
    repeat' (first | (refine .mk (fun h => ?_) (fun h => ?_) <;> (try simp only [decide_eq_true_eq, decide_eq_false_iff_not, Bool.not_eq_true', Bool.not_eq_false', beq_iff_eq, beq_eq_false_iff_ne, bne_iff_ne, bne_eq_false_iff_eq] at h) <;> (first | (exfalso; first | omega | exact h trivial) | (conv => whnf))) | (refine .mk _ _ (by exact hg l[k] (List.getElem_mem hk)) ?_; conv => whnf) | (refine idx_at _ (by with_reducible rfl) (by first | assumption | omega) ?_; conv => whnf) | fail)
    · exact .mk ⟨by rw [idxP_hit hk (fun i hi' => hi i (by omega) hi') h]; rfl, rfl⟩
    · refine count_next () hk (by rw [wrap_succ hk (by omega)]; rfl) ?_
      exact all_succ' hi h
  · intro _ hi
    conv => whnf
    repeat' (first | (refine .mk (fun h => ?_) (fun h => ?_) <;> (try simp only [decide_eq_true_eq, decide_eq_false_iff_not, Bool.not_eq_true', Bool.not_eq_false', beq_iff_eq, beq_eq_false_iff_ne] at h) <;> (first | (exfalso; first | omega | exact h trivial) | (conv => whnf))) | fail)
    exact .mk ⟨by rw [idxP_miss (fun i h => hi i h h)]; rfl, rfl⟩
set_option maxRecDepth 100000 in
set_option maxHeartbeats 4000000 in
theorem ixUC_pc (cs : List (List V)) (g : Nat) (p : ByteArray → Bool) (l : List ByteArray) (hl : l.length ≤ 1000000) (hg : ∀ x ∈ l, PCp g [.c (.str x), .c (.ptr 0 0)] [.box [.lst 1 cs]] (.c (.bool (p x))) [.box [.lst 1 cs]]) : PCp 173 [.c (.lst 1 (l.map encS)), .c (.fn g [.ptr 0 0])] [.box [.lst 1 cs]] (.c (.bool (l.any p))) [.box [.lst 1 cs]] := by
  refine fn_sound (mt := mts) tab_fits tab_mixed Tryz.func173 (by rfl) (by kernel_rfl) (by kernel_rfl) Tryz.results173 (Nat.le_of_ble_eq_true (by kernel_rfl)) ?_
  conv => whnf
  repeat' (first | (refine .mk _ _ (by exact ixU_pc cs g p l hl hg) ?_; conv => whnf) | fail)
  exact .mk ⟨by rw [← idxP_any]; rfl, rfl⟩
set_option maxRecDepth 100000 in
set_option maxHeartbeats 4000000 in
theorem fState1_pc {up : List ByteArray} (h : Rise id up) (hl : up.length ≤ 1000000) (x : ByteArray) : PCp 174 [.c (.str x), .c (.ptr 0 0)] [.box [.lst 1 (up.map encS)]] (.c (.bool (decide (x ∈ up)))) [.box [.lst 1 (up.map encS)]] := by
  refine fn_sound (mt := mts) tab_fits tab_mixed Tryz.func174 (by rfl) (by kernel_rfl) (by kernel_rfl) Tryz.results174 (Nat.le_of_ble_eq_true (by kernel_rfl)) ?_
  conv => whnf
  repeat' (first | (refine .mk _ _ (by exact fHas_pc h hl x) ?_; conv => whnf) | fail)
  exact .mk ⟨rfl, rfl⟩
set_option maxRecDepth 100000 in
set_option maxHeartbeats 4000000 in
theorem fState_pc (s : List Sv) (hx : ∀ x ∈ s, x.els.length ≤ 1000000) (down up : List ByteArray) : PCp 125 [.c (.lst 3 (s.map encSv)), .c (.lst 1 (down.map encS)), .c (.lst 1 (up.map encS))] [] (.c (.int .i64 (seenErr s down up))) [] := by
  have hdm : (down.map encS).length = down.length := List.length_map ..
  refine fn_sound (mt := mts) tab_fits tab_mixed Tryz.func125 (by rfl) (by kernel_rfl) (by kernel_rfl) Tryz.results125 (Nat.le_of_ble_eq_true (by kernel_rfl)) ?_
  conv => whnf
  repeat' (first | (refine .mk (fun h => ?_) (fun h => ?_) <;> (try simp only [decide_eq_true_eq, decide_eq_false_iff_not, Bool.not_eq_true', Bool.not_eq_false', beq_iff_eq, beq_eq_false_iff_ne, bne_iff_ne, bne_eq_false_iff_eq] at h) <;> (first | (exfalso; first | omega | exact h trivial) | (conv => whnf))) | (refine .mk _ _ (by exact checkServices_pc s hx) ?_; conv => whnf) | fail)
  · exact fini (by rw [seenErr, if_pos (by assumption)])
  have hs0 : svFault s = 0 := by simp_all
  have hs := svFault_ok hs0
  repeat' (first | (refine .mk (fun h => ?_) (fun h => ?_) <;> (try simp only [decide_eq_true_eq, decide_eq_false_iff_not, Bool.not_eq_true', Bool.not_eq_false', beq_iff_eq, beq_eq_false_iff_ne, bne_iff_ne, bne_eq_false_iff_eq] at h) <;> (first | (exfalso; first | omega | exact h trivial) | (conv => whnf))) | (refine .mk _ _ (by first | exact listFault_pc s hs _ | exact first_pc [_, _] (by simp)) ?_; conv => whnf) | fail)
  · refine fini ?_
    rw [seenErr, if_neg (by simp [hs0])]
    simp only [firstErr] at *
    (repeat' split) <;> first | rfl | omega | (simp_all; done)
  have hf : stErr s down = 0 ∧ stErr s up = 0 := by
    rename_i h
    simp only [firstErr] at h
    by_cases h1 : stErr s down = 0 <;> by_cases h2 : stErr s up = 0 <;> simp_all
  obtain ⟨hd, hu⟩ := hf
  have hdo := stErr_ok hd
  have huo := stErr_ok hu
  have hdl := hdo.len
  have hul := huo.len
  repeat' (first | (refine .mk (fun h => ?_) (fun h => ?_) <;> (try simp only [decide_eq_true_eq, decide_eq_false_iff_not, Bool.not_eq_true', Bool.not_eq_false', beq_iff_eq, beq_eq_false_iff_ne, bne_iff_ne, bne_eq_false_iff_eq] at h) <;> (first | (exfalso; first | omega | exact h trivial) | (conv => whnf))) | (refine .mk _ _ (by exact ixUC_pc (up.map encS) 174 (fun x => decide (x ∈ up)) down (by omega) (fun x _ => fState1_pc huo.rise (by omega) x)) ?_; conv => whnf) | fail)
  all_goals
    refine fini ?_
    rw [seenErr, if_neg (by simp [hs0]), if_neg (by simp [hd]), if_neg (by simp [hu])]
    simp_all
set_option maxRecDepth 100000 in
set_option maxHeartbeats 4000000 in
theorem suspectsP_pc (s : List Sv) (hx : ∀ x ∈ s, x.els.length ≤ 1000000) (down up : List ByteArray) : PCp 60 [.c (.lst 3 (s.map encSv)), .c (.lst 1 (down.map encS)), .c (.lst 1 (up.map encS))] [] (.tup [.c (.lst 1 ((if seenErr s down up = 0 then susV s down up else []).map encS)), .c (.int .i64 (seenErr s down up))]) [] := by
  refine fn_sound (mt := mts) tab_fits tab_mixed Tryz.func60 (by rfl) (by kernel_rfl) (by kernel_rfl) Tryz.results60 (Nat.le_of_ble_eq_true (by kernel_rfl)) ?_
  conv => whnf
  repeat' (first | (refine .mk (fun h => ?_) (fun h => ?_) <;> (try simp only [decide_eq_true_eq, decide_eq_false_iff_not, Bool.not_eq_true', Bool.not_eq_false', beq_iff_eq, beq_eq_false_iff_ne, bne_iff_ne, bne_eq_false_iff_eq] at h) <;> (first | (exfalso; first | omega | exact h trivial) | (conv => whnf))) | (refine .mk _ _ (by exact fState_pc s hx down up) ?_; conv => whnf) | fail)
  · rw [if_neg (by assumption)]
    refine .weak [] (.tup _ _ rfl ?_) rfl (Nat.le_refl _)
    intro i a b ha hb
    match i with
    | 0 => cases ha; cases hb; exact .nil 1
    | 1 => cases ha; cases hb; exact .refl _
  · have h0 : seenErr s down up = 0 := by simp_all
    have hs0 : svFault s = 0 := by
      unfold seenErr at h0
      split at h0
      · omega
      · omega
    have hd0 : stErr s down = 0 := by
      unfold seenErr at h0
      rw [if_neg (by omega)] at h0
      split at h0
      · omega
      · omega
    have hu0 : stErr s up = 0 := by
      unfold seenErr at h0
      rw [if_neg (by omega), if_neg (by omega)] at h0
      split at h0
      · omega
      · omega
    rw [if_pos h0]
    repeat' (first | (refine .mk _ _ (by exact fSuspects_pc s (svFault_ok hs0) down up (stErr_ok hd0) (stErr_ok hu0)) ?_; conv => whnf) | fail)
    exact .mk ⟨by rw [h0]; rfl, rfl⟩
end Go.Proofs.YtilfcojhdhgmfaaGreatDoor

namespace Go.Proofs.YtilfcojhdhgmfaaGreatDoor
set_option linter.unusedVariables false
set_option linter.unusedSimpArgs false
open Abs

abbrev cA : V := .str ⟨#[97]⟩
abbrev cB : V := .str ⟨#[98]⟩
abbrev cC : V := .str ⟨#[99]⟩
abbrev n1 : V := .int .i64 1
abbrev tSites : V := .lst 2 [[cA, .int .i64 1], [cB, .int .i64 4]]
abbrev tCables : V := .lst 5 [[cC, cA, cB, .int .i64 5, .int .i64 1]]
abbrev tinyL : List V := [tSites, tCables, .nils]
abbrev kindsO : Ob := .map 2 [(0, .c cA, .c (.int .i64 1)), (1, .c cB, .c (.int .i64 4))]
abbrev cabsO : Ob := .map 1 [(0, .c cC, .agg [cC, cA, cB, .int .i64 5, .int .i64 1])]
abbrev webO : List Ob := [.box [tSites, tCables, .nils, .mp 1, .mp 2, .mp 3, .nilm], kindsO, cabsO, .map 0 []]
set_option maxRecDepth 100000 in
set_option maxHeartbeats 4000000 in
theorem tiny_c : PCp 58 [] [] (.agg tinyL) [] := by
  refine fn_sound (mt := mts) tab_fits tab_mixed Tryz.func58 (by rfl) (by kernel_rfl) (by kernel_rfl) Tryz.results58 (Nat.le_of_ble_eq_true (by kernel_rfl)) ?_
  conv => whnf
  skip
  all_goals first | exact .mk ⟨rfl, rfl⟩ | trace_state
set_option maxRecDepth 100000 in
set_option maxHeartbeats 4000000 in
theorem siteF_c1 : PCp 271 [.agg [cA, .int .i64 1]] [] (.c (.int .i64 0)) [] := by
  refine fn_sound (mt := mts) tab_fits tab_mixed Tryz.func271 (by rfl) (by kernel_rfl) (by kernel_rfl) Tryz.results271 (Nat.le_of_ble_eq_true (by kernel_rfl)) ?_
  conv => whnf
  repeat' (first | (refine CondG.mk (fun h => absurd h (by decide +kernel)) (fun h => ?_); clear h; conv => whnf) | (refine .mk _ _ (by first | exact bKey_pc _ | exact bOut_pc _ _ _) ?_; conv => whnf) | fail)
  all_goals first | exact .mk ⟨rfl, rfl⟩ | trace_state
set_option maxRecDepth 100000 in
set_option maxHeartbeats 4000000 in
theorem siteF_c2 : PCp 271 [.agg [cB, .int .i64 4]] [] (.c (.int .i64 0)) [] := by
  refine fn_sound (mt := mts) tab_fits tab_mixed Tryz.func271 (by rfl) (by kernel_rfl) (by kernel_rfl) Tryz.results271 (Nat.le_of_ble_eq_true (by kernel_rfl)) ?_
  conv => whnf
  repeat' (first | (refine CondG.mk (fun h => absurd h (by decide +kernel)) (fun h => ?_); clear h; conv => whnf) | (refine .mk _ _ (by first | exact bKey_pc _ | exact bOut_pc _ _ _) ?_; conv => whnf) | fail)
  all_goals first | exact .mk ⟨rfl, rfl⟩ | trace_state
set_option maxRecDepth 100000 in
set_option maxHeartbeats 4000000 in
theorem sitesF_c : PCp 254 [.c tSites] [] (.c (.int .i64 0)) [] := by
  refine fn_sound (mt := mts) tab_fits tab_mixed Tryz.func254 (by rfl) (by kernel_rfl) (by kernel_rfl) Tryz.results254 (Nat.le_of_ble_eq_true (by kernel_rfl)) ?_
  conv => whnf
  repeat' (first | (refine CondG.mk (fun h => ?_) (fun h => absurd h (by decide +kernel)); clear h; conv => whnf) | (refine CondG.mk (fun h => absurd h (by decide +kernel)) (fun h => ?_); clear h; conv => whnf) | (refine Split.mk (fun h => ?_) (fun h => absurd h (by decide +kernel)); clear h; conv => whnf) | (refine Split.mk (fun h => absurd h (by decide +kernel)) (fun h => ?_); clear h; conv => whnf) | (refine .mk _ _ (by first | exact siteF_c1 | exact siteF_c2) ?_; conv => whnf) | (refine IdxG.mk _ ⟨by decide, by rfl⟩ ?_; conv => whnf) | (refine LoopG.un 12 ?_; conv => whnf) | fail)
  all_goals first | exact .mk ⟨rfl, rfl⟩ | trace_state
set_option maxRecDepth 100000 in
set_option maxHeartbeats 4000000 in
theorem cabF_c : PCp 272 [.agg [cC, cA, cB, .int .i64 5, .int .i64 1], .c (.mp 0)] [kindsO] (.c (.int .i64 0)) [kindsO] := by
  refine fn_sound (mt := mts) tab_fits tab_mixed Tryz.func272 (by rfl) (by kernel_rfl) (by kernel_rfl) Tryz.results272 (Nat.le_of_ble_eq_true (by kernel_rfl)) ?_
  conv => whnf
  repeat' (first | (refine CondG.mk (fun h => absurd h (by decide +kernel)) (fun h => ?_); clear h; conv => whnf) | (refine Split.mk (fun h => absurd h (by decide +kernel)) (fun h => ?_); clear h; conv => whnf) | (refine .mk _ _ (by first | exact bKey_pc _ | exact bOut_pc _ _ _) ?_; conv => whnf) | (refine look_ix 0 (by rfl) (by decide +kernel) ?_; conv => whnf) | (refine look_ix 1 (by rfl) (by decide +kernel) ?_; conv => whnf) | fail)
  all_goals first | exact .mk ⟨rfl, rfl⟩ | trace_state
set_option maxRecDepth 100000 in
set_option maxHeartbeats 4000000 in
theorem cabsF_c : PCp 255 [.c tCables, .c (.mp 0)] [kindsO] (.c (.int .i64 0)) [kindsO] := by
  refine fn_sound (mt := mts) tab_fits tab_mixed Tryz.func255 (by rfl) (by kernel_rfl) (by kernel_rfl) Tryz.results255 (Nat.le_of_ble_eq_true (by kernel_rfl)) ?_
  conv => whnf
  repeat' (first | (refine CondG.mk (fun h => ?_) (fun h => absurd h (by decide +kernel)); clear h; conv => whnf) | (refine CondG.mk (fun h => absurd h (by decide +kernel)) (fun h => ?_); clear h; conv => whnf) | (refine Split.mk (fun h => absurd h (by decide +kernel)) (fun h => ?_); clear h; conv => whnf) | (refine .mk _ _ (by exact cabF_c) ?_; conv => whnf) | (refine IdxG.mk _ ⟨by decide, by rfl⟩ ?_; conv => whnf) | (refine LoopG.un 12 ?_; conv => whnf) | fail)
  all_goals first | exact .mk ⟨rfl, rfl⟩ | trace_state
set_option maxRecDepth 100000 in
set_option maxHeartbeats 4000000 in
theorem splsF_c : PCp 256 [.agg tinyL, .c (.mp 0)] [kindsO] (.c (.int .i64 0)) [kindsO] := by
  refine fn_sound (mt := mts) tab_fits tab_mixed Tryz.func256 (by rfl) (by kernel_rfl) (by kernel_rfl) Tryz.results256 (Nat.le_of_ble_eq_true (by kernel_rfl)) ?_
  conv => whnf
  repeat' (first | (refine CondG.mk (fun h => ?_) (fun h => absurd h (by decide +kernel)); clear h; conv => whnf) | (refine CondG.mk (fun h => absurd h (by decide +kernel)) (fun h => ?_); clear h; conv => whnf) | (refine IdxG.mk _ ⟨by decide, by rfl⟩ ?_; conv => whnf) | (refine upd_no (by decide +kernel) ?_; conv => whnf) | (refine LoopG.un 12 ?_; conv => whnf) | fail)
  all_goals first | exact .mk ⟨rfl, rfl⟩ | trace_state
set_option maxRecDepth 100000 in
set_option maxHeartbeats 4000000 in
theorem checkPlant_c : PCp 211 [.agg tinyL] [] (.c (.int .i64 0)) [] := by
  refine fn_sound (mt := mts) tab_fits tab_mixed Tryz.func211 (by rfl) (by kernel_rfl) (by kernel_rfl) Tryz.results211 (Nat.le_of_ble_eq_true (by kernel_rfl)) ?_
  conv => whnf
  repeat' (first | (refine CondG.mk (fun h => ?_) (fun h => absurd h (by decide +kernel)); clear h; conv => whnf) | (refine CondG.mk (fun h => absurd h (by decide +kernel)) (fun h => ?_); clear h; conv => whnf) | (refine .mk _ _ (by first | exact sitesF_c | exact cabsF_c | exact splsF_c) ?_; conv => whnf) | (refine IdxG.mk _ ⟨by decide, by rfl⟩ ?_; conv => whnf) | (refine upd_no (by decide +kernel) ?_; conv => whnf) | (refine LoopG.un 12 ?_; conv => whnf) | fail)
  all_goals first | exact .mk ⟨rfl, rfl⟩ | trace_state
theorem sbool {a b : Bool} (h : a = b) : oneOf [S.c (.bool a)] = S.c (.bool b) := by rw [h]; rfl
set_option maxRecDepth 100000 in
set_option maxHeartbeats 4000000 in
theorem siteC1_c : PCp 213 [.agg [cA, .int .i64 1], .c (.ptr 0 0)] [.box [cB]] (.c (.bool false)) [.box [cB]] := by
  refine fn_sound (mt := mts) tab_fits tab_mixed Tryz.func213 (by rfl) (by kernel_rfl) (by kernel_rfl) Tryz.results213 (Nat.le_of_ble_eq_true (by kernel_rfl)) ?_
  conv => whnf
  skip
  exact .mk ⟨sbool (by decide +kernel), rfl⟩
set_option maxRecDepth 100000 in
set_option maxHeartbeats 4000000 in
theorem siteC2_c : PCp 213 [.agg [cB, .int .i64 4], .c (.ptr 0 0)] [.box [cB]] (.c (.bool true)) [.box [cB]] := by
  refine fn_sound (mt := mts) tab_fits tab_mixed Tryz.func213 (by rfl) (by kernel_rfl) (by kernel_rfl) Tryz.results213 (Nat.le_of_ble_eq_true (by kernel_rfl)) ?_
  conv => whnf
  skip
  exact .mk ⟨sbool (by decide +kernel), rfl⟩
set_option maxRecDepth 100000 in
set_option maxHeartbeats 4000000 in
theorem siteIx_c : PCp 257 [.c tSites, .c (.fn 213 [.ptr 0 0])] [.box [cB]] (.c (.int .i64 1)) [.box [cB]] := by
  refine fn_sound (mt := mts) tab_fits tab_mixed Tryz.func257 (by rfl) (by kernel_rfl) (by kernel_rfl) Tryz.results257 (Nat.le_of_ble_eq_true (by kernel_rfl)) ?_
  conv => whnf
  repeat' (first | (refine CondG.mk (fun h => ?_) (fun h => absurd h (by decide +kernel)); clear h; conv => whnf) | (refine CondG.mk (fun h => absurd h (by decide +kernel)) (fun h => ?_); clear h; conv => whnf) | (refine .mk _ _ (by first | exact siteC1_c | exact siteC2_c) ?_; conv => whnf) | (refine IdxG.mk _ ⟨by decide, by rfl⟩ ?_; conv => whnf) | (refine LoopG.un 12 ?_; conv => whnf) | fail)
  all_goals first | exact .mk ⟨rfl, rfl⟩ | trace_state
set_option maxRecDepth 100000 in
set_option maxHeartbeats 4000000 in
theorem siteCt_c : PCp 212 [.c tSites, .c (.fn 213 [.ptr 0 0])] [.box [cB]] (.c (.bool true)) [.box [cB]] := by
  refine fn_sound (mt := mts) tab_fits tab_mixed Tryz.func212 (by rfl) (by kernel_rfl) (by kernel_rfl) Tryz.results212 (Nat.le_of_ble_eq_true (by kernel_rfl)) ?_
  conv => whnf
  repeat' (first | (refine .mk _ _ (by exact siteIx_c) ?_; conv => whnf) | fail)
  all_goals first | exact .mk ⟨rfl, rfl⟩ | trace_state
set_option maxRecDepth 100000 in
set_option maxHeartbeats 4000000 in
theorem siteFault_c : PCp 161 [.agg tinyL, .c cB] [] (.c (.int .i64 0)) [] := by
  refine fn_sound (mt := mts) tab_fits tab_mixed Tryz.func161 (by rfl) (by kernel_rfl) (by kernel_rfl) Tryz.results161 (Nat.le_of_ble_eq_true (by kernel_rfl)) ?_
  conv => whnf
  repeat' (first | (refine CondG.mk (fun h => absurd h (by decide +kernel)) (fun h => ?_); clear h; conv => whnf) | (refine Split.mk (fun h => ?_) (fun h => absurd h (by decide +kernel)); clear h; conv => whnf) | (refine .mk _ _ (by first | exact checkPlant_c | exact siteCt_c) ?_; conv => whnf) | fail)
  all_goals first | exact .mk ⟨rfl, rfl⟩ | trace_state
set_option maxRecDepth 100000 in
set_option maxHeartbeats 4000000 in
theorem webNew_c : PCp 162 [.agg tinyL] [] (.c (.ptr 0 0)) webO := by
  refine fn_sound (mt := mts) tab_fits tab_mixed Tryz.func162 (by rfl) (by kernel_rfl) (by kernel_rfl) Tryz.results162 (Nat.le_of_ble_eq_true (by kernel_rfl)) ?_
  conv => whnf
  repeat' (first | (refine CondG.mk (fun h => ?_) (fun h => absurd h (by decide +kernel)); clear h; conv => whnf) | (refine CondG.mk (fun h => absurd h (by decide +kernel)) (fun h => ?_); clear h; conv => whnf) | (refine IdxG.mk _ ⟨by decide, by rfl⟩ ?_; conv => whnf) | (refine upd_no (by decide +kernel) ?_; conv => whnf) | (refine LoopG.un 12 ?_; conv => whnf) | fail)
  all_goals first | exact .mk ⟨rfl, rfl⟩ | trace_state
set_option maxRecDepth 100000 in
set_option maxHeartbeats 4000000 in
theorem webHas_c : PCp 163 [.c (.ptr 0 0), .agg [cC, n1]] webO (.c (.bool true)) webO := by
  refine fn_sound (mt := mts) tab_fits tab_mixed Tryz.func163 (by rfl) (by kernel_rfl) (by kernel_rfl) Tryz.results163 (Nat.le_of_ble_eq_true (by kernel_rfl)) ?_
  conv => whnf
  repeat' (first | (refine Split.mk (fun h => ?_) (fun h => absurd h (by decide +kernel)); clear h; conv => whnf) | (refine .mk _ _ (by exact bOut_pc _ _ _) ?_; conv => whnf) | (refine look_ix 0 (by rfl) (by decide +kernel) ?_; conv => whnf) | fail)
  all_goals first | exact .mk ⟨rfl, rfl⟩ | exact .mk ⟨sbool (by decide +kernel), rfl⟩ | trace_state
set_option maxRecDepth 100000 in
set_option maxHeartbeats 4000000 in
theorem webTouches_c : PCp 164 [.c (.ptr 0 0), .agg [cC, n1], .c cB] webO (.c (.bool true)) webO := by
  refine fn_sound (mt := mts) tab_fits tab_mixed Tryz.func164 (by rfl) (by kernel_rfl) (by kernel_rfl) Tryz.results164 (Nat.le_of_ble_eq_true (by kernel_rfl)) ?_
  conv => whnf
  repeat' (first | (refine Split.mk (fun h => ?_) (fun h => absurd h (by decide +kernel)); clear h; conv => whnf) | (refine Split.mk (fun h => absurd h (by decide +kernel)) (fun h => ?_); clear h; conv => whnf) | (refine look_ix 0 (by rfl) (by decide +kernel) ?_; conv => whnf) | fail)
  all_goals first | exact .mk ⟨rfl, rfl⟩ | exact .mk ⟨sbool (by decide +kernel), rfl⟩ | trace_state
set_option maxRecDepth 100000 in
set_option maxHeartbeats 4000000 in
theorem endOf_c : PCp 117 [.agg tinyL, .agg [cC, n1], .c cB] [] (.tup [.c (.ptr 0 0), .c (.int .i64 0)]) webO := by
  refine fn_sound (mt := mts) tab_fits tab_mixed Tryz.func117 (by rfl) (by kernel_rfl) (by kernel_rfl) Tryz.results117 (Nat.le_of_ble_eq_true (by kernel_rfl)) ?_
  conv => whnf
  repeat' (first | (refine CondG.mk (fun h => absurd h (by decide +kernel)) (fun h => ?_); clear h; conv => whnf) | (refine .mk _ _ (by first | exact siteFault_c | exact webNew_c | exact webHas_c | exact webTouches_c) ?_; conv => whnf) | fail)
  all_goals first | exact .mk ⟨rfl, rfl⟩ | trace_state
abbrev spl0 : List V := [.str ⟨#[]⟩, .str ⟨#[]⟩, .int .i64 0, .str ⟨#[]⟩, .int .i64 0, .int .i64 0]
set_option maxRecDepth 100000 in
set_option maxHeartbeats 4000000 in
theorem webAt_c (s : V) (hs : s = cA ∨ s = cB) : PCp 118 [.c (.ptr 0 0), .agg [s, cC, n1]] webO (.tup [.agg spl0, .c (.bool false)]) webO := by
  rcases hs with rfl | rfl
  · refine fn_sound (mt := mts) tab_fits tab_mixed Tryz.func118 (by rfl) (by kernel_rfl) (by kernel_rfl) Tryz.results118 (Nat.le_of_ble_eq_true (by kernel_rfl)) ?_
    conv => whnf
    repeat' (first | (refine look_no (by decide +kernel) ?_; conv => whnf) | fail)
    all_goals first | exact .mk ⟨rfl, rfl⟩ | trace_state
  · refine fn_sound (mt := mts) tab_fits tab_mixed Tryz.func118 (by rfl) (by kernel_rfl) (by kernel_rfl) Tryz.results118 (Nat.le_of_ble_eq_true (by kernel_rfl)) ?_
    conv => whnf
    repeat' (first | (refine look_no (by decide +kernel) ?_; conv => whnf) | fail)
    all_goals first | exact .mk ⟨rfl, rfl⟩ | trace_state
set_option maxRecDepth 100000 in
set_option maxHeartbeats 4000000 in
theorem webHop_c : PCp 165 [.c (.ptr 0 0), .agg [cB, cC, n1]] webO (.agg [cC, n1, cB, cA]) webO := by
  refine fn_sound (mt := mts) tab_fits tab_mixed Tryz.func165 (by rfl) (by kernel_rfl) (by kernel_rfl) Tryz.results165 (Nat.le_of_ble_eq_true (by kernel_rfl)) ?_
  conv => whnf
  repeat' (first | (refine CondG.mk (fun h => absurd h (by decide +kernel)) (fun h => ?_); clear h; conv => whnf) | (refine look_ix 0 (by rfl) (by decide +kernel) ?_; conv => whnf) | fail)
  all_goals first | exact .mk ⟨rfl, rfl⟩ | trace_state
set_option maxRecDepth 100000 in
set_option maxHeartbeats 4000000 in
theorem webNext_c : PCp 166 [.c (.ptr 0 0), .agg [cC, n1, cB, cA]] webO (.tup [.agg [.str ⟨#[]⟩, .str ⟨#[]⟩, .int .i64 0], .c (.bool false)]) webO := by
  refine fn_sound (mt := mts) tab_fits tab_mixed Tryz.func166 (by rfl) (by kernel_rfl) (by kernel_rfl) Tryz.results166 (Nat.le_of_ble_eq_true (by kernel_rfl)) ?_
  conv => whnf
  repeat' (first | (refine CondG.mk (fun h => ?_) (fun h => absurd h (by decide +kernel)); clear h; conv => whnf) | (refine .mk _ _ (by exact webAt_c cA (.inl rfl)) ?_; conv => whnf) | fail)
  all_goals first | exact .mk ⟨rfl, rfl⟩ | trace_state
set_option maxRecDepth 100000 in
set_option maxHeartbeats 4000000 in
theorem webPath_c : PCp 119 [.c (.ptr 0 0), .agg [cB, cC, n1]] webO (.tup [.c (.row 4), .c (.bool false)]) (webO ++ [.row 254 4 [[cC, n1, cB, cA]]]) := by
  refine fn_sound (mt := mts) tab_fits tab_mixed Tryz.func119 (by rfl) (by kernel_rfl) (by kernel_rfl) Tryz.results119 (Nat.le_of_ble_eq_true (by kernel_rfl)) ?_
  conv => whnf
  repeat' (first | (refine CondG.mk (fun h => ?_) (fun h => absurd h (by decide +kernel)); clear h; conv => whnf) | (refine .mk _ _ (by first | exact webHop_c | exact webNext_c) ?_; conv => whnf) | (refine .mk (by first | decide | (unfold roomOK; decide)) ?_; conv => whnf) | (refine LoopG.un 12 ?_; conv => whnf) | fail)
  all_goals first | exact .mk ⟨rfl, rfl⟩ | trace_state
set_option maxRecDepth 100000 in
set_option maxHeartbeats 4000000 in
theorem path_c : PCp 57 [.agg tinyL, .agg [cC, n1], .c cB] [] (.tup [.c (.row 0), .c (.int .i64 0)]) [.row 254 4 [[cC, n1, cB, cA]]] := by
  refine fn_sound (mt := mts) tab_fits tab_mixed Tryz.func57 (by rfl) (by kernel_rfl) (by kernel_rfl) Tryz.results57 (Nat.le_of_ble_eq_true (by kernel_rfl)) ?_
  conv => whnf
  repeat' (first | (refine CondG.mk (fun h => absurd h (by decide +kernel)) (fun h => ?_); clear h; conv => whnf) | (refine .mk _ _ (by first | exact endOf_c | exact webAt_c cB (.inr rfl) | exact webPath_c) ?_; conv => whnf) | fail)
  all_goals first | exact .mk ⟨rfl, rfl⟩ | trace_state
end Go.Proofs.YtilfcojhdhgmfaaGreatDoor

namespace Go.Proofs.YtilfcojhdhgmfaaGreatDoor
set_option linter.unusedVariables false
set_option linter.unusedSimpArgs false
open Abs

abbrev trP : V := .lst 1 [[.int .i64 10], [.int .i64 10], [.int .i64 4], [.int .i64 4]]
abbrev trR : List V := [.int .i64 5, .int .i64 2, .int .i64 3, .int .i64 0, .int .i64 1]
set_option maxRecDepth 100000 in
set_option maxHeartbeats 4000000 in
theorem isReading_c (n : Int) (h : -10000 ≤ n ∧ n ≤ 10000) : PCp 214 [.c (.int .i64 n)] [] (.c (.bool true)) [] := by
  refine fn_sound (mt := mts) tab_fits tab_mixed Tryz.func214 (by rfl) (by kernel_rfl) (by kernel_rfl) Tryz.results214 (Nat.le_of_ble_eq_true (by kernel_rfl)) ?_
  conv => whnf
  repeat' (first | (refine .mk _ _ (by exact bOut_pc _ _ _) ?_; conv => whnf) | fail)
  exact finb (by simp; omega)
set_option maxRecDepth 100000 in
set_option maxHeartbeats 4000000 in
theorem checkTrace_c : PCp 167 [.c trP] [] (.c (.int .i64 0)) [] := by
  refine fn_sound (mt := mts) tab_fits tab_mixed Tryz.func167 (by rfl) (by kernel_rfl) (by kernel_rfl) Tryz.results167 (Nat.le_of_ble_eq_true (by kernel_rfl)) ?_
  conv => whnf
  repeat' (first | (refine CondG.mk (fun h => ?_) (fun h => absurd h (by decide +kernel)); clear h; conv => whnf) | (refine CondG.mk (fun h => absurd h (by decide +kernel)) (fun h => ?_); clear h; conv => whnf) | (refine .mk _ _ (by exact isReading_c _ (by decide)) ?_; conv => whnf) | (refine IdxG.mk _ ⟨by decide, by rfl⟩ ?_; conv => whnf) | (refine LoopG.un 12 ?_; conv => whnf) | fail)
  all_goals first | exact .mk ⟨rfl, rfl⟩ | trace_state
theorem sboolT {a b : Bool} (h : a = b) : oneOf [S.c (.bool a)] = S.c (.bool b) := by rw [h]; rfl
set_option maxRecDepth 100000 in
set_option maxHeartbeats 4000000 in
theorem bLowest_c : PCp 215 [.agg [.int .i64 0, .int .i64 1]] [] (.c (.bool true)) [] := by
  refine fn_sound (mt := mts) tab_fits tab_mixed Tryz.func215 (by rfl) (by kernel_rfl) (by kernel_rfl) Tryz.results215 (Nat.le_of_ble_eq_true (by kernel_rfl)) ?_
  conv => whnf
  repeat' (first | (refine CondG.mk (fun h => ?_) (fun h => absurd h (by decide +kernel)); clear h; conv => whnf) | (refine CondG.mk (fun h => absurd h (by decide +kernel)) (fun h => ?_); clear h; conv => whnf) | (refine .mk (by first | decide | (unfold roomOK; decide)) ?_; conv => whnf) | (refine LoopG.un 12 ?_; conv => whnf) | fail)
  all_goals first | exact .mk ⟨rfl, rfl⟩ | exact .mk ⟨sboolT (by decide +kernel), rfl⟩ | trace_state
set_option maxRecDepth 100000 in
set_option maxHeartbeats 4000000 in
theorem checkRules_c : PCp 168 [.agg trR] [] (.c (.int .i64 0)) [] := by
  refine fn_sound (mt := mts) tab_fits tab_mixed Tryz.func168 (by rfl) (by kernel_rfl) (by kernel_rfl) Tryz.results168 (Nat.le_of_ble_eq_true (by kernel_rfl)) ?_
  conv => whnf
  repeat' (first | (refine CondG.mk (fun h => absurd h (by decide +kernel)) (fun h => ?_); clear h; conv => whnf) | (refine Split.mk (fun h => absurd h (by decide +kernel)) (fun h => ?_); clear h; conv => whnf) | (refine .mk _ _ (by first | exact bOut_pc _ _ _ | exact bLowest_c) ?_; conv => whnf) | fail)
  all_goals first | exact .mk ⟨rfl, rfl⟩ | trace_state
set_option maxRecDepth 100000 in
set_option maxHeartbeats 4000000 in
theorem traceFault_c : PCp 120 [.c trP, .agg trR] [] (.c (.int .i64 0)) [] := by
  refine fn_sound (mt := mts) tab_fits tab_mixed Tryz.func120 (by rfl) (by kernel_rfl) (by kernel_rfl) Tryz.results120 (Nat.le_of_ble_eq_true (by kernel_rfl)) ?_
  conv => whnf
  repeat' (first | (refine .mk _ _ (by first | exact checkTrace_c | exact checkRules_c | exact first_pc [0, 0] (by decide)) ?_; conv => whnf) | fail)
  all_goals first | exact .mk ⟨rfl, rfl⟩ | trace_state
set_option maxRecDepth 100000 in
set_option maxHeartbeats 4000000 in
theorem sum_c1 : PCp 169 [.c (.lst 1 [[.int .i64 10], [.int .i64 10]])] [] (.c (.int .i64 20)) [] := by
  refine fn_sound (mt := mts) tab_fits tab_mixed Tryz.func169 (by rfl) (by kernel_rfl) (by kernel_rfl) Tryz.results169 (Nat.le_of_ble_eq_true (by kernel_rfl)) ?_
  conv => whnf
  repeat' (first | (refine CondG.mk (fun h => ?_) (fun h => absurd h (by decide +kernel)); clear h; conv => whnf) | (refine CondG.mk (fun h => absurd h (by decide +kernel)) (fun h => ?_); clear h; conv => whnf) | (refine IdxG.mk _ ⟨by decide, by rfl⟩ ?_; conv => whnf) | (refine LoopG.un 12 ?_; conv => whnf) | fail)
  all_goals first | exact .mk ⟨rfl, rfl⟩ | trace_state
set_option maxRecDepth 100000 in
set_option maxHeartbeats 4000000 in
theorem sum_c2 : PCp 169 [.c (.lst 1 [[.int .i64 4], [.int .i64 4]])] [] (.c (.int .i64 8)) [] := by
  refine fn_sound (mt := mts) tab_fits tab_mixed Tryz.func169 (by rfl) (by kernel_rfl) (by kernel_rfl) Tryz.results169 (Nat.le_of_ble_eq_true (by kernel_rfl)) ?_
  conv => whnf
  repeat' (first | (refine CondG.mk (fun h => ?_) (fun h => absurd h (by decide +kernel)); clear h; conv => whnf) | (refine CondG.mk (fun h => absurd h (by decide +kernel)) (fun h => ?_); clear h; conv => whnf) | (refine IdxG.mk _ ⟨by decide, by rfl⟩ ?_; conv => whnf) | (refine LoopG.un 12 ?_; conv => whnf) | fail)
  all_goals first | exact .mk ⟨rfl, rfl⟩ | trace_state
set_option maxRecDepth 100000 in
set_option maxHeartbeats 4000000 in
theorem fraction_c : PCp 144 [.c (.int .i64 12), .c (.int .i64 2)] [] (.agg [.int .i64 6, .int .i64 1]) [] := by
  have g : PCp 190 [.c (.int .i64 12), .c (.int .i64 2)] [] (.c (.int .i64 2)) [] := by
    refine fn_sound (mt := mts) tab_fits tab_mixed Tryz.func190 (by rfl) (by kernel_rfl) (by kernel_rfl) Tryz.results190 (Nat.le_of_ble_eq_true (by kernel_rfl)) ?_
    conv => whnf
    repeat' (first | (refine CondG.mk (fun h => ?_) (fun h => absurd h (by decide +kernel)); clear h; conv => whnf) | (refine CondG.mk (fun h => absurd h (by decide +kernel)) (fun h => ?_); clear h; conv => whnf) | (refine .mk (by first | decide | (unfold roomOK; decide)) ?_; conv => whnf) | (refine LoopG.un 12 ?_; conv => whnf) | fail)
    all_goals first | exact .mk ⟨rfl, rfl⟩ | trace_state
  refine fn_sound (mt := mts) tab_fits tab_mixed Tryz.func144 (by rfl) (by kernel_rfl) (by kernel_rfl) Tryz.results144 (Nat.le_of_ble_eq_true (by kernel_rfl)) ?_
  conv => whnf
  repeat' (first | (refine .mk _ _ (by exact g) ?_; conv => whnf) | (refine .mk (by first | decide | (unfold roomOK; decide)) ?_; conv => whnf) | fail)
  all_goals first | exact .mk ⟨rfl, rfl⟩ | trace_state
set_option maxRecDepth 100000 in
set_option maxHeartbeats 4000000 in
theorem excess_c : PCp 121 [.c trP, .agg trR] [] (.c (.row 0)) [.row 129 2 [[.int .i64 6, .int .i64 1]]] := by
  refine fn_sound (mt := mts) tab_fits tab_mixed Tryz.func121 (by rfl) (by kernel_rfl) (by kernel_rfl) Tryz.results121 (Nat.le_of_ble_eq_true (by kernel_rfl)) ?_
  conv => whnf
  repeat' (first | (refine CondG.mk (fun h => ?_) (fun h => absurd h (by decide +kernel)); clear h; conv => whnf) | (refine CondG.mk (fun h => absurd h (by decide +kernel)) (fun h => ?_); clear h; conv => whnf) | (refine .mk _ _ (by first | exact sum_c1 | exact sum_c2 | exact fraction_c) ?_; conv => whnf) | (refine .mk (by first | decide | (unfold roomOK; decide)) ?_; conv => whnf) | (refine LoopG.un 12 ?_; conv => whnf) | fail)
  all_goals first | exact .mk ⟨rfl, rfl⟩ | trace_state
set_option maxRecDepth 100000 in
set_option maxHeartbeats 4000000 in
theorem down_c : PCp 123 [.c (.int .i64 13), .c (.int .i64 2)] [] (.c (.int .i64 6)) [] := by
  refine fn_sound (mt := mts) tab_fits tab_mixed Tryz.func123 (by rfl) (by kernel_rfl) (by kernel_rfl) Tryz.results123 (Nat.le_of_ble_eq_true (by kernel_rfl)) ?_
  conv => whnf
  repeat' (first | (refine CondG.mk (fun h => absurd h (by decide +kernel)) (fun h => ?_); clear h; conv => whnf) | (refine .mk (by first | decide | (unfold roomOK; decide)) ?_; conv => whnf) | fail)
  all_goals first | exact .mk ⟨rfl, rfl⟩ | trace_state
set_option maxRecDepth 100000 in
set_option maxHeartbeats 4000000 in
theorem flush_c : PCp 122 [.c (.ptr 0 0), .c (.ptr 1 0), .c (.ptr 3 0), .c (.ptr 4 0)] [.box [.int .i64 0], .box [.row 2], .row 129 2 [[.int .i64 6, .int .i64 1]], .box [.nils], .box trR] (.tup []) [.box [.int .i64 (-1)], .box [.row 2], .row 129 2 [[.int .i64 6, .int .i64 1]], .box [.row 5], .box trR, .row 201 2 [[.int .i64 10, .int .i64 6]]] := by
  refine fn_sound (mt := mts) tab_fits tab_mixed Tryz.func122 (by rfl) (by kernel_rfl) (by kernel_rfl) Tryz.results122 (Nat.le_of_ble_eq_true (by kernel_rfl)) ?_
  conv => whnf
  repeat' (first | (refine CondG.mk (fun h => ?_) (fun h => absurd h (by decide +kernel)); clear h; conv => whnf) | (refine .mk _ _ (by exact down_c) ?_; conv => whnf) | (refine .mk (by first | decide | (unfold roomOK; decide)) ?_; conv => whnf) | (refine RowG.mk _ (by rfl) ?_; conv => whnf) | fail)
  all_goals first | exact .mk ⟨rfl, rfl⟩ | trace_state
set_option maxRecDepth 100000 in
set_option maxHeartbeats 4000000 in
theorem detected_c : PCp 59 [.c trP, .agg trR] [] (.tup [.c (.row 0), .c (.int .i64 0)]) [.row 201 2 [[.int .i64 10, .int .i64 6]]] := by
  refine fn_sound (mt := mts) tab_fits tab_mixed Tryz.func59 (by rfl) (by kernel_rfl) (by kernel_rfl) Tryz.results59 (Nat.le_of_ble_eq_true (by kernel_rfl)) ?_
  conv => whnf
  repeat' (first | (refine CondG.mk (fun h => ?_) (fun h => absurd h (by decide +kernel)); clear h; conv => whnf) | (refine CondG.mk (fun h => absurd h (by decide +kernel)) (fun h => ?_); clear h; conv => whnf) | (refine Split.mk (fun h => ?_) (fun h => absurd h (by decide +kernel)); clear h; conv => whnf) | (refine .mk _ _ (by first | exact traceFault_c | exact excess_c | exact flush_c) ?_; conv => whnf) | (refine .mk (by first | decide | (unfold roomOK; decide)) ?_; conv => whnf) | (refine RowG.mk _ (by rfl) ?_; conv => whnf) | (refine LoopG.un 12 ?_; conv => whnf) | fail)
  all_goals first | exact .mk ⟨rfl, rfl⟩ | trace_state
end Go.Proofs.YtilfcojhdhgmfaaGreatDoor

namespace Go.Proofs.YtilfcojhdhgmfaaGreatDoor
set_option linter.unusedVariables false
set_option linter.unusedSimpArgs false
open Abs

abbrev MN := SM ByteArray Int
def fl (left : List ByteArray) (x : Sv) : List ByteArray := left.filter fun k => decide (k ∈ x.els)
def gmS (left : List ByteArray) (m : MN) (x : Sv) : MN := match fl left x with | [e] => m.put e (IntKind.i64.wrap ((m.get e).getD 0 + x.cust)) | _ => m
def gm (s : List Sv) (left : List ByteArray) : MN := s.foldl (gmS left) SM.nil
end Go.Proofs.YtilfcojhdhgmfaaGreatDoor

namespace Go.Proofs.YtilfcojhdhgmfaaGreatDoor
set_option linter.unusedVariables false
set_option linter.unusedSimpArgs false
open Abs

end Go.Proofs.YtilfcojhdhgmfaaGreatDoor

namespace Go.Proofs.YtilfcojhdhgmfaaGreatDoor
set_option linter.unusedVariables false
set_option linter.unusedSimpArgs false
open Abs

end Go.Proofs.YtilfcojhdhgmfaaGreatDoor

namespace Go.Proofs.YtilfcojhdhgmfaaGreatDoor
set_option linter.unusedVariables false
set_option linter.unusedSimpArgs false
open Abs

end Go.Proofs.YtilfcojhdhgmfaaGreatDoor

namespace Go.Proofs.YtilfcojhdhgmfaaGreatDoor
set_option linter.unusedVariables false
set_option linter.unusedSimpArgs false
open Abs

end Go.Proofs.YtilfcojhdhgmfaaGreatDoor

namespace Go.Proofs.YtilfcojhdhgmfaaGreatDoor
set_option linter.unusedVariables false
set_option linter.unusedSimpArgs false
open Abs

end Go.Proofs.YtilfcojhdhgmfaaGreatDoor

namespace Go.Proofs.YtilfcojhdhgmfaaGreatDoor
set_option linter.unusedVariables false
set_option linter.unusedSimpArgs false
open Abs

set_option maxRecDepth 100000 in
set_option maxHeartbeats 4000000 in
theorem kerrs_pc (l : List Int) (hl : l.length ≤ 1000000) : PCp 12 [.c (.lst 1 (l.map encI))] [] (.c (.int .i64 (firstErr l))) [] := by
  have hlm : (l.map encI).length = l.length := List.length_map ..
  refine fn_sound (mt := mts) tab_fits tab_mixed Tryz.func12 (by rfl) (by kernel_rfl) (by kernel_rfl) Tryz.results12 (Nat.le_of_ble_eq_true (by kernel_rfl)) ?_
  conv => whnf
  refine loop_count (l.length) [] [5, 6, 7] (fun k (_ : Unit) => ⟨[(5, .c (.lst 1 (l.map encI))), (6, .c (.int .i64 (l.map encI).length)), (7, .c (.int .i64 k))], [], 0⟩) (fun k (_ : Unit) => firstErr (l.drop k) = firstErr l) (()) ?_ ?_ ?_
  · conv => whnf
    exact ⟨rfl, rfl⟩
  · intro k _ hk hi
    rw [drop_cons hk, firstErr] at hi
    conv => whnf
    repeat' (first | (refine .mk (fun h => ?_) (fun h => ?_) <;> (try simp only [decide_eq_true_eq, decide_eq_false_iff_not, Bool.not_eq_true', Bool.not_eq_false', beq_iff_eq, beq_eq_false_iff_ne] at h) <;> (first | (exfalso; first | omega | exact h trivial) | (conv => whnf))) | fail)
    refine idx_map k hk rfl ?_
    conv => whnf
    repeat' (first | (refine .mk (fun h => ?_) (fun h => ?_) <;> (try simp only [decide_eq_true_eq, decide_eq_false_iff_not, Bool.not_eq_true', Bool.not_eq_false', beq_iff_eq, beq_eq_false_iff_ne] at h) <;> (first | (exfalso; first | omega | exact h trivial) | (conv => whnf))) | fail)
    · exact fini (by rw [← hi, if_neg (by simpa using h)])
    · refine count_next () hk (by rw [wrap_succ hk (by omega)]; rfl) ?_
      rw [← hi, if_pos (by simpa using h)]
  · intro _ hi
    rw [List.drop_of_length_le (Nat.le_refl _)] at hi
    conv => whnf
    repeat' (first | (refine .mk (fun h => ?_) (fun h => ?_) <;> (try simp only [decide_eq_true_eq, decide_eq_false_iff_not, Bool.not_eq_true', Bool.not_eq_false', beq_iff_eq, beq_eq_false_iff_ne] at h) <;> (first | (exfalso; first | omega | exact h trivial) | (conv => whnf))) | fail)
    exact fini (by rw [← hi]; rfl)
set_option maxRecDepth 100000 in
set_option maxHeartbeats 4000000 in
theorem ready_pc : PCp 18 [] [] (.c (.bool true)) [] := by
  have h1 : seenErr [⟨⟨#[115]⟩, [⟨#[97]⟩], 1⟩] [⟨#[115]⟩] [] = 0 := by decide +kernel
  have h2 : susV [⟨⟨#[115]⟩, [⟨#[97]⟩], 1⟩] [⟨#[115]⟩] [] = [⟨#[97]⟩] := by decide +kernel
  have hF := suspectsP_pc [⟨⟨#[115]⟩, [⟨#[97]⟩], 1⟩] (by simp) [⟨#[115]⟩] []
  rw [if_pos h1, h2, h1] at hF
  have hG := hF.wk (gs := [.c (.lst 3 ([⟨⟨#[115]⟩, [⟨#[97]⟩], 1⟩].map encSv)), .c (.lst 1 ([⟨#[115]⟩].map encS)), .c .nils]) (P2.cons (.refl _) (P2.cons (.refl _) (P2.cons (.c (.nils 1)) P2.nil)))
  have hm : mostX [⟨⟨#[100]⟩, ⟨#[97]⟩, ⟨#[98]⟩, 1, 100⟩] [] ⟨#[100]⟩ 36 = 3 := by decide +kernel
  have ht : twoE [⟨⟨#[100]⟩, ⟨#[97]⟩, ⟨#[98]⟩, 1, 100⟩] [] ⟨#[100]⟩ 36 = 0 := by decide +kernel
  have hM := dMostX_pc [⟨⟨#[100]⟩, ⟨#[97]⟩, ⟨#[98]⟩, 1, 100⟩] [] (by simp) ⟨#[100]⟩ 36
  rw [hm, ht] at hM
  have hN := hM.wk (gs := [.c (.lst 5 ([⟨⟨#[100]⟩, ⟨#[97]⟩, ⟨#[98]⟩, 1, 100⟩].map encDu)), .c .nils, .c (.str ⟨#[100]⟩), .c (.int .i64 36)]) (P2.cons (.refl _) (P2.cons (.c (.nils 3)) (P2.cons (.refl _) (P2.cons (.refl _) P2.nil))))
  have hS := stock_pc ⟨1, 1, ⟨#[100]⟩, ⟨#[116]⟩, ⟨#[]⟩, 5⟩ rfl (by decide +kernel) 1 (by decide) (by decide)
  refine fn_sound (mt := mts) tab_fits tab_mixed Tryz.func18 (by rfl) (by kernel_rfl) (by kernel_rfl) Tryz.results18 (Nat.le_of_ble_eq_true (by kernel_rfl)) ?_
  conv => whnf
  repeat' (first | (refine Split.mk (fun h => ?_) (fun h => absurd h (by decide +kernel)); clear h; conv => whnf) | (refine .mk _ _ (by first | exact tiny_c | exact path_c | exact detected_c | exact hG | exact hN | exact hS | exact kerrs_pc [0, 0, 0, 0, 0] (by decide)) ?_; conv => whnf) | fail)
  all_goals first | exact .mk ⟨rfl, rfl⟩ | exact .mk ⟨sbool (by decide +kernel), rfl⟩ | trace_state
end Go.Proofs.YtilfcojhdhgmfaaGreatDoor

namespace Go.Proofs.YtilfcojhdhgmfaaGreatDoor
set_option linter.unusedVariables false
set_option linter.unusedSimpArgs false
open Abs

theorem same_grown (w : World) : w.grownBy w none := ⟨rfl, rfl, rfl, Nat.le_refl _, fun _ _ _ => rfl⟩
theorem PCs.of_plain {P : Program} {f : Nat} {args : List S} {r : S} {cargs : Array Value} {c : Value} (hfn : ∃ fn, P.funcs[f]? = some fn ∧ (fn.name == "runtime.NumGoroutine") = false ∧ fn.body.isNone = false)
    (ha : ∀ (F : Nat → Prop) (φ : Nat → Option Value) (w : World) (cs : Array Value), P2 (RS F φ w) cs.toList args → cs = cargs) (hr : ∀ (F : Nat → Prop) (φ : Nat → Option Value) (w : World), RS F φ w c r)
    (h : ∀ w, Calls P f cargs w fun e w' => e = .returned c ∧ w.grownBy w' none ∧ (dm → w.drawn ≤ w'.drawn)) : PCs P f args [] r [] := by
  refine ⟨hfn, fun F φ w cs hp hrp hφ => ?_⟩
  have := ha F φ w cs hp
  subst this
  refine (h w).mono ?_
  rintro e w' ⟨rfl, hg, hd⟩
  refine ⟨c, F, φ, r, [], ⟨rfl, rfl⟩, rfl, hr F φ _, ⟨fun _ h => h, fun _ _ h => h, fun _ _ h => .inl h, hg.os, hg.tape, hg.output, hd, hg.size, fun b hb hne => (hne (hg.block b hb (by simp))).elim, fun b h => .inl h, ?_, ?_, ?_⟩⟩
  · intro l o h; simp [chOf, chGet] at h
  · intro l o b h; simp [chOf, chGet] at h
  · intro l l' o o' b h; simp [chOf, chGet] at h
theorem one_str {F : Nat → Prop} {φ : Nat → Option Value} {w : World} {cs : Array Value} {s : ByteArray} (hp : P2 (RS F φ w) cs.toList [.c (.str s)]) : cs = #[.string s] := by
  obtain ⟨x, xs, e1, r1, hp⟩ := hp.cons_inv
  have := hp.nil_inv
  subst this
  exact Array.ext' (by rw [e1, r1.str_inv])
theorem two_str {F : Nat → Prop} {φ : Nat → Option Value} {w : World} {cs : Array Value} {s t : ByteArray} (hp : P2 (RS F φ w) cs.toList [.c (.str s), .c (.str t)]) : cs = #[.string s, .string t] := by
  obtain ⟨x, xs, e1, r1, hp⟩ := hp.cons_inv
  obtain ⟨y, ys, e2, r2, hp⟩ := hp.cons_inv
  have := hp.nil_inv
  subst this e2
  exact Array.ext' (by rw [e1, r1.str_inv, r2.str_inv])
theorem numOk_len {d : Nat} {s : List UInt8} (h : numOk d s = true) : s.length ≤ d + 1 := by
  simp only [numOk, Bool.and_eq_true, decide_eq_true_eq] at h
  cases s with
  | nil => simp
  | cons b r =>
    rw [unsg_cons] at h
    split at h <;> simp only [List.length_cons] at h ⊢ <;> omega
theorem atoi_plain (d : Nat) (s : List UInt8) (h : numOk d s = true) (hd : d ≤ 17) : Lib.atoi s = some (numV s) := by
  have h0 := atoi_num d s h hd
  have hl := numOk_len h
  rw [Lib.atoiAll_short _ (by omega)] at h0
  cases ha : Lib.atoi s with
  | none => rw [ha] at h0; cases h0
  | some n => rw [ha] at h0; injection h0 with h1; rw [h1]
abbrev b1 (c : UInt8) : ByteArray := ⟨#[c]⟩
abbrev BL (l : List UInt8) : ByteArray := ⟨l.toArray⟩
theorem bl_data (s : ByteArray) : BL s.data.toList = s := by cases s; simp
theorem trimPre_pc (s : ByteArray) : PCp 142 [.c (.str s), .c (.str (b1 45))] [] (.c (.str (BL (unsg s.data.toList)))) [] :=
  PCs.of_plain ⟨_, Tryz.func142, by kernel_rfl, by kernel_rfl⟩ (fun F φ w cs hp => two_str hp) (fun F φ w => .c (.tree (.str _)))
    (fun w => (Any.strings_TrimPrefix layTrimPrefix s (b1 45) w).mono fun e w' ⟨h1, h2⟩ => ⟨h1, h2 ▸ same_grown w, h2 ▸ fun _ => Nat.le_refl _⟩)
theorem cutSuf_pc (s : ByteArray) (hs : s.size ≤ 9223372036854775807) : PCp 155 [.c (.str s), .c (.str (b1 10))] [] (.tup [.c (.str (BL (Lib.trimSuffix s.data.toList [10]))), .c (.bool (Lib.hasSuffix s.data.toList [10]))]) [] :=
  PCs.of_plain ⟨_, Tryz.func155, by kernel_rfl, by kernel_rfl⟩ (fun F φ w cs hp => two_str hp)
    (fun F φ w => .tup _ _ rfl (by
      intro j x y h1 h2
      match j with
      | 0 => simp at h1 h2; subst h1 h2; exact .c (.tree (.str _))
      | 1 => simp at h1 h2; subst h1 h2; exact .c (.tree (.bool _))
      | j + 2 => simp at h1))
    (fun w => (Any.strings_CutSuffix layCutSuffix s (b1 10) w hs).mono fun e w' ⟨h1, h2⟩ => ⟨h1, h2 ▸ same_grown w, h2 ▸ fun _ => Nat.le_refl _⟩)
theorem bytes_grown (w : World) (e : TypeId) (s : ByteArray) : w.grownBy (Lib.bytesWorld w e s) none ∧ (dm → w.drawn ≤ (Lib.bytesWorld w e s).drawn) := by
  have h := Lib.bytesWorld_below w e s
  exact ⟨⟨h.os, h.tape, h.output, h.size, fun b hb _ => h.block b hb⟩, fun _ => by unfold Lib.bytesWorld; rw [freeze_drawn]; exact Nat.le_succ _⟩
theorem atoi_pc (d : Nat) (s : ByteArray) (h : numOk d s.data.toList = true) (hd : d ≤ 16) : PCp 17 [.c (.str s)] [] (.tup [.c (.int .i64 (numV s.data.toList)), .c .nili]) [] := by
  have hl := numOk_len h
  have ha := atoi_plain d s.data.toList h (by omega)
  refine PCs.of_plain ⟨_, Tryz.func17, by kernel_rfl, by kernel_rfl⟩ (fun F φ w cs hp => one_str hp)
    (c := .tuple #[.int .i64 (numV s.data.toList), .nilIface]) (fun F φ w => .tup _ _ rfl (by
      intro j x y h1 h2
      match j with
      | 0 => simp at h1 h2; subst h1 h2; exact .c (.tree (.int _ _))
      | 1 => simp at h1 h2; subst h1 h2; exact .c (.tree .nili)
      | j + 2 => simp at h1)) (fun w => ?_)
  refine (Any.strconv_Atoi layAtoi s (numV s.data.toList) (by rw [show s.size = s.data.toList.length from (Array.length_toList).symm]; omega) ha w).mono ?_
  rintro e w' ⟨rfl, t, rfl⟩
  exact ⟨rfl, bytes_grown _ _ _⟩
def splB (c : UInt8) (s : ByteArray) : List ByteArray := (spl c s.data.toList).map BL
theorem spl_len (c : UInt8) : ∀ t : List UInt8, (spl c t).length ≤ t.length + 1
  | [] => by simp [spl]
  | b :: r => by
    have ih := spl_len c r
    rw [spl]
    split
    · simp only [List.length_cons]; omega
    · split
      · rename_i e; rw [e] at ih; simp only [List.length_cons] at ih ⊢; omega
      · simp
theorem mx_hand {F : Nat → Prop} {φ : Nat → Option Value} {X : Nat → Prop} {w : World} {h : Nat → Option Ob} (hr : Rp F φ X w h) : ∃ m, w.cell? ⟨2, 0, none⟩ = some (.int .i64 m) := by
  obtain ⟨_, cs, t, f, ⟨m, hm⟩, hc⟩ := hr.tb (2, fun cs => ∃ m, cs[0]? = some (.int .i64 m)) (by simp [globs])
  exact ⟨m, by simp [World.cell?, hc, hm]⟩
theorem split_pc (c : UInt8) (s : ByteArray) (hs : s.size ≤ 1000000) : PCp 81 [.c (.str s), .c (.str (b1 c))] [] (.c (.row 0)) [.row 9 1 ((splB c s).map encS)] := by
  refine ⟨⟨_, Tryz.func81, by kernel_rfl, by kernel_rfl⟩, fun F φ w cs hp hrp hφ => ?_⟩
  have hφ0 : φ 0 = none := by
    cases h : φ 0 with
    | none => rfl
    | some c => have := hφ 0 c h; simp at this
  have := two_str hp
  subst this
  obtain ⟨m, hm⟩ := mx_hand hrp
  have hsz : s.size = s.data.toList.length := (Array.length_toList).symm
  have hcnt := count_spl c s
  have hle := spl_len c s.data.toList
  refine (Any.strings_Split laySplit (by kernel_rfl) s (b1 c) m w (by omega) hm (Nat.le_refl 1)).mono ?_
  rintro e w' ⟨rfl, hw⟩
  rw [splitB_spl c s] at hw
  rw [hcnt]
  have hn : (spl c s.data.toList).length = ((splB c s).map encS).length := by simp [splB]
  generalize hN : (spl c s.data.toList).length = n at *
  have hsize : w'.heap.size = w.heap.size + 1 := by rw [hw]; exact Array.size_push ..
  have hold : ∀ b, b < w.heap.size → w'.heap[b]? = w.heap[b]? := fun b h => by rw [hw]; exact heap_alloc_old w _ h
  have hblk : ∀ b, hb (Value.slice (some ⟨w.heap.size, 0, none⟩) n n) = some b → b = w.heap.size := fun b h => hb_slice h
  refine ⟨_, F, addφ φ 0 (.slice (some ⟨w.heap.size, 0, none⟩) n n), _, _, ⟨rfl, rfl⟩, rfl, .c (.row 0 _ (by simp [addφ])), nx_made (by simp) hφ0 _ rfl _ (by rw [hw]; rfl) (by rw [hw]; rfl) (by rw [hw]; rfl) (fun _ => by rw [hw]; exact Nat.le_refl _) (by omega) hold (fun b h => by rw [hblk b h]; exact Nat.le_refl _) ?_⟩
  refine RO.mkrow (c := .slice (some ⟨w.heap.size, 0, none⟩) n n) (xs := (splB c s).map Value.string) (by simp [addφ]) (fun b h hF => ?_) ?_ ?_ ?_
  · have := hrp.bd b hF
    rw [hblk b h] at this
    omega
  · rw [← hn, hw]
    refine own_lit w 0 9 1 n ((splB c s).map Value.string) (Nat.zero_le _) (by rw [List.length_map]; rw [List.length_map] at hn; omega) (by unfold maxLen; omega)
  · have hf : ((splB c s).map encS).flatten = (splB c s).map V.str := by
      induction splB c s with
      | nil => rfl
      | cons a r ih => simp only [List.map_cons, List.flatten_cons, ih]; rfl
    rw [hf]
    refine ⟨by simp, fun j x y h1 h2 => ?_⟩
    rw [List.getElem?_map] at h2
    rw [List.getElem?_map] at h1
    cases hk : (splB c s)[j]? with
    | none => rw [hk] at h1; simp at h1
    | some b => rw [hk] at h1 h2; simp at h1 h2; subst h1 h2; exact .str _
  · intro r hr
    obtain ⟨b, _, rfl⟩ := List.mem_map.1 hr
    rfl
theorem Nx.drewN {F : Nat → Prop} {φ : Nat → Option Value} {w : World} {N : Nat → Prop} {h : Nat → Option Ob} (k : Nat) : Nx F φ w h N [] F φ (w.drewN k) := by
  have := Nx.grown (F := F) (φ := φ) (w := w) (N := N) (h := h) k #[]
  rwa [show Sort.grow (w.drewN k) #[] = w.drewN k from by unfold Sort.grow; simp only [Array.append_empty]] at this
theorem fin2n {x : S} {sz : Nat} {os : List Ob} : FinR 0 (.tup [.c (.lst sz []), x]) [] (.tup [.c .nils, x]) os :=
  .weak os (.tup _ _ rfl (by
    intro i a b ha hb
    match i with
    | 0 => cases ha; cases hb; exact .nil sz
    | 1 => cases ha; cases hb; exact .refl _)) rfl (Nat.le_refl _)
theorem fin2f {x : S} {l sz : Nat} {rows : List (List V)} {os : List Ob} (h : os[l]? = some (.frow sz rows)) : FinR 0 (.tup [.c (.lst sz rows), x]) [] (.tup [.c (.row l), x]) os :=
  .weak os (.tup _ _ rfl (by
    intro i a b ha hb
    match i with
    | 0 => cases ha; cases hb; exact .fro l sz rows h
    | 1 => cases ha; cases hb; exact .refl _)) rfl (Nat.le_refl _)
theorem fin2r {x : S} {l e sz : Nat} {rows : List (List V)} {os : List Ob} (h : os[l]? = some (.row e sz rows)) : FinR 0 (.tup [.c (.lst sz rows), x]) [] (.tup [.c (.row l), x]) os :=
  .frz l e sz rows h (fin2f (by
    have := (List.getElem?_eq_some_iff.1 h).1
    rw [List.getElem?_set_self this]))
end Go.Proofs.YtilfcojhdhgmfaaGreatDoor

namespace Go.Proofs.YtilfcojhdhgmfaaGreatDoor
set_option linter.unusedVariables false
set_option linter.unusedSimpArgs false
open Abs

theorem u64N {n : Nat} (h : n < 18446744073709551616) : IntKind.u64.wrap (n : Int) = (n : Int) := IntWalk.u64_in _ ⟨by omega, by omega⟩
theorem ofInt_nat (n : Nat) : BitVec.ofInt 64 (n : Int) = BitVec.ofNat 64 n := by
  apply BitVec.eq_of_toNat_eq
  rw [BitVec.toNat_ofInt, BitVec.toNat_ofNat]
  omega
theorem bits_and {a b : Nat} (ha : a < 18446744073709551616) (hb : b < 18446744073709551616) : bitsV .and .u64 (a : Int) (b : Int) = ((a &&& b : Nat) : Int) := by
  have h1 : (BitVec.ofInt 64 (a : Int) &&& BitVec.ofInt 64 (b : Int)).toNat = a &&& b := by
    rw [ofInt_nat, ofInt_nat, BitVec.toNat_and, BitVec.toNat_ofNat, BitVec.toNat_ofNat, Nat.mod_eq_of_lt (by simpa using ha), Nat.mod_eq_of_lt (by simpa using hb)]
  have h2 : a &&& b ≤ a := Nat.and_le_left
  show IntKind.u64.wrap (((BitVec.ofInt 64 (a : Int) &&& BitVec.ofInt 64 (b : Int)).toNat : Nat) : Int) = _
  rw [h1, u64N (by omega)]
theorem shN (x d : Nat) (si : Int) (h : (2 : Int) ^ (min si.toNat IntKind.u64.bits) = (d : Int)) : shV .shr .u64 (x : Int) si = ((x / d : Nat) : Int) := by
  show (x : Int).fdiv _ = _
  rw [h, Int.ofNat_fdiv]
end Go.Proofs.YtilfcojhdhgmfaaGreatDoor

namespace Go.Proofs.YtilfcojhdhgmfaaGreatDoor
set_option linter.unusedVariables false
set_option linter.unusedSimpArgs false
open Abs

def LowLt (a b : Nat) : Prop := ∃ i, a.testBit i = true ∧ b.testBit i = false ∧ ∀ j, j < i → a.testBit j = b.testBit j
theorem LowLt.trans {a b c : Nat} (h1 : LowLt a b) (h2 : LowLt b c) : LowLt a c := by
  obtain ⟨i, a1, a2, a3⟩ := h1
  obtain ⟨k, b1, b2, b3⟩ := h2
  rcases Nat.lt_trichotomy i k with h | h | h
  · exact ⟨i, a1, by rw [← b3 i h]; exact a2, fun j hj => by rw [a3 j hj, b3 j (by omega)]⟩
  · subst h; rw [a2] at b1; cases b1
  · exact ⟨k, by rw [a3 k h]; exact b1, b2, fun j hj => by rw [a3 j (by omega), b3 j hj]⟩
end Go.Proofs.YtilfcojhdhgmfaaGreatDoor

namespace Go.Proofs.YtilfcojhdhgmfaaGreatDoor
set_option linter.unusedVariables false
set_option linter.unusedSimpArgs false
open Abs

def o1 (x : Nat) : Nat := (x / 2 &&& 6148914691236517205) + (x &&& 6148914691236517205)
def o2 (x : Nat) : Nat := (x / 4 &&& 3689348814741910323) + (x &&& 3689348814741910323)
def o3 (x : Nat) : Nat := (x / 16 + x) &&& 1085102592571150095
def o4 (x : Nat) : Nat := x + x / 256
def o5 (x : Nat) : Nat := x + x / 65536
theorem o1_lt (x : Nat) : o1 x ≤ 2 * x := by
  have h1 : x / 2 &&& 6148914691236517205 ≤ x / 2 := Nat.and_le_left
  have h2 : x &&& 6148914691236517205 ≤ x := Nat.and_le_left
  unfold o1; omega
theorem o2_lt (x : Nat) : o2 x ≤ 2 * x := by
  have h1 : x / 4 &&& 3689348814741910323 ≤ x / 4 := Nat.and_le_left
  have h2 : x &&& 3689348814741910323 ≤ x := Nat.and_le_left
  unfold o2; omega
theorem i1 (x : Nat) (h : x < 1099511627776) : IntKind.u64.wrap (bitsV .and .u64 (shV .shr .u64 (x : Int) 1) 6148914691236517205 + bitsV .and .u64 (x : Int) 6148914691236517205) = ((o1 x : Nat) : Int) := by
  have h1 := bits_and (a := x / 2) (b := 6148914691236517205) (by omega) (by decide)
  have h2 := bits_and (a := x) (b := 6148914691236517205) (by omega) (by decide)
  have h3 := o1_lt x
  rw [shN x 2 1 (by decide)]
  exact (congr (congrArg (fun a b : Int => IntKind.u64.wrap (a + b)) h1) h2).trans (u64N (n := o1 x) (by omega))
theorem i2 (x : Nat) (h : x < 1099511627776) : IntKind.u64.wrap (bitsV .and .u64 (shV .shr .u64 (x : Int) 2) 3689348814741910323 + bitsV .and .u64 (x : Int) 3689348814741910323) = ((o2 x : Nat) : Int) := by
  have h1 := bits_and (a := x / 4) (b := 3689348814741910323) (by omega) (by decide)
  have h2 := bits_and (a := x) (b := 3689348814741910323) (by omega) (by decide)
  have h3 := o2_lt x
  rw [shN x 4 2 (by decide)]
  exact (congr (congrArg (fun a b : Int => IntKind.u64.wrap (a + b)) h1) h2).trans (u64N (n := o2 x) (by omega))
theorem i3 (x : Nat) (h : x < 1099511627776) : bitsV .and .u64 (IntKind.u64.wrap (shV .shr .u64 (x : Int) 4 + (x : Int))) 1085102592571150095 = ((o3 x : Nat) : Int) := by
  have h1 := bits_and (a := x / 16 + x) (b := 1085102592571150095) (by omega) (by decide)
  rw [shN x 16 4 (by decide), show IntKind.u64.wrap (((x / 16 : Nat) : Int) + (x : Int)) = ((x / 16 + x : Nat) : Int) from u64N (by omega)]
  exact h1
theorem i4 (x : Nat) (h : x < 1099511627776) : IntKind.u64.wrap ((x : Int) + shV .shr .u64 (x : Int) 8) = ((o4 x : Nat) : Int) := by
  rw [shN x 256 8 (by decide)]
  exact u64N (n := o4 x) (by unfold o4; omega)
theorem i5 (x : Nat) (h : x < 1099511627776) : IntKind.u64.wrap ((x : Int) + shV .shr .u64 (x : Int) 16) = ((o5 x : Nat) : Int) := by
  rw [shN x 65536 16 (by decide)]
  exact u64N (n := o5 x) (by unfold o5; omega)
end Go.Proofs.YtilfcojhdhgmfaaGreatDoor

namespace Go.Proofs.YtilfcojhdhgmfaaGreatDoor
set_option linter.unusedVariables false
set_option linter.unusedSimpArgs false
open Abs

end Go.Proofs.YtilfcojhdhgmfaaGreatDoor

namespace Go.Proofs.YtilfcojhdhgmfaaGreatDoor
set_option linter.unusedVariables false
set_option linter.unusedSimpArgs false
open Abs

end Go.Proofs.YtilfcojhdhgmfaaGreatDoor

namespace Go.Proofs.YtilfcojhdhgmfaaGreatDoor
set_option linter.unusedVariables false
set_option linter.unusedSimpArgs false
open Abs

end Go.Proofs.YtilfcojhdhgmfaaGreatDoor

namespace Go.Proofs.YtilfcojhdhgmfaaGreatDoor
set_option linter.unusedVariables false
set_option linter.unusedSimpArgs false
open Abs

end Go.Proofs.YtilfcojhdhgmfaaGreatDoor

namespace Go.Proofs.YtilfcojhdhgmfaaGreatDoor
set_option linter.unusedVariables false
set_option linter.unusedSimpArgs false
open Abs

end Go.Proofs.YtilfcojhdhgmfaaGreatDoor

namespace Go.Proofs.YtilfcojhdhgmfaaGreatDoor
set_option linter.unusedVariables false
set_option linter.unusedSimpArgs false
open Abs

end Go.Proofs.YtilfcojhdhgmfaaGreatDoor

namespace Go.Proofs.YtilfcojhdhgmfaaGreatDoor
set_option linter.unusedVariables false
set_option linter.unusedSimpArgs false
open Abs

end Go.Proofs.YtilfcojhdhgmfaaGreatDoor

namespace Go.Proofs.YtilfcojhdhgmfaaGreatDoor
set_option linter.unusedVariables false
set_option linter.unusedSimpArgs false
open Abs

end Go.Proofs.YtilfcojhdhgmfaaGreatDoor

namespace Go.Proofs.YtilfcojhdhgmfaaGreatDoor
set_option linter.unusedVariables false
set_option linter.unusedSimpArgs false
open Abs

end Go.Proofs.YtilfcojhdhgmfaaGreatDoor

namespace Go.Proofs.YtilfcojhdhgmfaaGreatDoor
set_option linter.unusedVariables false
set_option linter.unusedSimpArgs false
open Abs

end Go.Proofs.YtilfcojhdhgmfaaGreatDoor

namespace Go.Proofs.YtilfcojhdhgmfaaGreatDoor
set_option linter.unusedVariables false
set_option linter.unusedSimpArgs false
open Abs

end Go.Proofs.YtilfcojhdhgmfaaGreatDoor

namespace Go.Proofs.YtilfcojhdhgmfaaGreatDoor
set_option linter.unusedVariables false
set_option linter.unusedSimpArgs false
open Abs

end Go.Proofs.YtilfcojhdhgmfaaGreatDoor

namespace Go.Proofs.YtilfcojhdhgmfaaGreatDoor
set_option linter.unusedVariables false
set_option linter.unusedSimpArgs false
open Abs

end Go.Proofs.YtilfcojhdhgmfaaGreatDoor

namespace Go.Proofs.YtilfcojhdhgmfaaGreatDoor
set_option linter.unusedVariables false
set_option linter.unusedSimpArgs false
open Abs

theorem flat_len {α : Type} {n : Nat} : ∀ {L : List (List α)}, (∀ q ∈ L, q.length ≤ n) → L.flatten.length ≤ n * L.length
  | [], _ => by simp
  | a :: r, h => by
    have ih := flat_len (n := n) (L := r) (fun q hq => h q (by simp [hq]))
    have := h a (by simp)
    simp only [List.flatten_cons, List.length_append, List.length_cons, Nat.mul_succ]; omega
end Go.Proofs.YtilfcojhdhgmfaaGreatDoor

namespace Go.Proofs.YtilfcojhdhgmfaaGreatDoor
set_option linter.unusedVariables false
set_option linter.unusedSimpArgs false
open Abs

section
variable {s : List Sv} {down up : List ByteArray}
end
end Go.Proofs.YtilfcojhdhgmfaaGreatDoor

namespace Go.Proofs.YtilfcojhdhgmfaaGreatDoor
set_option linter.unusedVariables false
set_option linter.unusedSimpArgs false
open Abs

section
variable {s : List Sv} {b : List ByteArray}
end
end Go.Proofs.YtilfcojhdhgmfaaGreatDoor

namespace Go.Proofs.YtilfcojhdhgmfaaGreatDoor
set_option linter.unusedVariables false
set_option linter.unusedSimpArgs false
open Abs

theorem atoiI_pc (n : Int) (h0 : 0 ≤ n) (h : n < 10000000000000000) : PCp 17 [.c (.str (itoaB n))] [] (.tup [.c (.int .i64 n), .c .nili]) [] := by
  obtain ⟨u, rfl⟩ := Int.eq_ofNat_of_zero_le h0
  have hl := itoa_len u (by omega)
  have ha := atoi_itoa u (by omega)
  have hd : (itoaB (u : Int)).data.toList = Lib.itoa (u : Int) := by simp [itoaB]
  have hz : (itoaB (u : Int)).size ≤ 18 := by
    rw [show (itoaB (u : Int)).size = (itoaB (u : Int)).data.toList.length from (Array.length_toList).symm, hd]; omega
  refine PCs.of_plain ⟨_, Tryz.func17, by kernel_rfl, by kernel_rfl⟩ (fun F φ w cs hp => one_str hp)
    (c := .tuple #[.int .i64 (u : Int), .nilIface]) (fun F φ w => .tup _ _ rfl (by
      intro j x y h1 h2
      match j with
      | 0 => simp at h1 h2; subst h1 h2; exact .c (.tree (.int _ _))
      | 1 => simp at h1 h2; subst h1 h2; exact .c (.tree .nili)
      | j + 2 => simp at h1)) (fun w => ?_)
  refine (Any.strconv_Atoi layAtoi (itoaB (u : Int)) u hz (by rw [hd]; exact ha) w).mono ?_
  rintro e w' ⟨rfl, t, rfl⟩
  exact ⟨rfl, bytes_grown _ _ _⟩
end Go.Proofs.YtilfcojhdhgmfaaGreatDoor

namespace Go.Proofs.YtilfcojhdhgmfaaGreatDoor
set_option linter.unusedVariables false
set_option linter.unusedSimpArgs false
namespace Abs

theorem PCx.own {P : Program} {f : Nat} {args : List S} {objs : List Ob} {Q : S → List Ob → Prop} (i j e sz : Nat) {cells : List V} {t : Nat} (hi : objs[i]? = some (.box cells t)) (hj : cells[j]? = some .nils)
    (h : PCx P f args (objs.set i (.box (cells.set j (.row objs.length)) t) ++ [.row e sz []]) Q) : PCx P f args objs Q := by
  refine ⟨h.fn, fun F φ w cargs hp hr hφ => ?_⟩
  have hid : φ objs.length = none := by
    cases hc : φ objs.length with
    | none => rfl
    | some c => have := hφ _ c hc; omega
  have hφ1 := addφ_ext hid (.slice none 0 0)
  have hil : i < objs.length := (List.getElem?_eq_some_iff.1 hi).1
  have hb0 := hr.objs i (.box cells t) (by rw [nth_eq]; exact hi)
  have hob : ∀ l ob, nth (objs.set i (.box (cells.set j (.row objs.length)) t) ++ [.row e sz []]) l = some ob →
      (l = objs.length ∧ ob = .row e sz []) ∨ (l = i ∧ ob = .box (cells.set j (.row objs.length)) t) ∨ (l ≠ i ∧ nth objs l = some ob) := by
    intro l ob hl
    rw [nth_eq] at hl
    rcases Nat.lt_trichotomy l objs.length with h1 | h1 | h1
    · rw [List.getElem?_append_left (by simpa using h1), List.getElem?_set] at hl
      split at hl
      · rename_i e1
        subst e1
        first | rw [if_pos hil] at hl | skip
        exact .inr (.inl ⟨rfl, (Option.some.inj hl).symm⟩)
      · rename_i e1
        exact .inr (.inr ⟨Ne.symm e1, by rw [nth_eq]; exact hl⟩)
    · subst h1
      rw [List.getElem?_append_right (by simp)] at hl
      simp at hl
      exact .inl ⟨rfl, hl.symm⟩
    · rw [List.getElem?_eq_none (by simp; omega)] at hl
      cases hl
  have hdown : ∀ l ob b, nth (objs.set i (.box (cells.set j (.row objs.length)) t) ++ [.row e sz []]) l = some ob → live ob = true → Blk (addφ φ objs.length (.slice none 0 0)) l ob b → ∃ o0, nth objs l = some o0 ∧ live o0 = true ∧ Blk φ l o0 b := by
    intro l ob b hl hv hbk
    rcases hob l ob hl with ⟨rfl, rfl⟩ | ⟨rfl, rfl⟩ | ⟨_, hl0⟩
    · replace hbk := hbk.base; simp [blkOf, addφ, hb] at hbk
    · exact ⟨_, by rw [nth_eq]; exact hi, rfl, .inl (blkOf_down hφ1 (hb0.has rfl) hbk.base)⟩
    · exact ⟨_, hl0, hv, Blk_down hφ1 ((hr.objs l ob hl0).has hv) hbk⟩
  have hr1 : Rp F (addφ φ objs.length (.slice none 0 0)) (fun _ => True) w (nth (objs.set i (.box (cells.set j (.row objs.length)) t) ++ [.row e sz []])) := by
    refine ⟨?_, ?_, fun _ _ _ _ _ _ => trivial, hr.bd, ?_, hr.tb⟩
    · intro l ob hl
      rcases hob l ob hl with ⟨rfl, rfl⟩ | ⟨rfl, rfl⟩ | ⟨_, hl0⟩
      · exact RO.mkrow (c := .slice none 0 0) (xs := []) (by simp [addφ]) (fun b hb' => by simp [hb] at hb') (World.ownsRow_nil _ _ _ _) P2.nil (by simp)
      · obtain ⟨b, cs, T, g1, g2, g3, g4, g5⟩ := hb0
        refine ⟨b, cs, T, hφ1 _ _ g1, g2, g3, ⟨by simp [g4.1], fun q c v h1 h2 => ?_⟩, g5⟩
        rw [List.getElem?_set] at h2
        split at h2
        · rename_i e3
          subst e3
          split at h2
          · cases h2
            have := g4.2 _ _ _ h1 hj
            cases this with | tree hx => cases hx; exact .row _ _ (by simp [addφ])
          · cases h2
        · exact (g4.2 q c v h1 h2).up (fun _ h => h) hφ1 (fun _ _ => rfl)
      · exact (hr.objs l ob hl0).up (fun _ h => h) hφ1 (fun _ _ => rfl) (fun hv b hb' => ⟨rfl, ((hr.objs l ob hl0).lt hv hb').2⟩)
    · intro l l' o o' b h1 h2 v1 v2 k1 k2
      obtain ⟨q1, a1, a2, a3⟩ := hdown l o b h1 v1 k1
      obtain ⟨q2, c1, c2, c3⟩ := hdown l' o' b h2 v2 k2
      exact hr.inj l l' q1 q2 b a1 c1 a2 c2 a3 c3
    · intro l c hl
      unfold addφ at hl
      split at hl
      · cases hl; rfl
      · exact hr.one l c hl
  refine (h.calls F _ w cargs (hp.mono fun _ _ h => h.up (fun _ h => h) hφ1 (fun _ _ => rfl)) hr1 ?_).mono ?_
  · intro l c hl
    simp only [List.length_append, List.length_set, List.length_singleton]
    unfold addφ at hl
    split at hl
    · omega
    · have := hφ l c hl; omega
  rintro e' w' ⟨c, F', φ', r, os', hQ, rfl, hrs, hn⟩
  refine ⟨c, F', φ', r, os', hQ, rfl, hrs, hn.hF, fun l d hl => hn.hφ l d (hφ1 l d hl), ?_, hn.os, hn.tape, hn.output, hn.drawn, hn.size, ?_, ?_, hn.objs, ?_, hn.inj⟩
  · intro l d hl
    rcases hn.nφ l d hl with h1 | ⟨h1, h2⟩
    · unfold addφ at h1
      split at h1
      · rename_i e1; cases h1; exact .inr ⟨by show objs.length ≤ l; omega, rfl⟩
      · exact .inl h1
    · simp only [List.length_append, List.length_set, List.length_singleton] at h1
      exact .inr ⟨by show objs.length ≤ l; omega, h2⟩
  · intro b hb' hne
    obtain ⟨l, o, k1, k2, k3, k4⟩ := hn.keep b hb' hne
    obtain ⟨o0, q1, q2, q3⟩ := hdown l o b k1 k2 k3
    exact ⟨l, o0, q1, q2, q3, k4⟩
  · intro b hb'
    rcases hn.nF b hb' with h1 | ⟨h1, h2 | ⟨l, o, k1, k2, k3, k4⟩⟩
    · exact .inl h1
    · exact .inr ⟨h1, .inl h2⟩
    · obtain ⟨o0, q1, q2, q3⟩ := hdown l o b k1 k2 k3
      exact .inr ⟨h1, .inr ⟨l, o0, q1, q2, q3, k4⟩⟩
  · intro l o b h1 h2 h3
    rcases hn.own l o b h1 h2 h3 with h4 | ⟨l2, o2, k1, k2, k3, k4⟩
    · exact .inl h4
    · obtain ⟨o0, q1, q2, q3⟩ := hdown l2 o2 b k1 k2 k3
      exact .inr ⟨l2, o0, q1, q2, q3, k4⟩
end Abs
end Go.Proofs.YtilfcojhdhgmfaaGreatDoor

