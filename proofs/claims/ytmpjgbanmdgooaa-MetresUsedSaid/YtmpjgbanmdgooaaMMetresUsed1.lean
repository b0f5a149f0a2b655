/- Parts of the proof, in order. -/
import Derived.Test.YtmpjgbanmdgooaaC13
import Derived.Test.YtmpjgbanmdgooaaAbsZ

/- Sorting by insertion, lists without equal neighbours: as functions on lists. -/
namespace Go.Proofs.Ytmpjgbanmdgooaa
set_option linter.unusedVariables false
set_option linter.unusedSimpArgs false
open Abs

def insDown {α : Type} (c : α → α → Int) (a : Nat) : Nat → List α → List α
  | 0, l => l
  | j + 1, l => if a < j + 1 then (match l[j + 1]?, l[j]? with | some x, some y => if c x y < 0 then insDown c a j ((l.set (j + 1) y).set j x) else l | _, _ => l) else l
def insTo {α : Type} (c : α → α → Int) (a : Nat) : Nat → List α → List α
  | 0, l => l
  | m + 1, l => insDown c a (a + 1 + m) (insTo c a m l)
/-- sorted by insertion -/
def insSort {α : Type} (c : α → α → Int) (l : List α) : List α := insTo c 0 (l.length - 1) l
theorem insDown_len {α : Type} (c : α → α → Int) (a : Nat) : ∀ (j : Nat) (l : List α), (insDown c a j l).length = l.length
  | 0, l => rfl
  | j + 1, l => by
    unfold insDown
    split
    · split
      · split
        · rw [insDown_len]; simp
        · rfl
      · rfl
    · rfl
theorem insTo_len {α : Type} (c : α → α → Int) (a : Nat) : ∀ (m : Nat) (l : List α), (insTo c a m l).length = l.length
  | 0, l => rfl
  | m + 1, l => by rw [insTo, insDown_len, insTo_len]
theorem insSort_len {α : Type} (c : α → α → Int) (l : List α) : (insSort c l).length = l.length := insTo_len ..
theorem swap_perm {α : Type} {l : List α} {j : Nat} {x y : α} (hx : l[j + 1]? = some x) (hy : l[j]? = some y) : ((l.set (j + 1) y).set j x).Perm l := by
  induction l generalizing j with
  | nil => simp at hx
  | cons a r ih =>
    cases j with
    | zero =>
      cases r with
      | nil => simp at hx
      | cons b r => simp at hx hy; subst hx hy; exact List.Perm.swap _ _ _
    | succ j => exact List.Perm.cons a (ih (by simpa using hx) (by simpa using hy))
theorem insDown_perm {α : Type} (c : α → α → Int) (a : Nat) : ∀ (j : Nat) (l : List α), (insDown c a j l).Perm l
  | 0, l => List.Perm.refl _
  | j + 1, l => by
    unfold insDown
    split
    · split
      · rename_i x y hx hy
        split
        · exact (insDown_perm c a j _).trans (swap_perm hx hy)
        · exact List.Perm.refl _
      · exact List.Perm.refl _
    · exact List.Perm.refl _
theorem insTo_perm {α : Type} (c : α → α → Int) (a : Nat) : ∀ (m : Nat) (l : List α), (insTo c a m l).Perm l
  | 0, l => List.Perm.refl _
  | m + 1, l => (insDown_perm c a _ _).trans (insTo_perm c a m l)
theorem insSort_perm {α : Type} (c : α → α → Int) (l : List α) : (insSort c l).Perm l := insTo_perm ..
theorem insDown_step {α : Type} {c : α → α → Int} {a j : Nat} {l : List α} (h : a < j + 1) (h1 : j + 1 < l.length) (hc : c l[j + 1] (l[j]'(by omega)) < 0) : insDown c a (j + 1) l = insDown c a j ((l.set (j + 1) (l[j]'(by omega))).set j l[j + 1]) := by
  rw [insDown, if_pos h, List.getElem?_eq_getElem h1, List.getElem?_eq_getElem (show j < l.length by omega)]
  simp only [if_pos hc]
theorem insDown_stop {α : Type} {c : α → α → Int} {a j : Nat} {l : List α} (h1 : j + 1 < l.length) (hc : ¬ c l[j + 1] (l[j]'(by omega)) < 0) : insDown c a (j + 1) l = l := by
  rw [insDown, List.getElem?_eq_getElem h1, List.getElem?_eq_getElem (show j < l.length by omega)]
  simp only [if_neg hc]
  split <;> rfl
theorem insDown_low {α : Type} {c : α → α → Int} {a j : Nat} {l : List α} (h : ¬ a < j) : insDown c a j l = l := by
  cases j with
  | zero => rfl
  | succ j => rw [insDown, if_neg h]
theorem row_at {α : Type} {enc : α → List V} {l : List α} {i : Nat} {k : List V → Prop} (j : Nat) (hi : i = j) (hj : j < l.length) (hk : k (enc l[j])) : RowG (l.map enc) i k := by subst hi; exact row_map hj hk
theorem toN {n : Nat} : ((n : Int)).toNat = n := Int.toNat_natCast n
/-! lists: of equal neighbours one alone -/
def cptA {α : Type} [DecidableEq α] : α → List α → List α
  | _, [] => []
  | a, b :: r => if b = a then cptA a r else b :: cptA b r
def cpt {α : Type} [DecidableEq α] : List α → List α
  | [] => []
  | a :: r => a :: cptA a r
theorem cptA_len {α : Type} [DecidableEq α] : ∀ (a : α) (l : List α), (cptA a l).length ≤ l.length
  | _, [] => Nat.le_refl _
  | a, b :: r => by
    unfold cptA
    split
    · have := cptA_len a r; simp; omega
    · have := cptA_len b r; simp; omega
theorem cpt_len {α : Type} [DecidableEq α] (l : List α) : (cpt l).length ≤ l.length := by
  cases l with
  | nil => exact Nat.le_refl _
  | cons a r => have := cptA_len a r; simp [cpt]; omega
theorem cptA_id {α : Type} [DecidableEq α] : ∀ (a : α) (r : List α), cptA a r = r ↔ ∀ i (h : i + 1 < (a :: r).length), (a :: r)[i + 1] ≠ (a :: r)[i]
  | a, [] => by simp [cptA]
  | a, b :: r => by
    unfold cptA
    split
    · rename_i e
      constructor
      · intro h
        have := cptA_len a r
        rw [h] at this; simp at this; omega
      · intro h; exact (h 0 (by simp) (by simpa using e)).elim
    · rename_i e
      rw [List.cons.injEq]
      constructor
      · rintro ⟨_, h⟩ i hi
        cases i with
        | zero => simpa using e
        | succ i => exact (cptA_id b r).1 h i (by simpa using hi)
      · intro h
        refine ⟨rfl, (cptA_id b r).2 fun i hi => ?_⟩
        have := h (i + 1) (by simpa using hi)
        simpa using this
theorem cpt_id {α : Type} [DecidableEq α] (l : List α) : cpt l = l ↔ ∀ i (h : i + 1 < l.length), l[i + 1] ≠ l[i] := by
  cases l with
  | nil => simp [cpt]
  | cons a r => rw [cpt, List.cons.injEq]; simp only [true_and]; exact cptA_id a r
/-- the first ones are kept, and then the rest is looked at -/
theorem cpt_from {α : Type} [DecidableEq α] : ∀ (l : List α) (k : Nat) (hk : k < l.length), (∀ i (h : i + 1 < l.length), i + 1 ≤ k → l[i + 1] ≠ l[i]) → cpt l = l.take (k + 1) ++ cptA l[k] (l.drop (k + 1))
  | [], k, hk, _ => by simp at hk
  | a :: r, 0, _, _ => by simp [cpt]
  | [a], k + 1, hk, _ => by simp at hk
  | a :: b :: r, k + 1, hk, h => by
    have h0 := h 0 (by simp) (by omega)
    have ih := cpt_from (b :: r) k (by simpa using hk) (fun i hi h1 => by have := h (i + 1) (by simpa using hi) (by omega); simpa using this)
    rw [cpt] at ih ⊢
    rw [cptA, if_neg (by simpa using h0), ih]
    simp
theorem mem_cptA {α : Type} [DecidableEq α] : ∀ {a : α} {r : List α} {x : α}, x ∈ cptA a r → x ∈ r
  | _, [], _, h => h
  | a, b :: r, x, h => by
    unfold cptA at h
    split at h
    · exact List.mem_cons_of_mem _ (mem_cptA h)
    · rcases List.mem_cons.1 h with h | h
      · rw [h]; exact List.mem_cons_self
      · exact List.mem_cons_of_mem _ (mem_cptA h)
theorem mem_cpt {α : Type} [DecidableEq α] {l : List α} {x : α} (h : x ∈ cpt l) : x ∈ l := by
  cases l with
  | nil => exact h
  | cons a r =>
    rcases List.mem_cons.1 h with h | h
    · rw [h]; exact List.mem_cons_self
    · exact List.mem_cons_of_mem _ (mem_cptA h)
theorem cptA_drop {α : Type} [DecidableEq α] {l : List α} {j : Nat} (h0 : 0 < j) (h : j < l.length) : cptA (l[j - 1]'(by omega)) (l.drop j) = if l[j] = l[j - 1]'(by omega) then cptA (l[j]) (l.drop (j + 1)) else l[j] :: cptA (l[j]) (l.drop (j + 1)) := by
  rw [List.drop_eq_getElem_cons h, cptA]
  split
  · rename_i e; simp only [e]
  · rfl
theorem notT {b : Bool} (h : (!b) = true) : b = false := by cases b <;> simp_all
theorem notF {b : Bool} (h : (!b) = false) : b = true := by cases b <;> simp_all
theorem getElem_of_drop {α : Type} {q l : List α} {p i : Nat} (hd : q.drop p = l.drop p) (hpi : p ≤ i) (h1 : i < q.length) (h2 : i < l.length) : q[i] = l[i] := by
  have h3 := congrArg (fun r => r[i - p]?) hd
  simp only [List.getElem?_drop, show p + (i - p) = i by omega, List.getElem?_eq_getElem h1, List.getElem?_eq_getElem h2] at h3
  exact Option.some.inj h3
theorem drop_more {α : Type} {q l : List α} {p : Nat} (hd : q.drop p = l.drop p) : q.drop (p + 1) = l.drop (p + 1) := by
  rw [← List.drop_drop, ← List.drop_drop, hd]
theorem getDD {α : Type} {l : List α} {i : Nat} {d : α} (h : i < l.length) : l.getD i d = l[i] := by simp [h]
theorem cpt_same {α : Type} [DecidableEq α] {q l C : List α} {p j : Nat} {d : α} (hp : p + 1 < l.length) (hd : q.drop p = l.drop p) (hc : q.take j ++ cptA (l.getD p d) (l.drop (p + 1)) = C) (he : l[p + 1] = l[p]'(by omega)) :
    q.drop (p + 1) = l.drop (p + 1) ∧ q.take j ++ cptA (l.getD (p + 1) d) (l.drop (p + 1 + 1)) = C := by
  refine ⟨drop_more hd, ?_⟩
  rw [← hc, List.drop_eq_getElem_cons hp, cptA, getDD hp, getDD (show p < l.length by omega), if_pos he, he]
theorem cpt_new {α : Type} [DecidableEq α] {q l C : List α} {p j : Nat} {d : α} (hq : q.length = l.length) (hp : p + 1 < l.length) (hj : j ≤ p) (hd : q.drop p = l.drop p) (hc : q.take j ++ cptA (l.getD p d) (l.drop (p + 1)) = C) (he : ¬ l[p + 1] = l[p]'(by omega)) :
    (q.set j l[p + 1]).drop (p + 1) = l.drop (p + 1) ∧ (q.set j l[p + 1]).take (j + 1) ++ cptA (l.getD (p + 1) d) (l.drop (p + 1 + 1)) = C := by
  refine ⟨by rw [List.drop_set_of_lt (by omega)]; exact drop_more hd, ?_⟩
  rw [← hc, List.drop_eq_getElem_cons hp, cptA, getDD hp, getDD (show p < l.length by omega), if_neg he]
  have h1 : (q.set j l[p + 1]).take (j + 1) = q.take j ++ [l[p + 1]] := by
    rw [List.take_succ_eq_append_getElem (by simp; omega), List.take_set_of_le (Nat.le_refl _), List.getElem_set_self]
  rw [h1]
  simp
end Go.Proofs.Ytmpjgbanmdgooaa

/- Lists of acts are sorted. -/
namespace Go.Proofs.Ytmpjgbanmdgooaa
set_option linter.unusedVariables false
set_option linter.unusedSimpArgs false
open Abs

set_option maxRecDepth 100000 in
set_option maxHeartbeats 4000000 in
theorem insAct_pc  (g : Nat) (c : Ac → Ac → Int) (hg : ∀ x y : Ac, PCp g [.agg (encAc x), .agg (encAc y)] [] (.c (.int .i64 (c x y))) []) (a b : Nat) (l : List Ac) (ha : a ≤ l.length) (hb : b ≤ l.length) (hl : l.length ≤ 1000000000) :
    PCp 158 [.c (.row 0), .c (.int .i64 a), .c (.int .i64 b), .c (.fn g [])] [.row 139 6 (l.map encAc)] (.tup []) [.row 139 6 ((insTo c a (b - (a + 1)) l).map encAc)] := by
  have hw : IntKind.i64.wrap ((a : Int) + 1) = ((a + 1 : Nat) : Int) := by rw [wrap_in (by omega) (by omega)]; rfl
  refine fn_sound (mt := mts) tab_fits tab_mixed Try.func158 (by rfl) (by kernel_rfl) (by kernel_rfl) Try.results158 (Nat.le_of_ble_eq_true (by kernel_rfl)) ?_
  conv => whnf
  rw [hw]
  refine loop_count (b - (a + 1)) [] [0, 1, 2, 3, 8] (fun k (_ : Unit) => ⟨[(0, .c (.row 0)), (1, .c (.int .i64 a)), (2, .c (.int .i64 b)), (3, .c (.fn g [])), (8, .c (.int .i64 ((a + 1 + k : Nat) : Int)))], [(0, .row 139 6 ((insTo c a k l).map encAc))], 1⟩) (fun k (_ : Unit) => True) (()) ?_ ?_ ?_
  · conv => whnf
    exact ⟨rfl, trivial⟩
  · intro k _ hk _
    have hlen := insTo_len c a k l
    conv => whnf
    refine .mk (fun h => ?_) (fun h => ?_)
    rotate_left
    · simp at h; omega
    conv => whnf
    refine loop_meas2 (fun (j : Nat) (q : List Ac) => j) [] [0, 1, 2, 3, 8, 9] (fun (j : Nat) (q : List Ac) => ⟨[(0, .c (.row 0)), (1, .c (.int .i64 a)), (2, .c (.int .i64 b)), (3, .c (.fn g [])), (8, .c (.int .i64 ((a + 1 + k : Nat) : Int))), (9, .c (.int .i64 ((j : Nat) : Int)))], [(0, .row 139 6 (q.map encAc))], 1⟩) (fun (j : Nat) (q : List Ac) => insDown c a j q = insTo c a (k + 1) l ∧ j < l.length ∧ q.length = l.length) (a + 1 + k) (insTo c a k l) ?_ ?_
    · conv => whnf
      exact ⟨rfl, rfl, by omega, by omega⟩
    · intro j q ⟨h1, h2, h3⟩
      conv => whnf
      repeat' (first
        | (refine Split.mk (fun h => ?_) (fun h => ?_) <;> (try simp only [decide_eq_true_eq, decide_eq_false_iff_not, Bool.not_eq_true', Bool.not_eq_false', beq_iff_eq, beq_eq_false_iff_ne] at h) <;> (first | (exfalso; first | omega | exact h trivial) | (conv => whnf)))
        | (refine CondG.mk (fun h => ?_) (fun h => ?_) <;> (try simp only [decide_eq_true_eq, decide_eq_false_iff_not, Bool.not_eq_true', Bool.not_eq_false', beq_iff_eq, beq_eq_false_iff_ne] at h) <;> (first | (exfalso; first | omega | exact h trivial) | (conv => whnf)))
        | (refine Ask.mk (by first | omega | (unfold roomOK; simp [cutRows]; done) | (unfold roomOK; simp [cutRows]; omega)) ?_; conv => whnf)
        | (refine SliceG.fr ?_; conv => whnf)
        | fail)
      · -- one more to the left?
        obtain ⟨i, rfl⟩ : ∃ i, j = i + 1 := ⟨j - 1, by omega⟩
        have hw2 : IntKind.i64.wrap (((i + 1 : Nat) : Int) - 1) = ((i : Nat) : Int) := by rw [wrap_in (by omega) (by omega)]; omega
        refine .mk (by rw [List.length_map]; omega) ?_
        conv => whnf
        refine row_at (i + 1) toN (by omega) ?_
        conv => whnf
        rw [hw2]
        refine .mk (by rw [List.length_map]; omega) ?_
        conv => whnf
        refine row_at i toN (by omega) ?_
        conv => whnf
        repeat' (first
          | (refine Split.mk (fun h => ?_) (fun h => ?_) <;> (try simp only [decide_eq_true_eq, decide_eq_false_iff_not, Bool.not_eq_true', Bool.not_eq_false', beq_iff_eq, beq_eq_false_iff_ne] at h) <;> (first | (exfalso; first | omega | exact h trivial) | (conv => whnf)))
          | (refine CondG.mk (fun h => ?_) (fun h => ?_) <;> (try simp only [decide_eq_true_eq, decide_eq_false_iff_not, Bool.not_eq_true', Bool.not_eq_false', beq_iff_eq, beq_eq_false_iff_ne] at h) <;> (first | (exfalso; first | omega | exact h trivial) | (conv => whnf)))
          | (refine CallX.mk _ _ (by first | exact hg _ _) ?_; conv => whnf)
          | (refine CallG.mk _ _ (by first | exact hg _ _) ?_; conv => whnf)
          | (refine Ask.mk (by first | omega | (unfold roomOK; simp [cutRows]; done) | (unfold roomOK; simp [cutRows]; omega)) ?_; conv => whnf)
          | (refine SliceG.fr ?_; conv => whnf)
          | fail)
        · rw [insDown_step (by omega) (by omega) h] at h1
          repeat' (first
            | (refine Split.mk (fun h => ?_) (fun h => ?_) <;> (try simp only [decide_eq_true_eq, decide_eq_false_iff_not, Bool.not_eq_true', Bool.not_eq_false', beq_iff_eq, beq_eq_false_iff_ne] at h) <;> (first | (exfalso; first | omega | exact h trivial) | (conv => whnf)))
            | (refine CondG.mk (fun h => ?_) (fun h => ?_) <;> (try simp only [decide_eq_true_eq, decide_eq_false_iff_not, Bool.not_eq_true', Bool.not_eq_false', beq_iff_eq, beq_eq_false_iff_ne] at h) <;> (first | (exfalso; first | omega | exact h trivial) | (conv => whnf)))
            | (refine Ask.mk (by first | omega | (unfold roomOK; simp [cutRows]; done) | (unfold roomOK; simp [cutRows]; omega)) ?_; conv => whnf)
            | (refine SliceG.fr ?_; conv => whnf)
            | fail)
          rw [hw2]
          refine .mk (by rw [List.length_map]; omega) ?_
          conv => whnf
          refine row_at i toN (by omega) ?_
          conv => whnf
          refine .mk (by rw [List.length_map]; omega) ?_
          conv => whnf
          refine row_at (i + 1) toN (by omega) ?_
          conv => whnf
          refine .mk (by rw [List.length_map]; omega) ?_
          conv => whnf
          refine row_at (i + 1) toN (by omega) ?_
          conv => whnf
          refine .mk (by rw [List.length_set, List.length_map]; omega) ?_
          conv => whnf
          refine .mk (encAc (q[i]'(by omega))) (by rw [toN, toN, List.getElem?_set_ne (by omega)]; simp [show i < q.length by omega]) ?_
          conv => whnf
          refine meas_next (i, (q.set (i + 1) (q[i]'(by omega))).set i (q[i + 1]'(by omega))) (by simp only; omega) (by rw [toN, toN, hw2]; simp only [List.map_set]; rfl) ⟨h1, by simp only; omega, by simp [h3]⟩
        · rw [insDown_stop (by omega) h] at h1
          conv => whnf
          refine count_next () hk (by rw [h1, show IntKind.i64.wrap (((a + 1 + k : Nat) : Int) + 1) = ((a + 1 + (k + 1) : Nat) : Int) by rw [wrap_in (by omega) (by omega)]; omega]; rfl) trivial
      · rw [insDown_low (by omega)] at h1
        refine count_next () hk (by rw [h1, show IntKind.i64.wrap (((a + 1 + k : Nat) : Int) + 1) = ((a + 1 + (k + 1) : Nat) : Int) by rw [wrap_in (by omega) (by omega)]; omega]; rfl) trivial
  · intro _ _
    have hlen := insTo_len c a (b - (a + 1)) l
    conv => whnf
    repeat' (first
      | (refine Split.mk (fun h => ?_) (fun h => ?_) <;> (try simp only [decide_eq_true_eq, decide_eq_false_iff_not, Bool.not_eq_true', Bool.not_eq_false', beq_iff_eq, beq_eq_false_iff_ne] at h) <;> (first | (exfalso; first | omega | exact h trivial) | (conv => whnf)))
      | (refine CondG.mk (fun h => ?_) (fun h => ?_) <;> (try simp only [decide_eq_true_eq, decide_eq_false_iff_not, Bool.not_eq_true', Bool.not_eq_false', beq_iff_eq, beq_eq_false_iff_ne] at h) <;> (first | (exfalso; first | omega | exact h trivial) | (conv => whnf)))
      | (refine Ask.mk (by first | omega | (unfold roomOK; simp [cutRows]; done) | (unfold roomOK; simp [cutRows]; omega)) ?_; conv => whnf)
      | (refine SliceG.fr ?_; conv => whnf)
      | fail)
    exact .mk ⟨rfl, rfl⟩
set_option maxRecDepth 100000 in
set_option maxHeartbeats 4000000 in
theorem stAct_pc  (g : Nat) (c : Ac → Ac → Int) (hg : ∀ x y : Ac, PCp g [.agg (encAc x), .agg (encAc y)] [] (.c (.int .i64 (c x y))) []) (l : List Ac) (hl : l.length < 20) :
    PCp 105 [.c (.row 0), .c (.fn g [])] [.row 139 6 (l.map encAc)] (.tup []) [.row 139 6 ((insSort c l).map encAc)] := by
  have hlm : (l.map encAc).length = l.length := List.length_map ..
  have hst : PCp 142 [.c (.row 0), .c (.int .i64 l.length), .c (.fn g [])] [.row 139 6 (l.map encAc)] (.tup []) [.row 139 6 ((insSort c l).map encAc)] := by
    refine fn_sound (mt := mts) tab_fits tab_mixed Try.func142 (by rfl) (by kernel_rfl) (by kernel_rfl) Try.results142 (Nat.le_of_ble_eq_true (by kernel_rfl)) ?_
    conv => whnf
    refine .un 1 ?_
    conv => whnf
    repeat' (first
      | (refine Split.mk (fun h => ?_) (fun h => ?_) <;> (try simp only [decide_eq_true_eq, decide_eq_false_iff_not, Bool.not_eq_true', Bool.not_eq_false', beq_iff_eq, beq_eq_false_iff_ne] at h) <;> (first | (exfalso; first | omega | exact h trivial) | (conv => whnf)))
      | (refine CondG.mk (fun h => ?_) (fun h => ?_) <;> (try simp only [decide_eq_true_eq, decide_eq_false_iff_not, Bool.not_eq_true', Bool.not_eq_false', beq_iff_eq, beq_eq_false_iff_ne] at h) <;> (first | (exfalso; first | omega | exact h trivial) | (conv => whnf)))
      | (refine Ask.mk (by first | omega | (unfold roomOK; simp [cutRows]; done) | (unfold roomOK; simp [cutRows]; omega)) ?_; conv => whnf)
      | (refine SliceG.fr ?_; conv => whnf)
      | fail)
    refine .mk _ _ (insAct_pc g c hg 0 l.length l (Nat.zero_le _) (Nat.le_refl _) (by omega)) ?_
    conv => whnf
    refine .un 1 ?_
    conv => whnf
    repeat' (first
      | (refine Split.mk (fun h => ?_) (fun h => ?_) <;> (try simp only [decide_eq_true_eq, decide_eq_false_iff_not, Bool.not_eq_true', Bool.not_eq_false', beq_iff_eq, beq_eq_false_iff_ne] at h) <;> (first | (exfalso; first | omega | exact h trivial) | (conv => whnf)))
      | (refine CondG.mk (fun h => ?_) (fun h => ?_) <;> (try simp only [decide_eq_true_eq, decide_eq_false_iff_not, Bool.not_eq_true', Bool.not_eq_false', beq_iff_eq, beq_eq_false_iff_ne] at h) <;> (first | (exfalso; first | omega | exact h trivial) | (conv => whnf)))
      | (refine Ask.mk (by first | omega | (unfold roomOK; simp [cutRows]; done) | (unfold roomOK; simp [cutRows]; omega)) ?_; conv => whnf)
      | (refine SliceG.fr ?_; conv => whnf)
      | fail)
    exact .mk ⟨rfl, rfl⟩
  refine fn_sound (mt := mts) tab_fits tab_mixed Try.func105 (by rfl) (by kernel_rfl) (by kernel_rfl) Try.results105 (Nat.le_of_ble_eq_true (by kernel_rfl)) ?_
  conv => whnf
  rw [hlm]
  repeat' (first
    | (refine Split.mk (fun h => ?_) (fun h => ?_) <;> (try simp only [decide_eq_true_eq, decide_eq_false_iff_not, Bool.not_eq_true', Bool.not_eq_false', beq_iff_eq, beq_eq_false_iff_ne] at h) <;> (first | (exfalso; first | omega | exact h trivial) | (conv => whnf)))
    | (refine CondG.mk (fun h => ?_) (fun h => ?_) <;> (try simp only [decide_eq_true_eq, decide_eq_false_iff_not, Bool.not_eq_true', Bool.not_eq_false', beq_iff_eq, beq_eq_false_iff_ne] at h) <;> (first | (exfalso; first | omega | exact h trivial) | (conv => whnf)))
    | (refine CallX.mk _ _ (by first | exact hst) ?_; conv => whnf)
    | (refine CallG.mk _ _ (by first | exact hst) ?_; conv => whnf)
    | (refine Ask.mk (by first | omega | (unfold roomOK; simp [cutRows]; done) | (unfold roomOK; simp [cutRows]; omega)) ?_; conv => whnf)
    | (refine SliceG.fr ?_; conv => whnf)
    | fail)
  exact .mk ⟨rfl, rfl⟩
set_option maxRecDepth 100000 in
set_option maxHeartbeats 4000000 in
theorem insPc_pc  (g : Nat) (c : Pc → Pc → Int) (hg : ∀ x y : Pc, PCp g [.agg (encPc x), .agg (encPc y)] [] (.c (.int .i64 (c x y))) []) (a b : Nat) (l : List Pc) (ha : a ≤ l.length) (hb : b ≤ l.length) (hl : l.length ≤ 1000000000) :
    PCp 166 [.c (.row 0), .c (.int .i64 a), .c (.int .i64 b), .c (.fn g [])] [.row 127 3 (l.map encPc)] (.tup []) [.row 127 3 ((insTo c a (b - (a + 1)) l).map encPc)] := by
  have hw : IntKind.i64.wrap ((a : Int) + 1) = ((a + 1 : Nat) : Int) := by rw [wrap_in (by omega) (by omega)]; rfl
  refine fn_sound (mt := mts) tab_fits tab_mixed Try.func166 (by rfl) (by kernel_rfl) (by kernel_rfl) Try.results166 (Nat.le_of_ble_eq_true (by kernel_rfl)) ?_
  conv => whnf
  rw [hw]
  refine loop_count (b - (a + 1)) [] [0, 1, 2, 3, 8] (fun k (_ : Unit) => ⟨[(0, .c (.row 0)), (1, .c (.int .i64 a)), (2, .c (.int .i64 b)), (3, .c (.fn g [])), (8, .c (.int .i64 ((a + 1 + k : Nat) : Int)))], [(0, .row 127 3 ((insTo c a k l).map encPc))], 1⟩) (fun k (_ : Unit) => True) (()) ?_ ?_ ?_
  · conv => whnf
    exact ⟨rfl, trivial⟩
  · intro k _ hk _
    have hlen := insTo_len c a k l
    conv => whnf
    refine .mk (fun h => ?_) (fun h => ?_)
    rotate_left
    · simp at h; omega
    conv => whnf
    refine loop_meas2 (fun (j : Nat) (q : List Pc) => j) [] [0, 1, 2, 3, 8, 9] (fun (j : Nat) (q : List Pc) => ⟨[(0, .c (.row 0)), (1, .c (.int .i64 a)), (2, .c (.int .i64 b)), (3, .c (.fn g [])), (8, .c (.int .i64 ((a + 1 + k : Nat) : Int))), (9, .c (.int .i64 ((j : Nat) : Int)))], [(0, .row 127 3 (q.map encPc))], 1⟩) (fun (j : Nat) (q : List Pc) => insDown c a j q = insTo c a (k + 1) l ∧ j < l.length ∧ q.length = l.length) (a + 1 + k) (insTo c a k l) ?_ ?_
    · conv => whnf
      exact ⟨rfl, rfl, by omega, by omega⟩
    · intro j q ⟨h1, h2, h3⟩
      conv => whnf
      repeat' (first
        | (refine Split.mk (fun h => ?_) (fun h => ?_) <;> (try simp only [decide_eq_true_eq, decide_eq_false_iff_not, Bool.not_eq_true', Bool.not_eq_false', beq_iff_eq, beq_eq_false_iff_ne] at h) <;> (first | (exfalso; first | omega | exact h trivial) | (conv => whnf)))
        | (refine CondG.mk (fun h => ?_) (fun h => ?_) <;> (try simp only [decide_eq_true_eq, decide_eq_false_iff_not, Bool.not_eq_true', Bool.not_eq_false', beq_iff_eq, beq_eq_false_iff_ne] at h) <;> (first | (exfalso; first | omega | exact h trivial) | (conv => whnf)))
        | (refine Ask.mk (by first | omega | (unfold roomOK; simp [cutRows]; done) | (unfold roomOK; simp [cutRows]; omega)) ?_; conv => whnf)
        | (refine SliceG.fr ?_; conv => whnf)
        | fail)
      · -- one more to the left?
        obtain ⟨i, rfl⟩ : ∃ i, j = i + 1 := ⟨j - 1, by omega⟩
        have hw2 : IntKind.i64.wrap (((i + 1 : Nat) : Int) - 1) = ((i : Nat) : Int) := by rw [wrap_in (by omega) (by omega)]; omega
        refine .mk (by rw [List.length_map]; omega) ?_
        conv => whnf
        refine row_at (i + 1) toN (by omega) ?_
        conv => whnf
        rw [hw2]
        refine .mk (by rw [List.length_map]; omega) ?_
        conv => whnf
        refine row_at i toN (by omega) ?_
        conv => whnf
        repeat' (first
          | (refine Split.mk (fun h => ?_) (fun h => ?_) <;> (try simp only [decide_eq_true_eq, decide_eq_false_iff_not, Bool.not_eq_true', Bool.not_eq_false', beq_iff_eq, beq_eq_false_iff_ne] at h) <;> (first | (exfalso; first | omega | exact h trivial) | (conv => whnf)))
          | (refine CondG.mk (fun h => ?_) (fun h => ?_) <;> (try simp only [decide_eq_true_eq, decide_eq_false_iff_not, Bool.not_eq_true', Bool.not_eq_false', beq_iff_eq, beq_eq_false_iff_ne] at h) <;> (first | (exfalso; first | omega | exact h trivial) | (conv => whnf)))
          | (refine CallX.mk _ _ (by first | exact hg _ _) ?_; conv => whnf)
          | (refine CallG.mk _ _ (by first | exact hg _ _) ?_; conv => whnf)
          | (refine Ask.mk (by first | omega | (unfold roomOK; simp [cutRows]; done) | (unfold roomOK; simp [cutRows]; omega)) ?_; conv => whnf)
          | (refine SliceG.fr ?_; conv => whnf)
          | fail)
        · rw [insDown_step (by omega) (by omega) h] at h1
          repeat' (first
            | (refine Split.mk (fun h => ?_) (fun h => ?_) <;> (try simp only [decide_eq_true_eq, decide_eq_false_iff_not, Bool.not_eq_true', Bool.not_eq_false', beq_iff_eq, beq_eq_false_iff_ne] at h) <;> (first | (exfalso; first | omega | exact h trivial) | (conv => whnf)))
            | (refine CondG.mk (fun h => ?_) (fun h => ?_) <;> (try simp only [decide_eq_true_eq, decide_eq_false_iff_not, Bool.not_eq_true', Bool.not_eq_false', beq_iff_eq, beq_eq_false_iff_ne] at h) <;> (first | (exfalso; first | omega | exact h trivial) | (conv => whnf)))
            | (refine Ask.mk (by first | omega | (unfold roomOK; simp [cutRows]; done) | (unfold roomOK; simp [cutRows]; omega)) ?_; conv => whnf)
            | (refine SliceG.fr ?_; conv => whnf)
            | fail)
          rw [hw2]
          refine .mk (by rw [List.length_map]; omega) ?_
          conv => whnf
          refine row_at i toN (by omega) ?_
          conv => whnf
          refine .mk (by rw [List.length_map]; omega) ?_
          conv => whnf
          refine row_at (i + 1) toN (by omega) ?_
          conv => whnf
          refine .mk (by rw [List.length_map]; omega) ?_
          conv => whnf
          refine row_at (i + 1) toN (by omega) ?_
          conv => whnf
          refine .mk (by rw [List.length_set, List.length_map]; omega) ?_
          conv => whnf
          refine .mk (encPc (q[i]'(by omega))) (by rw [toN, toN, List.getElem?_set_ne (by omega)]; simp [show i < q.length by omega]) ?_
          conv => whnf
          refine meas_next (i, (q.set (i + 1) (q[i]'(by omega))).set i (q[i + 1]'(by omega))) (by simp only; omega) (by rw [toN, toN, hw2]; simp only [List.map_set]; rfl) ⟨h1, by simp only; omega, by simp [h3]⟩
        · rw [insDown_stop (by omega) h] at h1
          conv => whnf
          refine count_next () hk (by rw [h1, show IntKind.i64.wrap (((a + 1 + k : Nat) : Int) + 1) = ((a + 1 + (k + 1) : Nat) : Int) by rw [wrap_in (by omega) (by omega)]; omega]; rfl) trivial
      · rw [insDown_low (by omega)] at h1
        refine count_next () hk (by rw [h1, show IntKind.i64.wrap (((a + 1 + k : Nat) : Int) + 1) = ((a + 1 + (k + 1) : Nat) : Int) by rw [wrap_in (by omega) (by omega)]; omega]; rfl) trivial
  · intro _ _
    have hlen := insTo_len c a (b - (a + 1)) l
    conv => whnf
    repeat' (first
      | (refine Split.mk (fun h => ?_) (fun h => ?_) <;> (try simp only [decide_eq_true_eq, decide_eq_false_iff_not, Bool.not_eq_true', Bool.not_eq_false', beq_iff_eq, beq_eq_false_iff_ne] at h) <;> (first | (exfalso; first | omega | exact h trivial) | (conv => whnf)))
      | (refine CondG.mk (fun h => ?_) (fun h => ?_) <;> (try simp only [decide_eq_true_eq, decide_eq_false_iff_not, Bool.not_eq_true', Bool.not_eq_false', beq_iff_eq, beq_eq_false_iff_ne] at h) <;> (first | (exfalso; first | omega | exact h trivial) | (conv => whnf)))
      | (refine Ask.mk (by first | omega | (unfold roomOK; simp [cutRows]; done) | (unfold roomOK; simp [cutRows]; omega)) ?_; conv => whnf)
      | (refine SliceG.fr ?_; conv => whnf)
      | fail)
    exact .mk ⟨rfl, rfl⟩
/-! the length of a small number -/
theorem wrapU64 (n : Nat) (h : n ≤ 1000000) : IntKind.u64.wrap (n : Int) = n := IntWalk.u64_in _ ⟨by omega, by omega⟩
set_option maxRecDepth 100000 in
set_option maxHeartbeats 4000000 in
theorem bLen64_ex (n : Nat) (h : n ≤ 100) : ∃ v : Int, PCp 175 [.c (.int .u64 n)] [] (.c (.int .i64 v)) [] := by
  apply Exists.intro
  refine fn_sound (mt := mts) tab_fits tab_mixed Try.func175 (by rfl) (by kernel_rfl) (by kernel_rfl) Try.results175 (Nat.le_of_ble_eq_true (by kernel_rfl)) ?_
  conv => whnf
  repeat' (first
    | (refine Split.mk (fun h => ?_) (fun h => ?_) <;> (try simp only [decide_eq_true_eq, decide_eq_false_iff_not, Bool.not_eq_true', Bool.not_eq_false', beq_iff_eq, beq_eq_false_iff_ne] at h) <;> (first | (exfalso; first | omega | exact h trivial) | (conv => whnf)))
    | (refine CondG.mk (fun h => ?_) (fun h => ?_) <;> (try simp only [decide_eq_true_eq, decide_eq_false_iff_not, Bool.not_eq_true', Bool.not_eq_false', beq_iff_eq, beq_eq_false_iff_ne] at h) <;> (first | (exfalso; first | omega | exact h trivial) | (conv => whnf)))
    | (refine Ask.mk (by first | omega | (unfold roomOK; simp [cutRows]; done) | (unfold roomOK; simp [cutRows]; omega)) ?_; conv => whnf)
    | (refine SliceG.fr ?_; conv => whnf)
    | fail)
  rw [IntWalk.u8_in _ ⟨by omega, by omega⟩]
  refine .mk ⟨by omega, Int.lt_of_lt_of_le (show (n : Int) < 101 by omega) (by decide +kernel)⟩ ?_
  conv => whnf
  exact .mk ⟨rfl, rfl⟩
set_option maxRecDepth 100000 in
set_option maxHeartbeats 4000000 in
theorem bLen_ex (n : Nat) (h : n ≤ 100) : ∃ v : Int, PCp 157 [.c (.int .u64 n)] [] (.c (.int .i64 v)) [] := by
  obtain ⟨v, hv⟩ := bLen64_ex n h
  refine ⟨v, ?_⟩
  refine fn_sound (mt := mts) tab_fits tab_mixed Try.func157 (by rfl) (by kernel_rfl) (by kernel_rfl) Try.results157 (Nat.le_of_ble_eq_true (by kernel_rfl)) ?_
  conv => whnf
  repeat' (first
    | (refine Split.mk (fun h => ?_) (fun h => ?_) <;> (try simp only [decide_eq_true_eq, decide_eq_false_iff_not, Bool.not_eq_true', Bool.not_eq_false', beq_iff_eq, beq_eq_false_iff_ne] at h) <;> (first | (exfalso; first | omega | exact h trivial) | (conv => whnf)))
    | (refine CondG.mk (fun h => ?_) (fun h => ?_) <;> (try simp only [decide_eq_true_eq, decide_eq_false_iff_not, Bool.not_eq_true', Bool.not_eq_false', beq_iff_eq, beq_eq_false_iff_ne] at h) <;> (first | (exfalso; first | omega | exact h trivial) | (conv => whnf)))
    | (refine CallX.mk _ _ (by first | exact hv) ?_; conv => whnf)
    | (refine CallG.mk _ _ (by first | exact hv) ?_; conv => whnf)
    | (refine Ask.mk (by first | omega | (unfold roomOK; simp [cutRows]; done) | (unfold roomOK; simp [cutRows]; omega)) ?_; conv => whnf)
    | (refine SliceG.fr ?_; conv => whnf)
    | fail)
  exact fini rfl
set_option maxRecDepth 100000 in
set_option maxHeartbeats 4000000 in
theorem pdqPc_pc  (g : Nat) (c : Pc → Pc → Int) (hg : ∀ x y : Pc, PCp g [.agg (encPc x), .agg (encPc y)] [] (.c (.int .i64 (c x y))) []) (l : List Pc) (hl : l.length ≤ 12) :
    PCp 140 [.c (.row 0), .c (.fn g [])] [.row 127 3 (l.map encPc)] (.tup []) [.row 127 3 ((insSort c l).map encPc)] := by
  have hlm : (l.map encPc).length = l.length := List.length_map ..
  have hst : ∀ lim : Int, PCp 156 [.c (.row 0), .c (.int .i64 0), .c (.int .i64 l.length), .c (.int .i64 lim), .c (.fn g [])] [.row 127 3 (l.map encPc)] (.tup []) [.row 127 3 ((insSort c l).map encPc)] := by
    intro lim
    have hw : IntKind.i64.wrap ((l.length : Int) - 0) = l.length := by rw [wrap_in (by omega) (by omega)]; omega
    refine fn_sound (mt := mts) tab_fits tab_mixed Try.func156 (by rfl) (by kernel_rfl) (by kernel_rfl) Try.results156 (Nat.le_of_ble_eq_true (by kernel_rfl)) ?_
    conv => whnf
    refine .un 1 ?_
    conv => whnf
    rw [hw]
    repeat' (first
      | (refine Split.mk (fun h => ?_) (fun h => ?_) <;> (try simp only [decide_eq_true_eq, decide_eq_false_iff_not, Bool.not_eq_true', Bool.not_eq_false', beq_iff_eq, beq_eq_false_iff_ne] at h) <;> (first | (exfalso; first | omega | exact h trivial) | (conv => whnf)))
      | (refine CondG.mk (fun h => ?_) (fun h => ?_) <;> (try simp only [decide_eq_true_eq, decide_eq_false_iff_not, Bool.not_eq_true', Bool.not_eq_false', beq_iff_eq, beq_eq_false_iff_ne] at h) <;> (first | (exfalso; first | omega | exact h trivial) | (conv => whnf)))
      | (refine Ask.mk (by first | omega | (unfold roomOK; simp [cutRows]; done) | (unfold roomOK; simp [cutRows]; omega)) ?_; conv => whnf)
      | (refine SliceG.fr ?_; conv => whnf)
      | fail)
    refine .mk _ _ (insPc_pc g c hg 0 l.length l (Nat.zero_le _) (Nat.le_refl _) (by omega)) ?_
    conv => whnf
    exact .mk ⟨rfl, rfl⟩
  refine fn_sound (mt := mts) tab_fits tab_mixed Try.func140 (by rfl) (by kernel_rfl) (by kernel_rfl) Try.results140 (Nat.le_of_ble_eq_true (by kernel_rfl)) ?_
  conv => whnf
  rw [hlm, wrapU64 l.length (by omega)]
  obtain ⟨lim, hlim⟩ := bLen_ex l.length (by omega)
  repeat' (first
    | (refine Split.mk (fun h => ?_) (fun h => ?_) <;> (try simp only [decide_eq_true_eq, decide_eq_false_iff_not, Bool.not_eq_true', Bool.not_eq_false', beq_iff_eq, beq_eq_false_iff_ne] at h) <;> (first | (exfalso; first | omega | exact h trivial) | (conv => whnf)))
    | (refine CondG.mk (fun h => ?_) (fun h => ?_) <;> (try simp only [decide_eq_true_eq, decide_eq_false_iff_not, Bool.not_eq_true', Bool.not_eq_false', beq_iff_eq, beq_eq_false_iff_ne] at h) <;> (first | (exfalso; first | omega | exact h trivial) | (conv => whnf)))
    | (refine CallX.mk _ _ (by first | exact hlim | exact hst _) ?_; conv => whnf)
    | (refine CallG.mk _ _ (by first | exact hlim | exact hst _) ?_; conv => whnf)
    | (refine Ask.mk (by first | omega | (unfold roomOK; simp [cutRows]; done) | (unfold roomOK; simp [cutRows]; omega)) ?_; conv => whnf)
    | (refine SliceG.fr ?_; conv => whnf)
    | fail)
  exact .mk ⟨rfl, rfl⟩
deriving instance DecidableEq for Ac
theorem eqAc {x y : Ac} : (x.mo == y.mo && (x.kd == y.kd && (x.drum.toList == y.drum.toList && (x.ty.toList == y.ty.toList && (x.of.toList == y.of.toList && x.long == y.long))))) = true ↔ x = y := by
  obtain ⟨a1, a2, a3, a4, a5, a6⟩ := x
  obtain ⟨b1, b2, b3, b4, b5, b6⟩ := y
  simp only [Bool.and_eq_true, beq_iff_eq, Ac.mk.injEq]
  have hs : ∀ {s t : ByteArray}, s.toList = t.toList ↔ s = t := fun {s t} => ⟨toList_inj, fun h => by rw [h]⟩
  rw [hs, hs, hs]
set_option maxRecDepth 100000 in
set_option maxHeartbeats 4000000 in
theorem cptAc_pc (l : List Ac) (hl : l.length ≤ 1000000000) :
    ∃ ob, ((∃ rows, ob = .frow 6 rows) ∨ ob = .dead) ∧ PCp 107 [.c (.row 0)] [.row 139 6 (l.map encAc)] (.c (.lst 6 ((cpt l).map encAc))) [ob] := by
  have hlm : (l.map encAc).length = l.length := List.length_map ..
  by_cases hid : cpt l = l
  · refine ⟨.frow 6 (l.map encAc), .inl ⟨_, rfl⟩, ?_⟩
    rw [hid]
    rw [cpt_id] at hid
    have hfr : ∀ (m : Nat) (r : List Ac), FinR 1 (.c (.lst 6 (r.map encAc))) [.frow 6 (r.map encAc)] (.c (.row 0)) [.row 139 6 (r.map encAc)] := fun m r => .frz 0 _ _ _ rfl (.weak [] (.fro 0 _ _ rfl) rfl (Nat.le_refl _))
    refine fn_sound (mt := mts) tab_fits tab_mixed Try.func107 (by rfl) (by kernel_rfl) (by kernel_rfl) Try.results107 (Nat.le_of_ble_eq_true (by kernel_rfl)) ?_
    conv => whnf
    repeat' (first
      | (refine Split.mk (fun h => ?_) (fun h => ?_) <;> (try simp only [decide_eq_true_eq, decide_eq_false_iff_not, Bool.not_eq_true', Bool.not_eq_false', beq_iff_eq, beq_eq_false_iff_ne] at h) <;> (first | (exfalso; first | omega | exact h trivial) | (conv => whnf)))
      | (refine CondG.mk (fun h => ?_) (fun h => ?_) <;> (try simp only [decide_eq_true_eq, decide_eq_false_iff_not, Bool.not_eq_true', Bool.not_eq_false', beq_iff_eq, beq_eq_false_iff_ne] at h) <;> (first | (exfalso; first | omega | exact h trivial) | (conv => whnf)))
      | (refine Ask.mk (by first | omega | (unfold roomOK; simp [cutRows]; done) | (unfold roomOK; simp [cutRows]; omega)) ?_; conv => whnf)
      | (refine SliceG.fr ?_; conv => whnf)
      | fail)
    · exact hfr 0 l
    refine loop_count (l.length - 1) [] [0, 3] (fun k (_ : Unit) => ⟨[(0, .c (.row 0)), (3, .c (.int .i64 ((k + 1 : Nat) : Int)))], [(0, .row 139 6 (l.map encAc))], 1⟩) (fun k (_ : Unit) => True) (()) ?_ ?_ ?_
    · conv => whnf
      exact ⟨rfl, trivial⟩
    · intro k _ hk _
      conv => whnf
      repeat' (first
        | (refine Split.mk (fun h => ?_) (fun h => ?_) <;> (try simp only [decide_eq_true_eq, decide_eq_false_iff_not, Bool.not_eq_true', Bool.not_eq_false', beq_iff_eq, beq_eq_false_iff_ne] at h) <;> (first | (exfalso; first | omega | exact h trivial) | (conv => whnf)))
        | (refine CondG.mk (fun h => ?_) (fun h => ?_) <;> (try simp only [decide_eq_true_eq, decide_eq_false_iff_not, Bool.not_eq_true', Bool.not_eq_false', beq_iff_eq, beq_eq_false_iff_ne] at h) <;> (first | (exfalso; first | omega | exact h trivial) | (conv => whnf)))
        | (refine Ask.mk (by first | omega | (unfold roomOK; simp [cutRows]; done) | (unfold roomOK; simp [cutRows]; omega)) ?_; conv => whnf)
        | (refine SliceG.fr ?_; conv => whnf)
        | fail)
      have hw : IntKind.i64.wrap (((k + 1 : Nat) : Int) - 1) = ((k : Nat) : Int) := by rw [wrap_in (by omega) (by omega)]; omega
      refine row_at (k + 1) toN (by omega) ?_
      conv => whnf
      rw [hw]
      refine .mk (by rw [hlm]; omega) ?_
      conv => whnf
      refine row_at k toN (by omega) ?_
      conv => whnf
      refine .mk (fun h => ?_) (fun h => ?_)
      · exact absurd (eqAc.1 h) (hid k (by omega))
      · conv => whnf
        refine count_next () hk (by rw [wrap_succ (n := l.length) (by omega) (by omega)]; rfl) trivial
    · intro _ _
      conv => whnf
      repeat' (first
        | (refine Split.mk (fun h => ?_) (fun h => ?_) <;> (try simp only [decide_eq_true_eq, decide_eq_false_iff_not, Bool.not_eq_true', Bool.not_eq_false', beq_iff_eq, beq_eq_false_iff_ne] at h) <;> (first | (exfalso; first | omega | exact h trivial) | (conv => whnf)))
        | (refine CondG.mk (fun h => ?_) (fun h => ?_) <;> (try simp only [decide_eq_true_eq, decide_eq_false_iff_not, Bool.not_eq_true', Bool.not_eq_false', beq_iff_eq, beq_eq_false_iff_ne] at h) <;> (first | (exfalso; first | omega | exact h trivial) | (conv => whnf)))
        | (refine Ask.mk (by first | omega | (unfold roomOK; simp [cutRows]; done) | (unfold roomOK; simp [cutRows]; omega)) ?_; conv => whnf)
        | (refine SliceG.fr ?_; conv => whnf)
        | fail)
      exact hfr 0 l
  · refine ⟨.dead, .inr rfl, ?_⟩
    have hid2 := mt (cpt_id l).2 hid
    refine fn_sound (mt := mts) tab_fits tab_mixed Try.func107 (by rfl) (by kernel_rfl) (by kernel_rfl) Try.results107 (Nat.le_of_ble_eq_true (by kernel_rfl)) ?_
    conv => whnf
    repeat' (first
      | (refine Split.mk (fun h => ?_) (fun h => ?_) <;> (try simp only [decide_eq_true_eq, decide_eq_false_iff_not, Bool.not_eq_true', Bool.not_eq_false', beq_iff_eq, beq_eq_false_iff_ne] at h) <;> (first | (exfalso; first | omega | exact h trivial) | (conv => whnf)))
      | (refine CondG.mk (fun h => ?_) (fun h => ?_) <;> (try simp only [decide_eq_true_eq, decide_eq_false_iff_not, Bool.not_eq_true', Bool.not_eq_false', beq_iff_eq, beq_eq_false_iff_ne] at h) <;> (first | (exfalso; first | omega | exact h trivial) | (conv => whnf)))
      | (refine Ask.mk (by first | omega | (unfold roomOK; simp [cutRows]; done) | (unfold roomOK; simp [cutRows]; omega)) ?_; conv => whnf)
      | (refine SliceG.fr ?_; conv => whnf)
      | fail)
    · exfalso; exact hid2 (by intro i hi; omega)
    refine loop_count (l.length - 1) [] [0, 3] (fun k (_ : Unit) => ⟨[(0, .c (.row 0)), (3, .c (.int .i64 ((k + 1 : Nat) : Int)))], [(0, .row 139 6 (l.map encAc))], 1⟩) (fun k (_ : Unit) => ∀ i (h : i + 1 < l.length), i + 1 ≤ k → l[i + 1] ≠ l[i]) (()) ?_ ?_ ?_
    · conv => whnf
      exact ⟨rfl, by intro i hi h; omega⟩
    · intro k _ hk hi
      conv => whnf
      repeat' (first
        | (refine Split.mk (fun h => ?_) (fun h => ?_) <;> (try simp only [decide_eq_true_eq, decide_eq_false_iff_not, Bool.not_eq_true', Bool.not_eq_false', beq_iff_eq, beq_eq_false_iff_ne] at h) <;> (first | (exfalso; first | omega | exact h trivial) | (conv => whnf)))
        | (refine CondG.mk (fun h => ?_) (fun h => ?_) <;> (try simp only [decide_eq_true_eq, decide_eq_false_iff_not, Bool.not_eq_true', Bool.not_eq_false', beq_iff_eq, beq_eq_false_iff_ne] at h) <;> (first | (exfalso; first | omega | exact h trivial) | (conv => whnf)))
        | (refine Ask.mk (by first | omega | (unfold roomOK; simp [cutRows]; done) | (unfold roomOK; simp [cutRows]; omega)) ?_; conv => whnf)
        | (refine SliceG.fr ?_; conv => whnf)
        | fail)
      have hw : IntKind.i64.wrap (((k + 1 : Nat) : Int) - 1) = ((k : Nat) : Int) := by rw [wrap_in (by omega) (by omega)]; omega
      refine row_at (k + 1) toN (by omega) ?_
      conv => whnf
      rw [hw]
      refine .mk (by rw [hlm]; omega) ?_
      conv => whnf
      refine row_at k toN (by omega) ?_
      conv => whnf
      refine .mk (fun h => ?_) (fun h => ?_)
      · have he : l[k + 1] = l[k] := eqAc.1 h
        have hfrom := cpt_from l k (by omega) hi
        clear h
        conv => whnf
        refine .mk (by rw [hlm]; omega) ?_
        conv => whnf
        refine .vw ?_
        conv => whnf
        have hn : l.length - (k + 1) - 1 + 1 + (k + 1) = l.length := by omega
        refine loop_count2 (l.length - (k + 1) - 1) [] [0, 3, 4, 5] (fun m (j : Nat) (q : List Ac) => ⟨[(0, .c (.row 0)), (3, .c (.int .i64 ((j : Nat) : Int))), (4, .c (.vw 0 6 (k + 1) (l.length - (k + 1)))), (5, .c (.int .i64 ((m + 1 : Nat) : Int)))], [(0, .row 139 6 (q.map encAc))], 1⟩) (fun m (j : Nat) (q : List Ac) => q.length = l.length ∧ j ≤ k + 1 + m ∧ q.drop (k + 1 + m) = l.drop (k + 1 + m) ∧ q.take j ++ cptA (l.getD (k + 1 + m) l[k]) (l.drop (k + 1 + m + 1)) = cpt l) (k + 1) (l) ?_ ?_ ?_
        · conv => whnf
          refine ⟨by rw [hlm]; rfl, rfl, Nat.le_refl _, rfl, ?_⟩
          rw [hfrom, getDD (show k + 1 + 0 < l.length by omega), List.drop_eq_getElem_cons (show k + 1 < l.length by omega), cptA, if_pos he, he]
        · intro m j q hm ⟨g1, g2, g3, g4⟩
          have hqm : (q.map encAc).length = q.length := List.length_map ..
          have hwm : IntKind.i64.wrap (((m + 1 : Nat) : Int) - 1) = ((m : Nat) : Int) := by rw [wrap_in (by omega) (by omega)]; omega
          have q1 : q[k + 1 + m]'(by omega) = l[k + 1 + m]'(by omega) := getElem_of_drop g3 (by omega) (by omega) (by omega)
          have q2 : q[k + 1 + m + 1]'(by omega) = l[k + 1 + m + 1]'(by omega) := getElem_of_drop g3 (by omega) (by omega) (by omega)
          conv => whnf
          repeat' (first
            | (refine Split.mk (fun h => ?_) (fun h => ?_) <;> (try simp only [decide_eq_true_eq, decide_eq_false_iff_not, Bool.not_eq_true', Bool.not_eq_false', beq_iff_eq, beq_eq_false_iff_ne] at h) <;> (first | (exfalso; first | omega | exact h trivial) | (conv => whnf)))
            | (refine CondG.mk (fun h => ?_) (fun h => ?_) <;> (try simp only [decide_eq_true_eq, decide_eq_false_iff_not, Bool.not_eq_true', Bool.not_eq_false', beq_iff_eq, beq_eq_false_iff_ne] at h) <;> (first | (exfalso; first | omega | exact h trivial) | (conv => whnf)))
            | (refine Ask.mk (by first | omega | (unfold roomOK; simp [cutRows]; done) | (unfold roomOK; simp [cutRows]; omega)) ?_; conv => whnf)
            | (refine SliceG.fr ?_; conv => whnf)
            | fail)
          refine row_at (k + 1 + m + 1) (by rw [toN]; omega) (by omega) ?_
          conv => whnf
          rw [hwm]
          refine .mk (by omega) ?_
          conv => whnf
          refine row_at (k + 1 + m) (by rw [toN]) (by omega) ?_
          conv => whnf
          refine .mk (fun h => ?_) (fun h => ?_)
          · have he2 : ¬ l[k + 1 + m + 1]'(by omega) = l[k + 1 + m]'(by omega) := fun e => by
              rw [← q1, ← q2] at e
              exact absurd ((eqAc.2 e).symm.trans (notT h)) (by decide)
            obtain ⟨n1, n2⟩ := cpt_new g1 (by omega) g2 g3 g4 he2
            clear h
            conv => whnf
            refine .mk (by omega) ?_
            conv => whnf
            refine row_at (k + 1 + m + 1) (by rw [toN]; omega) (by omega) ?_
            conv => whnf
            refine .mk (by omega) ?_
            conv => whnf
            refine row_at j toN (by omega) ?_
            conv => whnf
            refine count_next (j + 1, q.set j (l[k + 1 + m + 1]'(by omega))) hm (by
              rw [wrap_succ (n := l.length) (by omega) (by omega), wrap_succ (n := l.length) (by omega) (by omega), toN, List.map_set, ← q2]; rfl) ⟨by simp [g1], by simp only; omega, n1, n2⟩
          · have he2 : l[k + 1 + m + 1]'(by omega) = l[k + 1 + m]'(by omega) := by
              rw [← q1, ← q2]
              exact eqAc.1 (notF h)
            obtain ⟨n1, n2⟩ := cpt_same (by omega) g3 g4 he2
            clear h
            conv => whnf
            refine count_next (j, q) hm (by rw [wrap_succ (n := l.length) (by omega) (by omega)]; rfl) ⟨g1, by simp only; omega, n1, n2⟩
        · intro j q ⟨g1, g2, g3, g4⟩
          have hqm : (q.map encAc).length = q.length := List.length_map ..
          rw [List.drop_of_length_le (by omega), cptA, List.append_nil] at g4
          conv => whnf
          refine .mk (fun h => ?_) (fun h => ?_)
          · simp at h; omega
          conv => whnf
          refine .mk (by omega) ?_
          conv => whnf
          refine .vw ?_
          conv => whnf
          refine .mk (by rw [overR]; simp; omega) ?_
          conv => whnf
          refine .cut ⟨rfl, ?_⟩
          conv => whnf
          rw [toN]
          have hrow : ∀ z : List V, (overR (q.map encAc) (List.replicate ((q.map encAc).length - j) z) j).take j = (cpt l).map encAc := by
            intro z
            rw [← g4, List.map_take]; unfold overR
            rw [List.append_assoc, List.take_append_of_le_length (by simp; omega), List.take_take, Nat.min_self]
          rw [hrow]
          exact .frz 1 _ _ _ rfl (.weak [_] (.fro 1 _ _ rfl) rfl (Nat.le_refl _))
      · have he : ¬ l[k + 1] = l[k] := fun e => absurd ((eqAc.2 e).symm.trans h) (by decide)
        conv => whnf
        refine count_next () hk (by rw [wrap_succ (n := l.length) (by omega) (by omega)]; rfl) ?_
        intro i hi1 hi2
        rcases Nat.lt_or_ge i k with h3 | h3
        · exact hi i hi1 h3
        · have : i = k := by omega
          subst this; exact he
    · intro _ hi
      exact absurd (fun i h => hi i h (by omega)) hid2
end Go.Proofs.Ytmpjgbanmdgooaa

/- Acts are made. -/
namespace Go.Proofs.Ytmpjgbanmdgooaa
set_option linter.unusedVariables false
set_option linter.unusedSimpArgs false
open Abs

def sgn (n : Int) : Int := if n < 0 then -1 else if 0 < n then 1 else 0
set_option maxRecDepth 100000 in
set_option maxHeartbeats 4000000 in
theorem sign_pc (n : Int) : PCp 143 [.c (.int .i64 n)] [] (.c (.int .i64 (sgn n))) [] := by
  refine fn_sound (mt := mts) tab_fits tab_mixed Try.func143 (by rfl) (by kernel_rfl) (by kernel_rfl) Try.results143 (Nat.le_of_ble_eq_true (by kernel_rfl)) ?_
  conv => whnf
  repeat' (first
    | (refine Split.mk (fun h => ?_) (fun h => ?_) <;> (try simp only [decide_eq_true_eq, decide_eq_false_iff_not, Bool.not_eq_true', Bool.not_eq_false', beq_iff_eq, beq_eq_false_iff_ne] at h) <;> (first | (exfalso; first | omega | exact h trivial) | (conv => whnf)))
    | (refine CondG.mk (fun h => ?_) (fun h => ?_) <;> (try simp only [decide_eq_true_eq, decide_eq_false_iff_not, Bool.not_eq_true', Bool.not_eq_false', beq_iff_eq, beq_eq_false_iff_ne] at h) <;> (first | (exfalso; first | omega | exact h trivial) | (conv => whnf)))
    | (refine Ask.mk (by first | omega | (unfold roomOK; simp [cutRows]; done) | (unfold roomOK; simp [cutRows]; omega)) ?_; conv => whnf)
    | (refine SliceG.fr ?_; conv => whnf)
    | fail)
  all_goals exact fini (by simp_all [sgn] <;> omega)
/-- how the document orders acts -/
def ordC (a b : Ac) : Int :=
  if a.mo ≠ b.mo then sgn (IntKind.i64.wrap (a.mo - b.mo))
  else if a.drum ≠ b.drum then cmpS a.drum b.drum
  else if a.kd ≠ b.kd then sgn (IntKind.i64.wrap (a.kd - b.kd))
  else if a.ty ≠ b.ty then cmpS a.ty b.ty
  else if a.of ≠ b.of then cmpS a.of b.of
  else sgn (IntKind.i64.wrap (a.long - b.long))
theorem strEq {a b : ByteArray} : a.toList = b.toList ↔ a = b := ⟨toList_inj, fun h => by rw [h]⟩
set_option maxRecDepth 100000 in
set_option maxHeartbeats 4000000 in
theorem actOrder_pc (a b : Ac) : PCp 106 [.agg (encAc a), .agg (encAc b)] [] (.c (.int .i64 (ordC a b))) [] := by
  refine fn_sound (mt := mts) tab_fits tab_mixed Try.func106 (by rfl) (by kernel_rfl) (by kernel_rfl) Try.results106 (Nat.le_of_ble_eq_true (by kernel_rfl)) ?_
  conv => whnf
  repeat' (first
    | (refine Split.mk (fun h => ?_) (fun h => ?_) <;> (try simp only [decide_eq_true_eq, decide_eq_false_iff_not, Bool.not_eq_true', Bool.not_eq_false', beq_iff_eq, beq_eq_false_iff_ne] at h) <;> (first | (exfalso; first | omega | exact h trivial) | (conv => whnf)))
    | (refine CondG.mk (fun h => ?_) (fun h => ?_) <;> (try simp only [decide_eq_true_eq, decide_eq_false_iff_not, Bool.not_eq_true', Bool.not_eq_false', beq_iff_eq, beq_eq_false_iff_ne] at h) <;> (first | (exfalso; first | omega | exact h trivial) | (conv => whnf)))
    | (refine CallX.mk _ _ (by first | exact sign_pc _ | exact sCompare_pc _ _) ?_; conv => whnf)
    | (refine CallG.mk _ _ (by first | exact sign_pc _ | exact sCompare_pc _ _) ?_; conv => whnf)
    | (refine Ask.mk (by first | omega | (unfold roomOK; simp [cutRows]; done) | (unfold roomOK; simp [cutRows]; omega)) ?_; conv => whnf)
    | (refine SliceG.fr ?_; conv => whnf)
    | fail)
  all_goals refine fini ?_
  all_goals unfold ordC
  all_goals simp_all [strEq]
def oddV (L : List Int) (p lo hi : Int) : Int := if nextV L p 12 == 0 then pickV L (p + 1) [lo - 1, hi + 1, lo, hi, -1099511627776, 1099511627776] else rangeV L (p + 1) lo hi
set_option maxRecDepth 100000 in
set_option maxHeartbeats 4000000 in
theorem odd_ok {L : List Int} {p : Int} (h : StOk L p) (h2 : StOk L (p + 1)) (lo hi : Int) (hlo : small lo) (hhi : small hi) (hlh : lo ≤ hi) : PCp 104 [.c (.ptr 0 0), .c (.int .i64 lo), .c (.int .i64 hi)] [stO L p] (.c (.int .i64 (oddV L p lo hi))) [stO L (p + 1 + 1)] := by
  have w1 : IntKind.i64.wrap (lo - 1) = lo - 1 := wrap_in (by unfold small at *; omega) (by unfold small at *; omega)
  have w2 : IntKind.i64.wrap (hi + 1) = hi + 1 := wrap_in (by unfold small at *; omega) (by unfold small at *; omega)
  refine fn_sound (mt := mts) tab_fits tab_mixed Try.func104 (by rfl) (by kernel_rfl) (by kernel_rfl) Try.results104 (Nat.le_of_ble_eq_true (by kernel_rfl)) ?_
  conv => whnf
  repeat' (first
    | (refine Split.mk (fun h => ?_) (fun h => ?_) <;> (try simp only [decide_eq_true_eq, decide_eq_false_iff_not, Bool.not_eq_true', Bool.not_eq_false', beq_iff_eq, beq_eq_false_iff_ne] at h) <;> (first | (exfalso; first | omega | exact h trivial) | (conv => whnf)))
    | (refine CondG.mk (fun h => ?_) (fun h => ?_) <;> (try simp only [decide_eq_true_eq, decide_eq_false_iff_not, Bool.not_eq_true', Bool.not_eq_false', beq_iff_eq, beq_eq_false_iff_ne] at h) <;> (first | (exfalso; first | omega | exact h trivial) | (conv => whnf)))
    | (refine CallX.mk _ _ (by first | exact flip_ok h 12 (by omega) | exact range_ok h2 lo hi hlh hlo hhi | exact (by rw [w1, w2]; exact pick_ok h2 [lo - 1, hi + 1, lo, hi, -1099511627776, 1099511627776] (by simp) (by simp))) ?_; conv => whnf)
    | (refine CallG.mk _ _ (by first | exact flip_ok h 12 (by omega) | exact range_ok h2 lo hi hlh hlo hhi | exact (by rw [w1, w2]; exact pick_ok h2 [lo - 1, hi + 1, lo, hi, -1099511627776, 1099511627776] (by simp) (by simp))) ?_; conv => whnf)
    | (refine Ask.mk (by first | omega | (unfold roomOK; simp [cutRows]; done) | (unfold roomOK; simp [cutRows]; omega)) ?_; conv => whnf)
    | (refine SliceG.fr ?_; conv => whnf)
    | fail)
  · exact fini' (by rw [oddV, if_pos (by simpa using h)]) rfl
  · exact fini' (by rw [oddV, if_neg (by simpa using h)]) rfl
theorem pushAc (l : List Ac) (a b : Int) (c d e : ByteArray) (f : Int) : l.map encAc ++ [[.int .i64 a, .int .i64 b, .str c, .str d, .str e, .int .i64 f]] = (l ++ [(⟨a, b, c, d, e, f⟩ : Ac)]).map encAc := by simp [encAc]
theorem small_lit {n : Int} (h : -1000000 ≤ n ∧ n ≤ 1000000) : small n := by unfold small; omega
def bDa : ByteArray := ⟨#[100, 97]⟩
def bDb : ByteArray := ⟨#[100, 98]⟩
def names6 : List ByteArray := [bDa, bDb, ⟨#[100, 99]⟩, ⟨#[100, 100]⟩, ⟨#[]⟩, ⟨#[65]⟩]
theorem names_a (L : List Int) (p : Int) : someV L p [bDa, bDa, bDb, ⟨#[100, 99]⟩, ⟨#[100, 100]⟩] ∈ names6 := by
  have := someV_in L p [bDa, bDa, bDb, ⟨#[100, 99]⟩, ⟨#[100, 100]⟩] (by decide)
  generalize someV L p [bDa, bDa, bDb, ⟨#[100, 99]⟩, ⟨#[100, 100]⟩] = d at *
  simp only [List.mem_cons, List.not_mem_nil, or_false] at this
  unfold names6
  simp only [List.mem_cons, List.not_mem_nil, or_false]
  rcases this with h | h | h | h | h <;> simp [h]
theorem names_b (L : List Int) (p : Int) {e : ByteArray} (he : e ∈ names6) : someV L p [⟨#[]⟩, ⟨#[65]⟩, e] ∈ names6 := by
  have := someV_in L p [⟨#[]⟩, ⟨#[65]⟩, e] (by simp)
  generalize someV L p [⟨#[]⟩, ⟨#[65]⟩, e] = d at *
  simp only [List.mem_cons, List.not_mem_nil, or_false] at this
  rcases this with h | h | h
  · rw [h]; unfold names6; simp
  · rw [h]; unfold names6; simp
  · rw [h]; exact he
theorem names_push {l : List Ac} (h : ∀ x ∈ l, x.drum ∈ names6) {y : Ac} (hy : y.drum ∈ names6) : ∀ x ∈ l ++ [y], x.drum ∈ names6 := by
  intro x hx
  rcases List.mem_append.1 hx with h1 | h1
  · exact h x h1
  · simp at h1; subst h1; exact hy
set_option maxRecDepth 100000 in
set_option maxHeartbeats 4000000 in
theorem acts_pc {L : List Int} {p : Int} (hst : StOk L p) (hp : p ≤ 800000000) (n : Nat) (hn : n ≤ 14) :
    PCq 50 [.c (.ptr 0 0), .c (.int .i64 n)] [stO L p] fun r os => ∃ (l : List Ac) (p' : Int), r = .c (.lst 6 (l.map encAc)) ∧ os = [stO L p'] ∧ l.length ≤ n ∧ p ≤ p' ∧ p' ≤ p + 14 * n ∧ ∀ x ∈ l, x.drum ∈ names6 := by
  have hS : ∀ x : Int, p ≤ x → x ≤ p + 14 * 14 → StOk L x := fun x h3 h4 => ⟨hst.1, by have := hst.2.1; omega, by omega⟩
  refine fn_soundX (mt := mts) tab_fits tab_mixed Try.func50 (by rfl) (by kernel_rfl) (by kernel_rfl) Try.results50 (Nat.le_of_ble_eq_true (by kernel_rfl)) ?_
  conv => whnf
  refine loop_count3 (n) [.sl 5 139 6] [0, 5, 6, 9, 10] (fun k (at0 : Int) (q : Int) (l : List Ac) => ⟨[(0, .c (.ptr 0 0)), (5, .c (.row 1)), (6, .c (.int .i64 at0)), (9, .c (.int .i64 n)), (10, .c (.int .i64 k))], [(0, stO L q), (1, .row 139 6 (l.map encAc))], 2⟩) (fun k (at0 : Int) (q : Int) (l : List Ac) => l.length = k ∧ p ≤ q ∧ q ≤ p + 14 * k ∧ ∀ x ∈ l, x.drum ∈ names6) (0) (p) ([]) ?_ ?_ ?_
  · conv => whnf
    exact ⟨rfl, rfl, by omega, by omega, by intro x hx; cases hx⟩
  · intro k at0 q l hk ⟨h1, h2, h3, h4⟩
    have hlm : (l.map encAc).length = k := by rw [List.length_map, h1]
    have hQ : ∀ x : Int, q ≤ x → x ≤ q + 14 → StOk L x := fun x h3 h4 => hS x (by omega) (by omega)
    conv => whnf
    repeat' (first
      | (refine Split.mk (fun h => ?_) (fun h => ?_) <;> (try simp only [decide_eq_true_eq, decide_eq_false_iff_not, Bool.not_eq_true', Bool.not_eq_false', beq_iff_eq, beq_eq_false_iff_ne] at h) <;> (first | (exfalso; first | omega | exact h trivial) | (conv => whnf)))
      | (refine CondG.mk (fun h => ?_) (fun h => ?_) <;> (try simp only [decide_eq_true_eq, decide_eq_false_iff_not, Bool.not_eq_true', Bool.not_eq_false', beq_iff_eq, beq_eq_false_iff_ne] at h) <;> (first | (exfalso; first | omega | exact h trivial) | (conv => whnf)))
      | (refine CallX.mk _ _ (by first | exact pick_ok (hQ _ (by omega) (by omega)) [0, 1, 1, 5] (by decide) (by decide) | exact pick_ok (hQ _ (by omega) (by omega)) [2, 2, 2, 3, 4, 1] (by decide) (by decide) | exact some_ok (hQ _ (by omega) (by omega)) [bDa, bDa, bDb, ⟨#[100, 99]⟩, ⟨#[100, 100]⟩] (by decide) (by decide) | exact some_ok (hQ _ (by omega) (by omega)) [⟨#[116]⟩, ⟨#[117]⟩] (by decide) (by decide) | exact pick_ok (hQ _ (by omega) (by omega)) [60, 100] (by decide) (by decide) | exact pick_ok (hQ _ (by omega) (by omega)) [10, 20, 40, 60] (by decide) (by decide) | exact some_ok (hQ _ (by omega) (by omega)) [bDa, bDb, ⟨#[122, 122]⟩] (by decide) (by decide) | exact pick_ok (hQ _ (by omega) (by omega)) [5, 10] (by decide) (by decide) | exact flip_ok (hQ _ (by omega) (by omega)) 80 (by omega) | exact next_ok (hQ _ (by omega) (by omega)) 3 (by omega) | exact odd_ok (hQ _ (by omega) (by omega)) (hQ _ (by omega) (by omega)) 0 50 (small_lit (by decide)) (small_lit (by decide)) (by decide) | exact odd_ok (hQ _ (by omega) (by omega)) (hQ _ (by omega) (by omega)) 1 4 (small_lit (by decide)) (small_lit (by decide)) (by decide) | exact odd_ok (hQ _ (by omega) (by omega)) (hQ _ (by omega) (by omega)) 1 50 (small_lit (by decide)) (small_lit (by decide)) (by decide) | exact some_ok (hQ _ (by omega) (by omega)) [⟨#[]⟩, ⟨#[65]⟩, _] (by simp) (by simp) | exact some_ok (hQ _ (by omega) (by omega)) [⟨#[]⟩, ⟨#[116]⟩] (by decide) (by decide) | exact some_ok (hQ _ (by omega) (by omega)) [⟨#[]⟩, bDa] (by decide) (by decide)) ?_; conv => whnf)
      | (refine CallG.mk _ _ (by first | exact pick_ok (hQ _ (by omega) (by omega)) [0, 1, 1, 5] (by decide) (by decide) | exact pick_ok (hQ _ (by omega) (by omega)) [2, 2, 2, 3, 4, 1] (by decide) (by decide) | exact some_ok (hQ _ (by omega) (by omega)) [bDa, bDa, bDb, ⟨#[100, 99]⟩, ⟨#[100, 100]⟩] (by decide) (by decide) | exact some_ok (hQ _ (by omega) (by omega)) [⟨#[116]⟩, ⟨#[117]⟩] (by decide) (by decide) | exact pick_ok (hQ _ (by omega) (by omega)) [60, 100] (by decide) (by decide) | exact pick_ok (hQ _ (by omega) (by omega)) [10, 20, 40, 60] (by decide) (by decide) | exact some_ok (hQ _ (by omega) (by omega)) [bDa, bDb, ⟨#[122, 122]⟩] (by decide) (by decide) | exact pick_ok (hQ _ (by omega) (by omega)) [5, 10] (by decide) (by decide) | exact flip_ok (hQ _ (by omega) (by omega)) 80 (by omega) | exact next_ok (hQ _ (by omega) (by omega)) 3 (by omega) | exact odd_ok (hQ _ (by omega) (by omega)) (hQ _ (by omega) (by omega)) 0 50 (small_lit (by decide)) (small_lit (by decide)) (by decide) | exact odd_ok (hQ _ (by omega) (by omega)) (hQ _ (by omega) (by omega)) 1 4 (small_lit (by decide)) (small_lit (by decide)) (by decide) | exact odd_ok (hQ _ (by omega) (by omega)) (hQ _ (by omega) (by omega)) 1 50 (small_lit (by decide)) (small_lit (by decide)) (by decide) | exact some_ok (hQ _ (by omega) (by omega)) [⟨#[]⟩, ⟨#[65]⟩, _] (by simp) (by simp) | exact some_ok (hQ _ (by omega) (by omega)) [⟨#[]⟩, ⟨#[116]⟩] (by decide) (by decide) | exact some_ok (hQ _ (by omega) (by omega)) [⟨#[]⟩, bDa] (by decide) (by decide)) ?_; conv => whnf)
      | (refine Ask.mk (by first | omega | (unfold roomOK; simp [cutRows]; done) | (unfold roomOK; simp [cutRows]; omega)) ?_; conv => whnf)
      | (refine SliceG.fr ?_; conv => whnf)
      | fail)
    all_goals exact count_next (_, _, l ++ [(⟨_, _, _, _, _, _⟩ : Ac)]) hk (by rw [wrap_succ hk (by omega)]; simp only [List.map_append]; rfl) ⟨by simp [h1], by simp only; omega, by simp only; omega, names_push h4 (by first | exact names_a L _ | exact names_b L _ (names_a L _))⟩
  · intro at0 q l ⟨h1, h2, h3, h4⟩
    have h5 : ∀ x ∈ cpt (insSort ordC l), x.drum ∈ names6 := fun x hx => h4 x ((insSort_perm ordC l).mem_iff.1 (mem_cpt hx))
    have hlm : (l.map encAc).length = n := by rw [List.length_map, h1]
    conv => whnf
    repeat' (first
      | (refine Split.mk (fun h => ?_) (fun h => ?_) <;> (try simp only [decide_eq_true_eq, decide_eq_false_iff_not, Bool.not_eq_true', Bool.not_eq_false', beq_iff_eq, beq_eq_false_iff_ne] at h) <;> (first | (exfalso; first | omega | exact h trivial) | (conv => whnf)))
      | (refine CondG.mk (fun h => ?_) (fun h => ?_) <;> (try simp only [decide_eq_true_eq, decide_eq_false_iff_not, Bool.not_eq_true', Bool.not_eq_false', beq_iff_eq, beq_eq_false_iff_ne] at h) <;> (first | (exfalso; first | omega | exact h trivial) | (conv => whnf)))
      | (refine CallX.mk _ _ (by first | exact stAct_pc _ ordC actOrder_pc l (by omega)) ?_; conv => whnf)
      | (refine CallG.mk _ _ (by first | exact stAct_pc _ ordC actOrder_pc l (by omega)) ?_; conv => whnf)
      | (refine Ask.mk (by first | omega | (unfold roomOK; simp [cutRows]; done) | (unfold roomOK; simp [cutRows]; omega)) ?_; conv => whnf)
      | (refine SliceG.fr ?_; conv => whnf)
      | fail)
    have hle := cpt_len (insSort ordC l)
    rw [insSort_len] at hle
    obtain ⟨ob, ⟨rows, rfl⟩ | rfl, hc⟩ := cptAc_pc (insSort ordC l) (by rw [insSort_len]; omega)
    · refine .mk _ _ hc ?_
      conv => whnf
      exact .mk _ _ ⟨_, _, rfl, rfl, by omega, h2, by omega, h5⟩ (.mk ⟨rfl, rfl⟩)
    · refine .mk _ _ hc ?_
      conv => whnf
      exact .mk _ _ ⟨_, _, rfl, rfl, by omega, h2, by omega, h5⟩ (.mk ⟨rfl, rfl⟩)
end Go.Proofs.Ytmpjgbanmdgooaa

/- A store, as the program follows it. -/
namespace Go.Proofs.Ytmpjgbanmdgooaa
set_option linter.unusedVariables false
set_option linter.unusedSimpArgs false
open Abs

abbrev bE : ByteArray := ⟨#[]⟩
abbrev ekS : ByteArray → S := fun b => .c (.str b)
abbrev evD : ByteArray × Int → S := fun v => .agg [.str v.1, .int .i64 v.2]
abbrev evK : ByteArray → S := fun v => .c (.str v)
abbrev evI : Int → S := fun v => .c (.int .i64 v)
structure Sto where
  d : SM ByteArray (ByteArray × Int)
  k : SM ByteArray ByteArray
structure Sto.ok (s : Sto) : Prop where
  d : s.d.ok
  k : s.k.ok
abbrev stoD (s : Sto) : Ob := smO ekS evD s.d
abbrev stoK (s : Sto) : Ob := smO ekS evK s.k
def takeS (s : Sto) (x : Ac) : Sto × ByteArray × Int :=
  if x.kd = 1 ∨ x.kd = 3 then
    if (s.k.get x.drum).isSome then (s, bE, 6)
    else if x.kd = 1 then (⟨s.d.put x.drum (x.ty, x.long), s.k.put x.drum x.ty⟩, x.ty, 0)
    else if (s.k.get x.of).isSome then (⟨s.d.put x.drum ((s.k.get x.of).getD bE, x.long), s.k.put x.drum ((s.k.get x.of).getD bE)⟩, (s.k.get x.of).getD bE, 0)
    else (s, bE, 8)
  else if (s.d.get x.drum).isSome then
    if x.kd = 2 ∧ ((s.d.get x.drum).getD (bE, 0)).2 < x.long then (s, bE, 12)
    else if x.kd = 4 ∨ IntKind.i64.wrap (((s.d.get x.drum).getD (bE, 0)).2 - x.long) = 0 then (⟨s.d.del x.drum, s.k⟩, ((s.d.get x.drum).getD (bE, 0)).1, 0)
    else (⟨s.d.put x.drum (((s.d.get x.drum).getD (bE, 0)).1, IntKind.i64.wrap (((s.d.get x.drum).getD (bE, 0)).2 - x.long)), s.k⟩, ((s.d.get x.drum).getD (bE, 0)).1, 0)
  else (s, bE, 8)
set_option maxRecDepth 100000 in
set_option maxHeartbeats 4000000 in
theorem take_pc (s : Sto) (hs : s.ok) (x : Ac) :
    PCp 146 [.c (.ptr 0 0), .agg (encAc x)] [stBox, stoD s, stoK s] (.tup [.c (.str (takeS s x).2.1), .c (.int .i64 (takeS s x).2.2)]) [stBox, stoD (takeS s x).1, stoK (takeS s x).1] := by
  refine fn_sound (mt := mts) tab_fits tab_mixed Try.func146 (by rfl) (by kernel_rfl) (by kernel_rfl) Try.results146 (Nat.le_of_ble_eq_true (by kernel_rfl)) ?_
  conv => whnf
  repeat' (first
    | (refine Split.mk (fun h => ?_) (fun h => ?_) <;> (try simp only [decide_eq_true_eq, decide_eq_false_iff_not, Bool.not_eq_true', Bool.not_eq_false', beq_iff_eq, beq_eq_false_iff_ne] at h) <;> (first | (exfalso; first | omega | exact h trivial) | (conv => whnf)))
    | (refine CondG.mk (fun h => ?_) (fun h => ?_) <;> (try simp only [decide_eq_true_eq, decide_eq_false_iff_not, Bool.not_eq_true', Bool.not_eq_false', beq_iff_eq, beq_eq_false_iff_ne] at h) <;> (first | (exfalso; first | omega | exact h trivial) | (conv => whnf)))
    | (refine Ask.mk (by first | omega | (unfold roomOK; simp [cutRows]; done) | (unfold roomOK; simp [cutRows]; omega)) ?_; conv => whnf)
    | (refine SliceG.fr ?_; conv => whnf)
    | ((with_reducible refine sm_look (ek := ekS) (ev := evD) keyStr s.d x.drum (bE, 0) ?_ ?_); exact rfl; conv => whnf)
    | ((with_reducible refine sm_look (ek := ekS) (ev := evK) keyStr s.k _ bE ?_ ?_); exact rfl; conv => whnf)
    | ((with_reducible refine sm_del (ek := ekS) (ev := evD) keyStr s.d x.drum ?_); conv => whnf)
    | ((with_reducible refine sm_upd (ek := ekS) (ev := evD) keyStr s.d x.drum (_, _) ?_); conv => whnf)
    | ((with_reducible refine sm_entry (ek := ekS) (ev := evD) keyStr s.d x.drum (bE, 0) ?_ ?_); exact rfl; conv => whnf)
    | ((with_reducible refine sm_entry (ek := ekS) (ev := evK) keyStr s.k x.drum bE ?_ ?_); exact rfl; conv => whnf)
    | ((with_reducible refine sm_stamp (ek := ekS) (ev := evD) hs.d x.drum _ (_, _) ?_ ?_); exact rfl; conv => whnf)
    | ((with_reducible refine sm_stamp (ek := ekS) (ev := evK) hs.k x.drum _ _ ?_ ?_); exact rfl; conv => whnf)
    | fail)
  all_goals try ((with_reducible refine sm_upd (ek := ekS) (ev := evD) keyStr s.d x.drum (((s.d.get x.drum).getD (bE, 0)).1, IntKind.i64.wrap (((s.d.get x.drum).getD (bE, 0)).2 - x.long)) ?_); conv => whnf)
  all_goals first
    | (have hT : takeS s x = (s, bE, 6) := by (unfold takeS; simp_all; done)
       rw [hT]; exact .mk ⟨rfl, rfl⟩)
    | (have hT : takeS s x = (s, bE, 8) := by (unfold takeS; simp_all; done)
       rw [hT]; exact .mk ⟨rfl, rfl⟩)
    | (have hT : takeS s x = (s, bE, 12) := by (unfold takeS; simp_all; done)
       rw [hT]; exact .mk ⟨rfl, rfl⟩)
    | (have hT : takeS s x = (⟨s.d.put x.drum (x.ty, x.long), s.k.put x.drum x.ty⟩, x.ty, 0) := by (unfold takeS; simp_all; done)
       rw [hT]; exact .mk ⟨rfl, rfl⟩)
    | (have hT : takeS s x = (⟨s.d.put x.drum ((s.k.get x.of).getD bE, x.long), s.k.put x.drum ((s.k.get x.of).getD bE)⟩, (s.k.get x.of).getD bE, 0) := by (unfold takeS; simp_all; done)
       rw [hT]; exact .mk ⟨rfl, rfl⟩)
    | (have hT : takeS s x = (⟨s.d.del x.drum, s.k⟩, ((s.d.get x.drum).getD (bE, 0)).1, 0) := by (unfold takeS; simp_all; done)
       rw [hT]; exact .mk ⟨rfl, rfl⟩)
    | (have hT : takeS s x = (⟨s.d.put x.drum (((s.d.get x.drum).getD (bE, 0)).1, IntKind.i64.wrap (((s.d.get x.drum).getD (bE, 0)).2 - x.long)), s.k⟩, ((s.d.get x.drum).getD (bE, 0)).1, 0) := by (unfold takeS; simp_all; done)
       rw [hT]; exact .mk ⟨rfl, rfl⟩)
end Go.Proofs.Ytmpjgbanmdgooaa

/- What was used, as the program counts it. -/
namespace Go.Proofs.Ytmpjgbanmdgooaa
set_option linter.unusedVariables false
set_option linter.unusedSimpArgs false
open Abs

abbrev Wi := Int × Int
abbrev encW (w : Wi) : List V := [.int .i64 w.1, .int .i64 w.2]
def inW (w : Wi) (n : Int) : Bool := decide (w.1 ≤ n ∧ n < w.2)
set_option maxRecDepth 100000 in
set_option maxHeartbeats 4000000 in
theorem bIn_pc (w : Wi) (n : Int) : PCp 111 [.agg (encW w), .c (.int .i64 n)] [] (.c (.bool (inW w n))) [] := by
  refine fn_sound (mt := mts) tab_fits tab_mixed Try.func111 (by rfl) (by kernel_rfl) (by kernel_rfl) Try.results111 (Nat.le_of_ble_eq_true (by kernel_rfl)) ?_
  conv => whnf
  repeat' (first
    | (refine Split.mk (fun h => ?_) (fun h => ?_) <;> (try simp only [decide_eq_true_eq, decide_eq_false_iff_not, Bool.not_eq_true', Bool.not_eq_false', beq_iff_eq, beq_eq_false_iff_ne] at h) <;> (first | (exfalso; first | omega | exact h trivial) | (conv => whnf)))
    | (refine CondG.mk (fun h => ?_) (fun h => ?_) <;> (try simp only [decide_eq_true_eq, decide_eq_false_iff_not, Bool.not_eq_true', Bool.not_eq_false', beq_iff_eq, beq_eq_false_iff_ne] at h) <;> (first | (exfalso; first | omega | exact h trivial) | (conv => whnf)))
    | (refine Ask.mk (by first | omega | (unfold roomOK; simp [cutRows]; done) | (unfold roomOK; simp [cutRows]; omega)) ?_; conv => whnf)
    | (refine SliceG.fr ?_; conv => whnf)
    | fail)
  all_goals exact finb (by simp_all [inW] <;> omega)
def winB (w : Wi) : Bool := decide (0 ≤ w.1 ∧ w.1 ≤ w.2 ∧ w.2 ≤ 345686400000)
set_option maxRecDepth 100000 in
set_option maxHeartbeats 4000000 in
theorem bWindow_pc (w : Wi) : PCp 145 [.agg (encW w)] [] (.c (.bool (winB w))) [] := by
  refine fn_sound (mt := mts) tab_fits tab_mixed Try.func145 (by rfl) (by kernel_rfl) (by kernel_rfl) Try.results145 (Nat.le_of_ble_eq_true (by kernel_rfl)) ?_
  conv => whnf
  repeat' (first
    | (refine Split.mk (fun h => ?_) (fun h => ?_) <;> (try simp only [decide_eq_true_eq, decide_eq_false_iff_not, Bool.not_eq_true', Bool.not_eq_false', beq_iff_eq, beq_eq_false_iff_ne] at h) <;> (first | (exfalso; first | omega | exact h trivial) | (conv => whnf)))
    | (refine CondG.mk (fun h => ?_) (fun h => ?_) <;> (try simp only [decide_eq_true_eq, decide_eq_false_iff_not, Bool.not_eq_true', Bool.not_eq_false', beq_iff_eq, beq_eq_false_iff_ne] at h) <;> (first | (exfalso; first | omega | exact h trivial) | (conv => whnf)))
    | (refine CallX.mk _ _ (by first | exact bOut_pc _ _ _) ?_; conv => whnf)
    | (refine CallG.mk _ _ (by first | exact bOut_pc _ _ _) ?_; conv => whnf)
    | (refine Ask.mk (by first | omega | (unfold roomOK; simp [cutRows]; done) | (unfold roomOK; simp [cutRows]; omega)) ?_; conv => whnf)
    | (refine SliceG.fr ?_; conv => whnf)
    | fail)
  all_goals exact finb (by simp_all [winB] <;> omega)
def winErr (l : List Ac) (kind : ByteArray) (w : Wi) : Int := if actsFault l ≠ 0 then actsFault l else if !keyB kind then 5 else if !winB w then 1 else 0
set_option maxRecDepth 100000 in
set_option maxHeartbeats 4000000 in
theorem dWinFault_pc (l : List Ac) (kind : ByteArray) (w : Wi) : PCp 108 [.c (.lst 6 (l.map encAc)), .c (.str kind), .agg (encW w)] [] (.c (.int .i64 (winErr l kind w))) [] := by
  refine fn_sound (mt := mts) tab_fits tab_mixed Try.func108 (by rfl) (by kernel_rfl) (by kernel_rfl) Try.results108 (Nat.le_of_ble_eq_true (by kernel_rfl)) ?_
  conv => whnf
  repeat' (first
    | (refine Split.mk (fun h => ?_) (fun h => ?_) <;> (try simp only [decide_eq_true_eq, decide_eq_false_iff_not, Bool.not_eq_true', Bool.not_eq_false', beq_iff_eq, beq_eq_false_iff_ne] at h) <;> (first | (exfalso; first | omega | exact h trivial) | (conv => whnf)))
    | (refine CondG.mk (fun h => ?_) (fun h => ?_) <;> (try simp only [decide_eq_true_eq, decide_eq_false_iff_not, Bool.not_eq_true', Bool.not_eq_false', beq_iff_eq, beq_eq_false_iff_ne] at h) <;> (first | (exfalso; first | omega | exact h trivial) | (conv => whnf)))
    | (refine CallX.mk _ _ (by first | exact checkActs_pc l | exact bKey_pc _ | exact bWindow_pc w) ?_; conv => whnf)
    | (refine CallG.mk _ _ (by first | exact checkActs_pc l | exact bKey_pc _ | exact bWindow_pc w) ?_; conv => whnf)
    | (refine Ask.mk (by first | omega | (unfold roomOK; simp [cutRows]; done) | (unfold roomOK; simp [cutRows]; omega)) ?_; conv => whnf)
    | (refine SliceG.fr ?_; conv => whnf)
    | fail)
  all_goals exact fini (by simp_all [winErr])

/-- the store behind the first acts -/
def stoNil : Sto := ⟨SM.nil, SM.nil⟩
def stoAt (l : List Ac) : Nat → Sto
  | 0 => stoNil
  | k + 1 => (takeS (stoAt l k) (l.getD k ⟨0, 0, bE, bE, bE, 0⟩)).1
theorem takeS_ok {s : Sto} (hs : s.ok) (x : Ac) : (takeS s x).1.ok := by
  unfold takeS
  repeat' split
  all_goals first
    | exact hs
    | exact ⟨hs.d.put _ _, hs.k.put _ _⟩
    | exact ⟨hs.d.del _, hs.k⟩
    | exact ⟨hs.d.put _ _, hs.k⟩
theorem stoAt_ok (l : List Ac) : ∀ k, (stoAt l k).ok
  | 0 => ⟨SM.ok_nil, SM.ok_nil⟩
  | k + 1 => takeS_ok (stoAt_ok l k) _
def usedStep (kind : ByteArray) (w : Wi) (x : Ac) (of : ByteArray) (e n : Int) : Int :=
  if e ≠ 0 ∨ of ≠ kind ∨ inW w x.mo = false then n else if x.kd = 2 then IntKind.i64.wrap (n + x.long) else if x.kd = 3 then IntKind.i64.wrap (n - x.long) else n
set_option maxRecDepth 100000 in
set_option maxHeartbeats 4000000 in
theorem used1_pc (s : Sto) (l : List Ac) (kind : ByteArray) (w : Wi) (i : Nat) (hi : i < l.length) (of : ByteArray) (e n : Int) :
    PCp 110 [.c (.ptr 0 0), .c (.int .i64 i), .c (.str of), .c (.int .i64 e), .c (.ptr 3 0), .c (.ptr 4 0), .c (.ptr 5 0), .c (.ptr 6 0)] [stBox, stoD s, stoK s, .box [.str kind], .box (encW w), .box [.lst 6 (l.map encAc)], .box [.int .i64 n]]
      (.tup []) [stBox, stoD s, stoK s, .box [.str kind], .box (encW w), .box [.lst 6 (l.map encAc)], .box [.int .i64 (usedStep kind w l[i] of e n)]] := by
  refine fn_sound (mt := mts) tab_fits tab_mixed Try.func110 (by rfl) (by kernel_rfl) (by kernel_rfl) Try.results110 (Nat.le_of_ble_eq_true (by kernel_rfl)) ?_
  conv => whnf
  repeat' (first
    | (refine Split.mk (fun h => ?_) (fun h => ?_) <;> (try simp only [decide_eq_true_eq, decide_eq_false_iff_not, Bool.not_eq_true', Bool.not_eq_false', beq_iff_eq, beq_eq_false_iff_ne, bne_iff_ne, bne_eq_false_iff_eq] at h) <;> (first | (exfalso; first | omega | exact h trivial) | (conv => whnf)))
    | (refine CondG.mk (fun h => ?_) (fun h => ?_) <;> (try simp only [decide_eq_true_eq, decide_eq_false_iff_not, Bool.not_eq_true', Bool.not_eq_false', beq_iff_eq, beq_eq_false_iff_ne, bne_iff_ne, bne_eq_false_iff_eq] at h) <;> (first | (exfalso; first | omega | exact h trivial) | (conv => whnf)))
    | (refine CallX.mk _ _ (by first | exact bIn_pc w _) ?_; conv => whnf)
    | (refine CallG.mk _ _ (by first | exact bIn_pc w _) ?_; conv => whnf)
    | (refine Ask.mk (by first | omega | (unfold roomOK; simp [cutRows]; done) | (unfold roomOK; simp [cutRows]; omega)) ?_; conv => whnf)
    | (refine SliceG.fr ?_; conv => whnf)
    | (refine idx_at _ (by with_reducible rfl) (by first | assumption | omega) ?_; conv => whnf)
    | fail)
  all_goals first
    | (have hv : usedStep kind w l[i] of e n = n := by (unfold usedStep; simp_all [strEq]; done)
       rw [hv]; exact .mk ⟨rfl, rfl⟩)
    | (have hv : usedStep kind w l[i] of e n = IntKind.i64.wrap (n + l[i].long) := by (unfold usedStep; simp_all [strEq]; done)
       rw [hv]; exact .mk ⟨rfl, rfl⟩)
    | (have hv : usedStep kind w l[i] of e n = IntKind.i64.wrap (n - l[i].long) := by (unfold usedStep; simp_all [strEq]; done)
       rw [hv]; exact .mk ⟨rfl, rfl⟩)
def usedAt (l : List Ac) (kind : ByteArray) (w : Wi) : Nat → Int
  | 0 => 0
  | k + 1 => usedStep kind w (l.getD k ⟨0, 0, bE, bE, bE, 0⟩) (takeS (stoAt l k) (l.getD k ⟨0, 0, bE, bE, bE, 0⟩)).2.1 (takeS (stoAt l k) (l.getD k ⟨0, 0, bE, bE, bE, 0⟩)).2.2 (usedAt l kind w k)
set_option maxRecDepth 100000 in
set_option maxHeartbeats 4000000 in
theorem followU_pc (l : List Ac) (hl : l.length ≤ 1000000) (kind : ByteArray) (w : Wi) :
    PCp 109 [.c (.lst 6 (l.map encAc)), .c (.fn 110 [.ptr 0 0, .ptr 1 0, .ptr 2 0, .ptr 3 0])] [.box [.str kind], .box (encW w), .box [.lst 6 (l.map encAc)], .box [.int .i64 0]]
      (.c (.ptr 4 0)) [.box [.str kind], .box (encW w), .box [.lst 6 (l.map encAc)], .box [.int .i64 (usedAt l kind w l.length)], .box [.mp 5, .mp 6], stoD (stoAt l l.length), stoK (stoAt l l.length)] := by
  have hlm : (l.map encAc).length = l.length := List.length_map ..
  refine fn_sound (mt := mts) tab_fits tab_mixed Try.func109 (by rfl) (by kernel_rfl) (by kernel_rfl) Try.results109 (Nat.le_of_ble_eq_true (by kernel_rfl)) ?_
  conv => whnf
  refine loop_count (l.length) [] [1, 5, 14, 15, 16] (fun k (_ : Unit) => ⟨[(1, .c (.fn 110 [.ptr 0 0, .ptr 1 0, .ptr 2 0, .ptr 3 0])), (5, .c (.ptr 4 0)), (14, .c (.lst 6 (l.map encAc))), (15, .c (.int .i64 (l.map encAc).length)), (16, .c (.int .i64 k))], [(0, .box [.str kind]), (1, .box (encW w)), (2, .box [.lst 6 (l.map encAc)]), (3, .box [.int .i64 (usedAt l kind w k)]), (4, .box [.mp 5, .mp 6]), (5, stoD (stoAt l k)), (6, stoK (stoAt l k))], 7⟩) (fun k (_ : Unit) => True) (()) ?_ ?_ ?_
  · conv => whnf
    exact ⟨rfl, trivial⟩
  · intro k _ hk _
    have hg : l.getD k ⟨0, 0, bE, bE, bE, 0⟩ = l[k] := by simp [hk]
    conv => whnf
    repeat' (first
      | (refine Split.mk (fun h => ?_) (fun h => ?_) <;> (try simp only [decide_eq_true_eq, decide_eq_false_iff_not, Bool.not_eq_true', Bool.not_eq_false', beq_iff_eq, beq_eq_false_iff_ne, bne_iff_ne, bne_eq_false_iff_eq] at h) <;> (first | (exfalso; first | omega | exact h trivial) | (conv => whnf)))
      | (refine CondG.mk (fun h => ?_) (fun h => ?_) <;> (try simp only [decide_eq_true_eq, decide_eq_false_iff_not, Bool.not_eq_true', Bool.not_eq_false', beq_iff_eq, beq_eq_false_iff_ne, bne_iff_ne, bne_eq_false_iff_eq] at h) <;> (first | (exfalso; first | omega | exact h trivial) | (conv => whnf)))
      | (refine CallX.mk _ _ (by first | exact take_pc (stoAt l k) (stoAt_ok l k) l[k] | exact used1_pc _ l kind w k hk _ _ _) ?_; conv => whnf)
      | (refine CallG.mk _ _ (by first | exact take_pc (stoAt l k) (stoAt_ok l k) l[k] | exact used1_pc _ l kind w k hk _ _ _) ?_; conv => whnf)
      | (refine Ask.mk (by first | omega | (unfold roomOK; simp [cutRows]; done) | (unfold roomOK; simp [cutRows]; omega)) ?_; conv => whnf)
      | (refine SliceG.fr ?_; conv => whnf)
      | (refine idx_at _ (by with_reducible rfl) (by first | assumption | omega) ?_; conv => whnf)
      | fail)
    refine count_next () hk (by rw [wrap_succ hk (by omega)]; simp only [usedAt, stoAt, hg]; rfl) trivial
  · intro _ _
    conv => whnf
    repeat' (first
      | (refine Split.mk (fun h => ?_) (fun h => ?_) <;> (try simp only [decide_eq_true_eq, decide_eq_false_iff_not, Bool.not_eq_true', Bool.not_eq_false', beq_iff_eq, beq_eq_false_iff_ne] at h) <;> (first | (exfalso; first | omega | exact h trivial) | (conv => whnf)))
      | (refine CondG.mk (fun h => ?_) (fun h => ?_) <;> (try simp only [decide_eq_true_eq, decide_eq_false_iff_not, Bool.not_eq_true', Bool.not_eq_false', beq_iff_eq, beq_eq_false_iff_ne] at h) <;> (first | (exfalso; first | omega | exact h trivial) | (conv => whnf)))
      | (refine Ask.mk (by first | omega | (unfold roomOK; simp [cutRows]; done) | (unfold roomOK; simp [cutRows]; omega)) ?_; conv => whnf)
      | (refine SliceG.fr ?_; conv => whnf)
      | fail)
    exact .mk ⟨rfl, rfl⟩
def usedV (l : List Ac) (kind : ByteArray) (w : Wi) : Int := if winErr l kind w = 0 then usedAt l kind w l.length else 0
set_option maxRecDepth 100000 in
set_option maxHeartbeats 4000000 in
theorem dUsed_pc (l : List Ac) (hl : l.length ≤ 1000000) (kind : ByteArray) (w : Wi) :
    PCp 53 [.c (.lst 6 (l.map encAc)), .c (.str kind), .agg (encW w)] [] (.tup [.c (.int .i64 (usedV l kind w)), .c (.int .i64 (winErr l kind w))]) [] := by
  refine fn_sound (mt := mts) tab_fits tab_mixed Try.func53 (by rfl) (by kernel_rfl) (by kernel_rfl) Try.results53 (Nat.le_of_ble_eq_true (by kernel_rfl)) ?_
  conv => whnf
  repeat' (first
    | (refine Split.mk (fun h => ?_) (fun h => ?_) <;> (try simp only [decide_eq_true_eq, decide_eq_false_iff_not, Bool.not_eq_true', Bool.not_eq_false', beq_iff_eq, beq_eq_false_iff_ne, bne_iff_ne, bne_eq_false_iff_eq] at h) <;> (first | (exfalso; first | omega | exact h trivial) | (conv => whnf)))
    | (refine CondG.mk (fun h => ?_) (fun h => ?_) <;> (try simp only [decide_eq_true_eq, decide_eq_false_iff_not, Bool.not_eq_true', Bool.not_eq_false', beq_iff_eq, beq_eq_false_iff_ne, bne_iff_ne, bne_eq_false_iff_eq] at h) <;> (first | (exfalso; first | omega | exact h trivial) | (conv => whnf)))
    | (refine CallX.mk _ _ (by first | exact dWinFault_pc l kind w | exact followU_pc l hl kind w) ?_; conv => whnf)
    | (refine CallG.mk _ _ (by first | exact dWinFault_pc l kind w | exact followU_pc l hl kind w) ?_; conv => whnf)
    | (refine Ask.mk (by first | omega | (unfold roomOK; simp [cutRows]; done) | (unfold roomOK; simp [cutRows]; omega)) ?_; conv => whnf)
    | (refine SliceG.fr ?_; conv => whnf)
    | (refine idx_at _ (by with_reducible rfl) (by first | assumption | omega) ?_; conv => whnf)
    | fail)
  · exact .mk ⟨by rw [usedV, if_neg h]; rfl, rfl⟩
  · exact .mk ⟨by rw [usedV, if_pos (by omega), show winErr l kind w = 0 by omega]; rfl, rfl⟩
end Go.Proofs.Ytmpjgbanmdgooaa

/- The least stock, as the program finds it. -/
namespace Go.Proofs.Ytmpjgbanmdgooaa
set_option linter.unusedVariables false
set_option linter.unusedSimpArgs false
open Abs

abbrev DE := Nat × ByteArray × (ByteArray × Int)
def sumK (kind : ByteArray) : List DE → Int
  | [] => 0
  | e :: r => sumK kind r + (if e.2.2.1 = kind then e.2.2.2 else 0)
theorem sumK_perm (kind : ByteArray) {l m : List DE} (h : l.Perm m) : sumK kind l = sumK kind m := by
  induction h with
  | nil => rfl
  | cons x _ ih => simp only [sumK, ih]
  | swap x y l => simp only [sumK]; omega
  | trans _ _ h1 h2 => exact h1.trans h2
def LongOk (s : Sto) : Prop := (∀ e ∈ s.d.es, 0 < e.2.2.2 ∧ e.2.2.2 ≤ 200000) ∧ s.d.es.length ≤ 1000000
theorem sumK_in (kind : ByteArray) : ∀ (l : List DE), (∀ e ∈ l, 0 < e.2.2.2 ∧ e.2.2.2 ≤ 200000) → 0 ≤ sumK kind l ∧ sumK kind l ≤ 200000 * l.length
  | [], _ => by simp [sumK]
  | e :: r, h => by
    have ih := sumK_in kind r (fun e he => h e (by simp [he]))
    have := h e (by simp)
    simp only [sumK, List.length_cons]
    split <;> omega
set_option maxRecDepth 100000 in
set_option maxHeartbeats 4000000 in
theorem total_pc (s : Sto) (hs : s.ok) (hb : LongOk s) (kind : ByteArray) : PCp 113 [.c (.ptr 0 0), .c (.str kind)] [stBox, stoD s, stoK s] (.c (.int .i64 (sumK kind s.d.es))) [stBox, stoD s, stoK s] := by
  refine fn_sound (mt := mts) tab_fits tab_mixed Try.func113 (by rfl) (by kernel_rfl) (by kernel_rfl) Try.results113 (Nat.le_of_ble_eq_true (by kernel_rfl)) ?_
  conv => whnf
  refine loop_meas (fun (vis : List DE) => s.d.es.length - vis.length) [] [1, 5, 12] (fun (vis : List DE) => ⟨[(1, .c (.str kind)), (5, .c (.int .i64 (sumK kind vis))), (12, .c (.ptr 3 0))], [(0, stBox), (1, stoD s), (2, stoK s), (3, .iter 1 s.d.clock (vis.map (·.1)))], 4⟩) (fun (vis : List DE) => Vis s.d vis) ([]) ?_ ?_
  · conv => whnf
    exact ⟨rfl, Vis.nil _⟩
  · intro vis hv
    have hvl := hv.len
    have hsub := sumK_in kind vis (fun e he => hb.1 e (hv.sub e he))
    have hb2 := hb.2
    conv => whnf
    refine .mk rfl ?_
    conv => whnf
    refine sm_next hs.d hv (fun hp => ?_) (fun e he hn hv' hlt => ?_)
    · conv => whnf
      exact fini (sumK_perm kind hp)
    · have hbe := hb.1 e he
      conv => whnf
      refine .mk rfl ?_
      conv => whnf
      refine sm_at hs.d he ?_
      conv => whnf
      repeat' (first
        | (refine Split.mk (fun h => ?_) (fun h => ?_) <;> (try simp only [decide_eq_true_eq, decide_eq_false_iff_not, Bool.not_eq_true', Bool.not_eq_false', beq_iff_eq, beq_eq_false_iff_ne, bne_iff_ne, bne_eq_false_iff_eq] at h) <;> (first | (exfalso; first | omega | exact h trivial) | (conv => whnf)))
        | (refine CondG.mk (fun h => ?_) (fun h => ?_) <;> (try simp only [decide_eq_true_eq, decide_eq_false_iff_not, Bool.not_eq_true', Bool.not_eq_false', beq_iff_eq, beq_eq_false_iff_ne, bne_iff_ne, bne_eq_false_iff_eq] at h) <;> (first | (exfalso; first | omega | exact h trivial) | (conv => whnf)))
        | (refine Ask.mk (by first | omega | (unfold roomOK; simp [cutRows]; done) | (unfold roomOK; simp [cutRows]; omega)) ?_; conv => whnf)
        | (refine SliceG.fr ?_; conv => whnf)
        | (refine idx_at _ (by with_reducible rfl) (by first | assumption | omega) ?_; conv => whnf)
        | fail)
      · exact meas_next (e :: vis) (by simp only [List.length_cons]; omega) (by rw [wrap_in (by omega) (by omega)]; simp only [sumK, if_pos (strEq.1 h)]; rfl) hv'
      · exact meas_next (e :: vis) (by simp only [List.length_cons]; omega) (by simp only [sumK, if_neg (fun e => h (strEq.2 e)), Int.add_zero]; rfl) hv'

/-- what is turned by an act: the number now, the least, begun -/
structure Lo where
  now : Int
  least : Int
  begun : Bool
def lowStep (l : List Ac) (kind : ByteArray) (w : Wi) (i : Nat) (of : ByteArray) (e tot : Int) (q : Lo) : Lo :=
  let mo := (l.getD i ⟨0, 0, bE, bE, bE, 0⟩).mo
  let q1 : Lo := if w.1 < mo ∧ q.begun = false then ⟨q.now, q.now, true⟩ else q
  if w.2 ≤ mo then q1
  else
    let q2 : Lo := if e = 0 ∧ of = kind then ⟨tot, q1.least, q1.begun⟩ else q1
    if q2.begun = true ∧ ((i : Int) = (l.length : Int) - 1 ∨ mo < (l.getD (i + 1) ⟨0, 0, bE, bE, bE, 0⟩).mo) then ⟨q2.now, if q2.now < q2.least then q2.now else q2.least, true⟩ else q2
set_option maxRecDepth 100000 in
set_option maxHeartbeats 4000000 in
theorem low1_pc (s : Sto) (hs : s.ok) (hb : LongOk s) (l : List Ac) (hl : l.length ≤ 1000000) (kind : ByteArray) (w : Wi) (i : Nat) (hi : i < l.length) (of : ByteArray) (e : Int) (q : Lo) :
    PCp 112 [.c (.ptr 0 0), .c (.int .i64 i), .c (.str of), .c (.int .i64 e), .c (.ptr 3 0), .c (.ptr 4 0), .c (.ptr 5 0), .c (.ptr 6 0), .c (.ptr 7 0), .c (.ptr 8 0)] [stBox, stoD s, stoK s, .box [.lst 6 (l.map encAc)], .box (encW w), .box [.bool q.begun], .box [.int .i64 q.now], .box [.int .i64 q.least], .box [.str kind]]
      (.tup []) [stBox, stoD s, stoK s, .box [.lst 6 (l.map encAc)], .box (encW w), .box [.bool (lowStep l kind w i of e (sumK kind s.d.es) q).begun], .box [.int .i64 (lowStep l kind w i of e (sumK kind s.d.es) q).now], .box [.int .i64 (lowStep l kind w i of e (sumK kind s.d.es) q).least], .box [.str kind]] := by
  have hlm : (l.map encAc).length = l.length := List.length_map ..
  have hw1 : IntKind.i64.wrap (((l.map encAc).length : Nat) - 1 : Int) = (l.length : Int) - 1 := by rw [hlm]; exact wrap_in (by omega) (by omega)
  have hg : l.getD i ⟨0, 0, bE, bE, bE, 0⟩ = l[i] := by simp [hi]
  have hg1 : ∀ (h : i + 1 < l.length), l.getD (i + 1) ⟨0, 0, bE, bE, bE, 0⟩ = l[i + 1] := by intro h; simp [h]
  obtain ⟨now, least, begun⟩ := q
  have hw2 : IntKind.i64.wrap ((i : Int) + 1) = ((i + 1 : Nat) : Int) := by rw [wrap_in (by omega) (by omega)]; rfl
  refine fn_sound (mt := mts) tab_fits tab_mixed Try.func112 (by rfl) (by kernel_rfl) (by kernel_rfl) Try.results112 (Nat.le_of_ble_eq_true (by kernel_rfl)) ?_
  conv => whnf
  repeat' (first
    | (refine Split.mk (fun h => ?_) (fun h => ?_) <;> (try simp only [decide_eq_true_eq, decide_eq_false_iff_not, Bool.not_eq_true', Bool.not_eq_false', beq_iff_eq, beq_eq_false_iff_ne, bne_iff_ne, bne_eq_false_iff_eq] at h) <;> (first | (exfalso; first | omega | exact h trivial) | (conv => whnf)))
    | (refine CondG.mk (fun h => ?_) (fun h => ?_) <;> (try simp only [decide_eq_true_eq, decide_eq_false_iff_not, Bool.not_eq_true', Bool.not_eq_false', beq_iff_eq, beq_eq_false_iff_ne, bne_iff_ne, bne_eq_false_iff_eq] at h) <;> (first | (exfalso; first | omega | exact h trivial) | (conv => whnf)))
    | (refine CallX.mk _ _ (by first | exact total_pc s hs hb kind) ?_; conv => whnf)
    | (refine CallG.mk _ _ (by first | exact total_pc s hs hb kind) ?_; conv => whnf)
    | (refine Ask.mk (by first | omega | (unfold roomOK; simp [cutRows]; done) | (unfold roomOK; simp [cutRows]; omega)) ?_; conv => whnf)
    | (refine SliceG.fr ?_; conv => whnf)
    | (refine idx_at _ (by with_reducible rfl) (by first | assumption | omega) ?_; conv => whnf)
    | (rw [hw2]; refine idx_map (i + 1) (by omega) rfl ?_; conv => whnf)
    | fail)
  all_goals (refine .mk ⟨rfl, ?_⟩)
  all_goals (simp only [lowStep, hg]; clear hs hb)
  all_goals (first | (have hq := hg1 (by omega); rw [hq]) | skip)
  all_goals (try simp only [strEq] at *)
  all_goals (repeat' split)
  all_goals first | rfl | (exfalso; first | omega | (simp_all; done) | (simp_all; omega)) | (simp_all; done) | (simp_all; omega)
end Go.Proofs.Ytmpjgbanmdgooaa

/- The least stock, as the program finds it: all acts. -/
namespace Go.Proofs.Ytmpjgbanmdgooaa
set_option linter.unusedVariables false
set_option linter.unusedSimpArgs false
open Abs

abbrev acD : Ac := ⟨0, 0, bE, bE, bE, 0⟩
def lowAt (l : List Ac) (kind : ByteArray) (w : Wi) : Nat → Lo
  | 0 => ⟨0, 0, false⟩
  | k + 1 => lowStep l kind w k (takeS (stoAt l k) (l.getD k acD)).2.1 (takeS (stoAt l k) (l.getD k acD)).2.2 (sumK kind (stoAt l (k + 1)).d.es) (lowAt l kind w k)
set_option maxRecDepth 100000 in
set_option maxHeartbeats 4000000 in
theorem followL_pc (l : List Ac) (hl : l.length ≤ 1000000) (hb : ∀ k, k ≤ l.length → LongOk (stoAt l k)) (kind : ByteArray) (w : Wi) :
    PCp 109 [.c (.lst 6 (l.map encAc)), .c (.fn 112 [.ptr 0 0, .ptr 1 0, .ptr 2 0, .ptr 3 0, .ptr 4 0, .ptr 5 0])] [.box [.lst 6 (l.map encAc)], .box (encW w), .box [.bool false], .box [.int .i64 0], .box [.int .i64 0], .box [.str kind]]
      (.c (.ptr 6 0)) [.box [.lst 6 (l.map encAc)], .box (encW w), .box [.bool (lowAt l kind w l.length).begun], .box [.int .i64 (lowAt l kind w l.length).now], .box [.int .i64 (lowAt l kind w l.length).least], .box [.str kind], .box [.mp 7, .mp 8], stoD (stoAt l l.length), stoK (stoAt l l.length)] := by
  have hlm : (l.map encAc).length = l.length := List.length_map ..
  refine fn_sound (mt := mts) tab_fits tab_mixed Try.func109 (by rfl) (by kernel_rfl) (by kernel_rfl) Try.results109 (Nat.le_of_ble_eq_true (by kernel_rfl)) ?_
  conv => whnf
  refine loop_count (l.length) [] [1, 5, 14, 15, 16] (fun k (_ : Unit) => ⟨[(1, .c (.fn 112 [.ptr 0 0, .ptr 1 0, .ptr 2 0, .ptr 3 0, .ptr 4 0, .ptr 5 0])), (5, .c (.ptr 6 0)), (14, .c (.lst 6 (l.map encAc))), (15, .c (.int .i64 (l.map encAc).length)), (16, .c (.int .i64 k))], [(0, .box [.lst 6 (l.map encAc)]), (1, .box (encW w)), (2, .box [.bool (lowAt l kind w k).begun]), (3, .box [.int .i64 (lowAt l kind w k).now]), (4, .box [.int .i64 (lowAt l kind w k).least]), (5, .box [.str kind]), (6, .box [.mp 7, .mp 8]), (7, stoD (stoAt l k)), (8, stoK (stoAt l k))], 9⟩) (fun k (_ : Unit) => True) (()) ?_ ?_ ?_
  · conv => whnf
    exact ⟨rfl, trivial⟩
  · intro k _ hk _
    have hg : l.getD k acD = l[k] := by simp [hk]
    have hs1 : stoAt l (k + 1) = (takeS (stoAt l k) l[k]).1 := by rw [stoAt, hg]
    have hb1 := hb (k + 1) (by omega)
    have ho1 := stoAt_ok l (k + 1)
    rw [hs1] at hb1 ho1
    conv => whnf
    repeat' (first
      | (refine Split.mk (fun h => ?_) (fun h => ?_) <;> (try simp only [decide_eq_true_eq, decide_eq_false_iff_not, Bool.not_eq_true', Bool.not_eq_false', beq_iff_eq, beq_eq_false_iff_ne, bne_iff_ne, bne_eq_false_iff_eq] at h) <;> (first | (exfalso; first | omega | exact h trivial) | (conv => whnf)))
      | (refine CondG.mk (fun h => ?_) (fun h => ?_) <;> (try simp only [decide_eq_true_eq, decide_eq_false_iff_not, Bool.not_eq_true', Bool.not_eq_false', beq_iff_eq, beq_eq_false_iff_ne, bne_iff_ne, bne_eq_false_iff_eq] at h) <;> (first | (exfalso; first | omega | exact h trivial) | (conv => whnf)))
      | (refine CallX.mk _ _ (by first | exact take_pc (stoAt l k) (stoAt_ok l k) l[k] | exact low1_pc _ ho1 hb1 l hl kind w k hk _ _ (lowAt l kind w k)) ?_; conv => whnf)
      | (refine CallG.mk _ _ (by first | exact take_pc (stoAt l k) (stoAt_ok l k) l[k] | exact low1_pc _ ho1 hb1 l hl kind w k hk _ _ (lowAt l kind w k)) ?_; conv => whnf)
      | (refine Ask.mk (by first | omega | (unfold roomOK; simp [cutRows]; done) | (unfold roomOK; simp [cutRows]; omega)) ?_; conv => whnf)
      | (refine SliceG.fr ?_; conv => whnf)
      | (refine idx_at _ (by with_reducible rfl) (by first | assumption | omega) ?_; conv => whnf)
      | fail)
    refine count_next () hk (by rw [wrap_succ hk (by omega)]; simp only [lowAt, hs1, hg]; rfl) trivial
  · intro _ _
    conv => whnf
    repeat' (first
      | (refine Split.mk (fun h => ?_) (fun h => ?_) <;> (try simp only [decide_eq_true_eq, decide_eq_false_iff_not, Bool.not_eq_true', Bool.not_eq_false', beq_iff_eq, beq_eq_false_iff_ne] at h) <;> (first | (exfalso; first | omega | exact h trivial) | (conv => whnf)))
      | (refine CondG.mk (fun h => ?_) (fun h => ?_) <;> (try simp only [decide_eq_true_eq, decide_eq_false_iff_not, Bool.not_eq_true', Bool.not_eq_false', beq_iff_eq, beq_eq_false_iff_ne] at h) <;> (first | (exfalso; first | omega | exact h trivial) | (conv => whnf)))
      | (refine Ask.mk (by first | omega | (unfold roomOK; simp [cutRows]; done) | (unfold roomOK; simp [cutRows]; omega)) ?_; conv => whnf)
      | (refine SliceG.fr ?_; conv => whnf)
      | fail)
    exact .mk ⟨rfl, rfl⟩
def lowErr (l : List Ac) (kind : ByteArray) (w : Wi) : Int := if winErr l kind w = 0 ∧ w.1 = w.2 then 1 else winErr l kind w
def lowRes (l : List Ac) (kind : ByteArray) (w : Wi) : Int := if (lowAt l kind w l.length).begun then (lowAt l kind w l.length).least else (lowAt l kind w l.length).now
def lowV (l : List Ac) (kind : ByteArray) (w : Wi) : Int := if lowErr l kind w = 0 then lowRes l kind w else 0
set_option maxRecDepth 100000 in
set_option maxHeartbeats 4000000 in
theorem dLowest_pc (l : List Ac) (kind : ByteArray) (w : Wi) (hl : l.length ≤ 1000000) (hb : winErr l kind w = 0 → ∀ k, k ≤ l.length → LongOk (stoAt l k)) :
    PCp 54 [.c (.lst 6 (l.map encAc)), .c (.str kind), .agg (encW w)] [] (.tup [.c (.int .i64 (lowV l kind w)), .c (.int .i64 (lowErr l kind w))]) [] := by
  refine fn_sound (mt := mts) tab_fits tab_mixed Try.func54 (by rfl) (by kernel_rfl) (by kernel_rfl) Try.results54 (Nat.le_of_ble_eq_true (by kernel_rfl)) ?_
  conv => whnf
  repeat' (first
    | (refine Split.mk (fun h => ?_) (fun h => ?_) <;> (try simp only [decide_eq_true_eq, decide_eq_false_iff_not, Bool.not_eq_true', Bool.not_eq_false', beq_iff_eq, beq_eq_false_iff_ne, bne_iff_ne, bne_eq_false_iff_eq] at h) <;> (first | (exfalso; first | omega | exact h trivial) | (conv => whnf)))
    | (refine CondG.mk (fun h => ?_) (fun h => ?_) <;> (try simp only [decide_eq_true_eq, decide_eq_false_iff_not, Bool.not_eq_true', Bool.not_eq_false', beq_iff_eq, beq_eq_false_iff_ne, bne_iff_ne, bne_eq_false_iff_eq] at h) <;> (first | (exfalso; first | omega | exact h trivial) | (conv => whnf)))
    | (refine CallX.mk _ _ (by first | exact dWinFault_pc l kind w | exact followL_pc l hl (hb (by assumption)) kind w) ?_; conv => whnf)
    | (refine CallG.mk _ _ (by first | exact dWinFault_pc l kind w | exact followL_pc l hl (hb (by assumption)) kind w) ?_; conv => whnf)
    | (refine Ask.mk (by first | omega | (unfold roomOK; simp [cutRows]; done) | (unfold roomOK; simp [cutRows]; omega)) ?_; conv => whnf)
    | (refine SliceG.fr ?_; conv => whnf)
    | (refine idx_at _ (by with_reducible rfl) (by first | assumption | omega) ?_; conv => whnf)
    | fail)
  all_goals exact .mk ⟨by simp_all [lowV, lowErr, lowRes, oneOf], rfl⟩
end Go.Proofs.Ytmpjgbanmdgooaa

/- The document's store. -/
namespace Go.Proofs.Ytmpjgbanmdgooaa
set_option linter.unusedVariables false
set_option linter.unusedSimpArgs false
open Abs

structure Rto where
  l : SM ByteArray Int
  k : SM ByteArray ByteArray
structure Rto.ok (s : Rto) : Prop where
  l : s.l.ok
  k : s.k.ok
abbrev rtoL (s : Rto) : Ob := smO ekS evI s.l
abbrev rtoK (s : Rto) : Ob := smO ekS evK s.k
/-- the store behind an act, what was cut, the error -/
def doR (s : Rto) (x : Ac) : Rto × Int × Int :=
  if x.kd = 1 then
    if (s.k.get x.drum).isSome then (s, 0, 6) else (⟨s.l.put x.drum x.long, s.k.put x.drum x.ty⟩, 0, 0)
  else if x.kd = 2 then
    if (s.l.get x.drum).getD 0 = 0 then (s, 0, 8)
    else if (s.l.get x.drum).getD 0 < x.long then (s, 0, 12)
    else (⟨s.l.put x.drum (IntKind.i64.wrap ((s.l.get x.drum).getD 0 - x.long)), s.k⟩, x.long, 0)
  else if x.kd = 3 then
    if (s.k.get x.drum).isSome then (s, 0, 6)
    else if (s.k.get x.of).isSome then (⟨s.l.put x.drum x.long, s.k.put x.drum ((s.k.get x.of).getD bE)⟩, IntKind.i64.wrap (0 - x.long), 0)
    else (s, 0, 8)
  else if (s.l.get x.drum).getD 0 = 0 then (s, 0, 8)
  else (⟨s.l.put x.drum 0, s.k⟩, 0, 0)
set_option maxRecDepth 100000 in
set_option maxHeartbeats 4000000 in
theorem do_no (s : Rto) (hs : s.ok) (x : Ac) (cs : List Int) (hc : cs.length ≤ 1000000) (he : (doR s x).2.2 ≠ 0) :
    PCp 115 [.c (.ptr 0 0), .agg (encAc x)] [.box [.mp 1, .mp 2, .row 3], rtoL s, rtoK s, .row 3 1 (cs.map encI)] (.c (.int .i64 (doR s x).2.2)) [.box [.mp 1, .mp 2, .row 3], rtoL s, rtoK s, .row 3 1 (cs.map encI)] := by
  have hcm : (cs.map encI).length = cs.length := List.length_map ..
  refine fn_sound (mt := mts) tab_fits tab_mixed Try.func115 (by rfl) (by kernel_rfl) (by kernel_rfl) Try.results115 (Nat.le_of_ble_eq_true (by kernel_rfl)) ?_
  conv => whnf
  repeat' (first
    | (refine Split.mk (fun h => ?_) (fun h => ?_) <;> (try simp only [decide_eq_true_eq, decide_eq_false_iff_not, Bool.not_eq_true', Bool.not_eq_false', beq_iff_eq, beq_eq_false_iff_ne, bne_iff_ne, bne_eq_false_iff_eq] at h) <;> (first | (exfalso; first | omega | exact h trivial) | (conv => whnf)))
    | (refine CondG.mk (fun h => ?_) (fun h => ?_) <;> (try simp only [decide_eq_true_eq, decide_eq_false_iff_not, Bool.not_eq_true', Bool.not_eq_false', beq_iff_eq, beq_eq_false_iff_ne, bne_iff_ne, bne_eq_false_iff_eq] at h) <;> (first | (exfalso; first | omega | exact h trivial) | (conv => whnf)))
    | (refine Ask.mk (by first | omega | (unfold roomOK; simp [cutRows]; done) | (unfold roomOK; simp [cutRows]; omega)) ?_; conv => whnf)
    | (refine SliceG.fr ?_; conv => whnf)
    | (refine idx_at _ (by with_reducible rfl) (by first | assumption | omega) ?_; conv => whnf)
    | ((with_reducible refine sm_look (ek := ekS) (ev := evK) keyStr s.k _ bE ?_ ?_); exact rfl; conv => whnf)
    | ((with_reducible refine sm_look (ek := ekS) (ev := evI) keyStr s.l x.drum 0 ?_ ?_); exact rfl; conv => whnf)
    | fail)
  all_goals first
    | (exfalso; apply he; unfold doR; (repeat' split) <;> first | rfl | (exfalso; first | omega | (simp_all; done) | (simp_all; omega)))
    | (have hT : (doR s x).2.2 = 6 := by (unfold doR; (repeat' split) <;> first | rfl | (exfalso; first | omega | (simp_all; done) | (simp_all; omega)))
       rw [hT]; exact .mk ⟨rfl, rfl⟩)
    | (have hT : (doR s x).2.2 = 8 := by (unfold doR; (repeat' split) <;> first | rfl | (exfalso; first | omega | (simp_all; done) | (simp_all; omega)))
       rw [hT]; exact .mk ⟨rfl, rfl⟩)
    | (have hT : (doR s x).2.2 = 12 := by (unfold doR; (repeat' split) <;> first | rfl | (exfalso; first | omega | (simp_all; done) | (simp_all; omega)))
       rw [hT]; exact .mk ⟨rfl, rfl⟩)
set_option maxRecDepth 100000 in
set_option maxHeartbeats 4000000 in
theorem do_yes (s : Rto) (hs : s.ok) (x : Ac) (cs : List Int) (hc : cs.length ≤ 1000000) (he : (doR s x).2.2 = 0) :
    PCp 115 [.c (.ptr 0 0), .agg (encAc x)] [.box [.mp 1, .mp 2, .row 3], rtoL s, rtoK s, .row 3 1 (cs.map encI)] (.c (.int .i64 0)) [.box [.mp 1, .mp 2, .row 4], rtoL (doR s x).1, rtoK (doR s x).1, .dead, .row 3 1 ((cs ++ [(doR s x).2.1]).map encI)] := by
  have hcm : (cs.map encI).length = cs.length := List.length_map ..
  refine fn_sound (mt := mts) tab_fits tab_mixed Try.func115 (by rfl) (by kernel_rfl) (by kernel_rfl) Try.results115 (Nat.le_of_ble_eq_true (by kernel_rfl)) ?_
  conv => whnf
  repeat' (first
    | (refine Split.mk (fun h => ?_) (fun h => ?_) <;> (try simp only [decide_eq_true_eq, decide_eq_false_iff_not, Bool.not_eq_true', Bool.not_eq_false', beq_iff_eq, beq_eq_false_iff_ne, bne_iff_ne, bne_eq_false_iff_eq] at h) <;> (first | (exfalso; first | omega | exact h trivial) | (conv => whnf)))
    | (refine CondG.mk (fun h => ?_) (fun h => ?_) <;> (try simp only [decide_eq_true_eq, decide_eq_false_iff_not, Bool.not_eq_true', Bool.not_eq_false', beq_iff_eq, beq_eq_false_iff_ne, bne_iff_ne, bne_eq_false_iff_eq] at h) <;> (first | (exfalso; first | omega | exact h trivial) | (conv => whnf)))
    | (refine Ask.mk (by first | omega | (unfold roomOK; simp [cutRows]; done) | (unfold roomOK; simp [cutRows]; omega)) ?_; conv => whnf)
    | (refine SliceG.fr ?_; conv => whnf)
    | (refine idx_at _ (by with_reducible rfl) (by first | assumption | omega) ?_; conv => whnf)
    | ((with_reducible refine sm_look (ek := ekS) (ev := evK) keyStr s.k _ bE ?_ ?_); exact rfl; conv => whnf)
    | ((with_reducible refine sm_look (ek := ekS) (ev := evI) keyStr s.l x.drum 0 ?_ ?_); exact rfl; conv => whnf)
    | ((with_reducible refine sm_entry (ek := ekS) (ev := evI) keyStr s.l x.drum 0 ?_ ?_); exact rfl; conv => whnf)
    | ((with_reducible refine sm_entry (ek := ekS) (ev := evK) keyStr s.k x.drum bE ?_ ?_); exact rfl; conv => whnf)
    | ((with_reducible refine sm_stamp (ek := ekS) (ev := evI) hs.l x.drum _ _ ?_ ?_); exact rfl; conv => whnf)
    | ((with_reducible refine sm_stamp (ek := ekS) (ev := evK) hs.k x.drum _ _ ?_ ?_); exact rfl; conv => whnf)
    | ((with_reducible refine sm_upd (ek := ekS) (ev := evI) keyStr s.l x.drum _ ?_); conv => whnf)
    | fail)
  all_goals first
    | (exfalso; refine absurd he ?_; unfold doR; (repeat' split) <;> first | (simp; done) | (exfalso; first | omega | (simp_all; done) | (simp_all; omega)))
    | (have hT : doR s x = (⟨s.l.put x.drum x.long, s.k.put x.drum x.ty⟩, 0, 0) := by (unfold doR; (repeat' split) <;> first | rfl | (exfalso; first | omega | (simp_all; done) | (simp_all; omega)))
       rw [hT, List.map_append]; exact .mk ⟨rfl, rfl⟩)
    | (have hT : doR s x = (⟨s.l.put x.drum (IntKind.i64.wrap ((s.l.get x.drum).getD 0 - x.long)), s.k⟩, x.long, 0) := by (unfold doR; (repeat' split) <;> first | rfl | (exfalso; first | omega | (simp_all; done) | (simp_all; omega)))
       rw [hT, List.map_append]; exact .mk ⟨rfl, rfl⟩)
    | (have hT : doR s x = (⟨s.l.put x.drum x.long, s.k.put x.drum ((s.k.get x.of).getD bE)⟩, IntKind.i64.wrap (0 - x.long), 0) := by (unfold doR; (repeat' split) <;> first | rfl | (exfalso; first | omega | (simp_all; done) | (simp_all; omega)))
       rw [hT, List.map_append]; exact .mk ⟨rfl, rfl⟩)
    | (have hT : doR s x = (⟨s.l.put x.drum 0, s.k⟩, 0, 0) := by (unfold doR; (repeat' split) <;> first | rfl | (exfalso; first | omega | (simp_all; done) | (simp_all; omega)))
       rw [hT, List.map_append]; exact .mk ⟨rfl, rfl⟩)
end Go.Proofs.Ytmpjgbanmdgooaa

/- What was used, by the document. -/
namespace Go.Proofs.Ytmpjgbanmdgooaa
set_option linter.unusedVariables false
set_option linter.unusedSimpArgs false
open Abs

def rtoNil : Rto := ⟨SM.nil, SM.nil⟩
def rtoAt (l : List Ac) : Nat → Rto
  | 0 => rtoNil
  | k + 1 => (doR (rtoAt l k) (l.getD k acD)).1
theorem doR_ok {s : Rto} (hs : s.ok) (x : Ac) : (doR s x).1.ok := by
  unfold doR
  repeat' split
  all_goals first
    | exact hs
    | exact ⟨hs.l.put _ _, hs.k.put _ _⟩
    | exact ⟨hs.l.put _ _, hs.k⟩
theorem rtoAt_ok (l : List Ac) : ∀ k, (rtoAt l k).ok
  | 0 => ⟨SM.ok_nil, SM.ok_nil⟩
  | k + 1 => doR_ok (rtoAt_ok l k) _
theorem doR_no {s : Rto} {x : Ac} (h : (doR s x).2.2 ≠ 0) : (doR s x).1 = s := by
  revert h
  unfold doR
  (repeat' split) <;> simp
def cutsR (l : List Ac) : Nat → List Int
  | 0 => []
  | k + 1 => if (doR (rtoAt l k) (l.getD k acD)).2.2 = 0 then cutsR l k ++ [(doR (rtoAt l k) (l.getD k acD)).2.1] else cutsR l k
theorem cutsR_len (l : List Ac) : ∀ k, (cutsR l k).length ≤ k
  | 0 => Nat.le_refl _
  | k + 1 => by
    have := cutsR_len l k
    unfold cutsR
    split
    · simp; omega
    · omega
def usedR (l : List Ac) (kind : ByteArray) (w : Wi) : Nat → Int
  | 0 => 0
  | k + 1 => if (doR (rtoAt l k) (l.getD k acD)).2.2 = 0 ∧ ((rtoAt l (k + 1)).k.get (l.getD k acD).drum).getD bE = kind ∧ w.1 ≤ (l.getD k acD).mo ∧ (l.getD k acD).mo < w.2 then IntKind.i64.wrap (usedR l kind w k + (doR (rtoAt l k) (l.getD k acD)).2.1) else usedR l kind w k
set_option maxRecDepth 100000 in
set_option maxHeartbeats 4000000 in
theorem usedOf_pc (l : List Ac) (hl : l.length ≤ 100000) (kind : ByteArray) (w : Wi) :
    PCp 58 [.c (.lst 6 (l.map encAc)), .c (.str kind), .agg (encW w)] [] (.c (.int .i64 (usedR l kind w l.length))) [] := by
  have hlm : (l.map encAc).length = l.length := List.length_map ..
  refine fn_sound (mt := mts) tab_fits tab_mixed Try.func58 (by rfl) (by kernel_rfl) (by kernel_rfl) Try.results58 (Nat.le_of_ble_eq_true (by kernel_rfl)) ?_
  conv => whnf
  refine loop_count (l.length) [.bx 7 2 3 1] [1, 5, 7, 8, 15, 16, 17] (fun k (_ : Unit) => ⟨[(1, .c (.str kind)), (5, .c (.ptr 0 0)), (7, .c (.ptr 1 0)), (8, .c (.int .i64 (usedR l kind w k))), (15, .c (.lst 6 (l.map encAc))), (16, .c (.int .i64 (l.map encAc).length)), (17, .c (.int .i64 k))], [(0, .box (encW w)), (1, .box [.mp 2, .mp 3, .row 4]), (2, rtoL (rtoAt l k)), (3, rtoK (rtoAt l k)), (4, .row 3 1 ((cutsR l k).map encI))], 5⟩) (fun k (_ : Unit) => True) (()) ?_ ?_ ?_
  · conv => whnf
    exact ⟨rfl, trivial⟩
  · intro k _ hk _
    have hg : l.getD k acD = l[k] := by simp [hk]
    have hcl := cutsR_len l k
    have hr1 : rtoAt l (k + 1) = (doR (rtoAt l k) l[k]).1 := by rw [rtoAt, hg]
    conv => whnf
    by_cases he : (doR (rtoAt l k) l[k]).2.2 = 0
    · have hc1 : cutsR l (k + 1) = cutsR l k ++ [(doR (rtoAt l k) l[k]).2.1] := by rw [cutsR, hg, if_pos he]
      have hcm : ((cutsR l k ++ [(doR (rtoAt l k) l[k]).2.1]).map encI).length = (cutsR l k).length + 1 := by simp
      have hwl : IntKind.i64.wrap ((((cutsR l k ++ [(doR (rtoAt l k) l[k]).2.1]).map encI).length : Nat) - 1 : Int) = (((cutsR l k).length : Nat) : Int) := by rw [hcm, wrap_in (by omega) (by omega)]; omega
      repeat' (first
        | (refine Split.mk (fun h => ?_) (fun h => ?_) <;> (try simp only [decide_eq_true_eq, decide_eq_false_iff_not, Bool.not_eq_true', Bool.not_eq_false', beq_iff_eq, beq_eq_false_iff_ne, bne_iff_ne, bne_eq_false_iff_eq] at h) <;> (first | (exfalso; first | omega | exact h trivial) | (conv => whnf)))
        | (refine CondG.mk (fun h => ?_) (fun h => ?_) <;> (try simp only [decide_eq_true_eq, decide_eq_false_iff_not, Bool.not_eq_true', Bool.not_eq_false', beq_iff_eq, beq_eq_false_iff_ne, bne_iff_ne, bne_eq_false_iff_eq] at h) <;> (first | (exfalso; first | omega | exact h trivial) | (conv => whnf)))
        | (refine CallX.mk _ _ (by first | exact do_yes (rtoAt l k) (rtoAt_ok l k) l[k] (cutsR l k) (by omega) he) ?_; conv => whnf)
        | (refine CallG.mk _ _ (by first | exact do_yes (rtoAt l k) (rtoAt_ok l k) l[k] (cutsR l k) (by omega) he) ?_; conv => whnf)
        | (refine Ask.mk (by first | omega | (unfold roomOK; simp [cutRows]; done) | (unfold roomOK; simp [cutRows]; omega)) ?_; conv => whnf)
        | (refine SliceG.fr ?_; conv => whnf)
        | (refine idx_at _ (by with_reducible rfl) (by first | assumption | omega) ?_; conv => whnf)
        | ((with_reducible refine sm_look (ek := ekS) (ev := evK) keyStr (doR (rtoAt l k) l[k]).1.k l[k].drum bE ?_ ?_); exact rfl; conv => whnf)
        | fail)
      · have hu : usedR l kind w (k + 1) = IntKind.i64.wrap (usedR l kind w k + (doR (rtoAt l k) l[k]).2.1) := by rw [usedR, hg, hr1, if_pos ⟨he, by simp_all [strEq], by assumption, by assumption⟩]
        refine row_at (cutsR l k).length (by rw [hwl]; exact toN) (by simp) ?_
        conv => whnf
        refine count_next () hk (by rw [wrap_succ hk (by omega), hc1, hr1, hu]; simp only [List.getElem_concat_length]; rfl) trivial
      all_goals have hu : usedR l kind w (k + 1) = usedR l kind w k := by (rw [usedR, hg, hr1, if_neg]; (try simp only [strEq] at *); intro hh; first | omega | (simp_all; done) | (simp_all; omega))
      all_goals exact count_next () hk (by rw [wrap_succ hk (by omega), hc1, hr1, hu]; rfl) trivial
    · have hc1 : cutsR l (k + 1) = cutsR l k := by rw [cutsR, hg, if_neg he]
      have hr2 : rtoAt l (k + 1) = rtoAt l k := by rw [hr1, doR_no he]
      have hu : usedR l kind w (k + 1) = usedR l kind w k := by rw [usedR, hg, if_neg (fun h => he h.1)]
      repeat' (first
        | (refine Split.mk (fun h => ?_) (fun h => ?_) <;> (try simp only [decide_eq_true_eq, decide_eq_false_iff_not, Bool.not_eq_true', Bool.not_eq_false', beq_iff_eq, beq_eq_false_iff_ne, bne_iff_ne, bne_eq_false_iff_eq] at h) <;> (first | (exfalso; first | omega | exact h trivial) | (conv => whnf)))
        | (refine CondG.mk (fun h => ?_) (fun h => ?_) <;> (try simp only [decide_eq_true_eq, decide_eq_false_iff_not, Bool.not_eq_true', Bool.not_eq_false', beq_iff_eq, beq_eq_false_iff_ne, bne_iff_ne, bne_eq_false_iff_eq] at h) <;> (first | (exfalso; first | omega | exact h trivial) | (conv => whnf)))
        | (refine CallX.mk _ _ (by first | exact do_no (rtoAt l k) (rtoAt_ok l k) l[k] (cutsR l k) (by omega) he) ?_; conv => whnf)
        | (refine CallG.mk _ _ (by first | exact do_no (rtoAt l k) (rtoAt_ok l k) l[k] (cutsR l k) (by omega) he) ?_; conv => whnf)
        | (refine Ask.mk (by first | omega | (unfold roomOK; simp [cutRows]; done) | (unfold roomOK; simp [cutRows]; omega)) ?_; conv => whnf)
        | (refine SliceG.fr ?_; conv => whnf)
        | (refine idx_at _ (by with_reducible rfl) (by first | assumption | omega) ?_; conv => whnf)
        | fail)
      refine count_next () hk (by rw [wrap_succ hk (by omega), hc1, hr2, hu]; rfl) trivial
  · intro _ _
    conv => whnf
    repeat' (first
      | (refine Split.mk (fun h => ?_) (fun h => ?_) <;> (try simp only [decide_eq_true_eq, decide_eq_false_iff_not, Bool.not_eq_true', Bool.not_eq_false', beq_iff_eq, beq_eq_false_iff_ne] at h) <;> (first | (exfalso; first | omega | exact h trivial) | (conv => whnf)))
      | (refine CondG.mk (fun h => ?_) (fun h => ?_) <;> (try simp only [decide_eq_true_eq, decide_eq_false_iff_not, Bool.not_eq_true', Bool.not_eq_false', beq_iff_eq, beq_eq_false_iff_ne] at h) <;> (first | (exfalso; first | omega | exact h trivial) | (conv => whnf)))
      | (refine Ask.mk (by first | omega | (unfold roomOK; simp [cutRows]; done) | (unfold roomOK; simp [cutRows]; omega)) ?_; conv => whnf)
      | (refine SliceG.fr ?_; conv => whnf)
      | fail)
    exact fini rfl
end Go.Proofs.Ytmpjgbanmdgooaa

/- Stock at a moment, by the document. -/
namespace Go.Proofs.Ytmpjgbanmdgooaa
set_option linter.unusedVariables false
set_option linter.unusedSimpArgs false
open Abs

def cntAt (l : List Ac) (t : Int) : Nat := (l.takeWhile fun x => decide (x.mo ≤ t)).length
theorem cntAt_le (l : List Ac) (t : Int) : cntAt l t ≤ l.length := (List.takeWhile_prefix _).length_le
theorem cntAt_in {l : List Ac} {t : Int} {k : Nat} (h : k < cntAt l t) : (l[k]'(by have := cntAt_le l t; omega)).mo ≤ t := by
  have key : ∀ (l : List Ac) (k : Nat) (hk : k < l.length), k < (l.takeWhile fun x => decide (x.mo ≤ t)).length → l[k].mo ≤ t := by
    intro l
    induction l with
    | nil => intro k hk; simp at hk
    | cons a r ih =>
      intro k hk h
      by_cases ha : a.mo ≤ t
      · simp only [List.takeWhile_cons, ha, decide_true, if_true, List.length_cons] at h
        cases k with
        | zero => simpa using ha
        | succ k => simpa using ih k (by simpa using hk) (by omega)
      · simp [List.takeWhile_cons, ha] at h
  exact key l k _ h
theorem cntAt_out {l : List Ac} {t : Int} (h : cntAt l t < l.length) : t < (l[cntAt l t]).mo := by
  unfold cntAt at h ⊢
  induction l with
  | nil => simp at h
  | cons a r ih =>
    by_cases ha : a.mo ≤ t
    · simp only [List.takeWhile_cons, ha, decide_true, if_true, List.length_cons] at h ⊢
      simpa using ih (by simpa using h)
    · simp only [List.takeWhile_cons, ha, decide_false, Bool.false_eq_true, if_false, List.length_nil] at h ⊢
      simp; omega
def refR (l : List Ac) : Nat → List Int
  | 0 => []
  | k + 1 => if (doR (rtoAt l k) (l.getD k acD)).2.2 = 0 then refR l k else refR l k ++ [(k : Int)]
def whyR (l : List Ac) : Nat → List Int
  | 0 => []
  | k + 1 => if (doR (rtoAt l k) (l.getD k acD)).2.2 = 0 then whyR l k else whyR l k ++ [(doR (rtoAt l k) (l.getD k acD)).2.2]
theorem refR_len (l : List Ac) : ∀ k, (refR l k).length ≤ k ∧ (whyR l k).length ≤ k
  | 0 => ⟨Nat.le_refl _, Nat.le_refl _⟩
  | k + 1 => by
    have := refR_len l k
    unfold refR whyR
    split
    · omega
    · simp; omega
set_option maxRecDepth 100000 in
set_option maxHeartbeats 4000000 in
theorem stored_pcR (l : List Ac) (hl : l.length ≤ 100000) (t : Int) :
    PCp 148 [.c (.lst 6 (l.map encAc)), .c (.int .i64 t)] [] (.tup [.c (.ptr 0 0), .c (.row 4), .c (.row 5)])
      [.box [.mp 1, .mp 2, .row 3], rtoL (rtoAt l (cntAt l t)), rtoK (rtoAt l (cntAt l t)), .row 3 1 ((cutsR l (cntAt l t)).map encI), .row 3 1 ((refR l (cntAt l t)).map encI), .row 33 1 ((whyR l (cntAt l t)).map encI)] := by
  have hlm : (l.map encAc).length = l.length := List.length_map ..
  have hcl0 := cntAt_le l t
  refine fn_sound (mt := mts) tab_fits tab_mixed Try.func148 (by rfl) (by kernel_rfl) (by kernel_rfl) Try.results148 (Nat.le_of_ble_eq_true (by kernel_rfl)) ?_
  conv => whnf
  refine loop_count (cntAt l t) [.bx 7 2 3 1, .sl 8 3 1, .sl 9 33 1] [1, 7, 8, 9, 17, 18, 19] (fun k (_ : Unit) => ⟨[(1, .c (.int .i64 t)), (7, .c (.ptr 0 0)), (8, .c (.row 4)), (9, .c (.row 5)), (17, .c (.lst 6 (l.map encAc))), (18, .c (.int .i64 (l.map encAc).length)), (19, .c (.int .i64 k))], [(0, .box [.mp 1, .mp 2, .row 3]), (1, rtoL (rtoAt l k)), (2, rtoK (rtoAt l k)), (3, .row 3 1 ((cutsR l k).map encI)), (4, .row 3 1 ((refR l k).map encI)), (5, .row 33 1 ((whyR l k).map encI))], 6⟩) (fun k (_ : Unit) => True) (()) ?_ ?_ ?_
  · conv => whnf
    exact ⟨rfl, trivial⟩
  · intro k _ hk _
    have hk2 : k < l.length := by omega
    have hin := cntAt_in hk
    have hg : l.getD k acD = l[k] := by simp [hk2]
    have hcl := cutsR_len l k
    have hrl := refR_len l k
    have hr1 : rtoAt l (k + 1) = (doR (rtoAt l k) l[k]).1 := by rw [rtoAt, hg]
    have hrm : ((refR l k).map encI).length = (refR l k).length := List.length_map ..
    have hwm : ((whyR l k).map encI).length = (whyR l k).length := List.length_map ..
    conv => whnf
    by_cases he : (doR (rtoAt l k) l[k]).2.2 = 0
    · have hc1 : cutsR l (k + 1) = cutsR l k ++ [(doR (rtoAt l k) l[k]).2.1] := by rw [cutsR, hg, if_pos he]
      have hc2 : refR l (k + 1) = refR l k := by rw [refR, hg, if_pos he]
      have hc3 : whyR l (k + 1) = whyR l k := by rw [whyR, hg, if_pos he]
      repeat' (first
        | (refine Split.mk (fun h => ?_) (fun h => ?_) <;> (try simp only [decide_eq_true_eq, decide_eq_false_iff_not, Bool.not_eq_true', Bool.not_eq_false', beq_iff_eq, beq_eq_false_iff_ne, bne_iff_ne, bne_eq_false_iff_eq] at h) <;> (first | (exfalso; first | omega | exact h trivial) | (conv => whnf)))
        | (refine CondG.mk (fun h => ?_) (fun h => ?_) <;> (try simp only [decide_eq_true_eq, decide_eq_false_iff_not, Bool.not_eq_true', Bool.not_eq_false', beq_iff_eq, beq_eq_false_iff_ne, bne_iff_ne, bne_eq_false_iff_eq] at h) <;> (first | (exfalso; first | omega | exact h trivial) | (conv => whnf)))
        | (refine CallX.mk _ _ (by first | exact do_yes (rtoAt l k) (rtoAt_ok l k) l[k] (cutsR l k) (by omega) he) ?_; conv => whnf)
        | (refine CallG.mk _ _ (by first | exact do_yes (rtoAt l k) (rtoAt_ok l k) l[k] (cutsR l k) (by omega) he) ?_; conv => whnf)
        | (refine Ask.mk (by first | omega | (unfold roomOK; simp [cutRows]; done) | (unfold roomOK; simp [cutRows]; omega)) ?_; conv => whnf)
        | (refine SliceG.fr ?_; conv => whnf)
        | (refine idx_at _ (by with_reducible rfl) (by first | assumption | omega) ?_; conv => whnf)
        | fail)
      refine count_next () hk (by rw [wrap_succ hk2 (by omega), hc1, hc2, hc3, hr1]; rfl) trivial
    · have hc1 : cutsR l (k + 1) = cutsR l k := by rw [cutsR, hg, if_neg he]
      have hc2 : refR l (k + 1) = refR l k ++ [(k : Int)] := by rw [refR, hg, if_neg he]
      have hc3 : whyR l (k + 1) = whyR l k ++ [(doR (rtoAt l k) l[k]).2.2] := by rw [whyR, hg, if_neg he]
      have hr2 : rtoAt l (k + 1) = rtoAt l k := by rw [hr1, doR_no he]
      repeat' (first
        | (refine Split.mk (fun h => ?_) (fun h => ?_) <;> (try simp only [decide_eq_true_eq, decide_eq_false_iff_not, Bool.not_eq_true', Bool.not_eq_false', beq_iff_eq, beq_eq_false_iff_ne, bne_iff_ne, bne_eq_false_iff_eq] at h) <;> (first | (exfalso; first | omega | exact h trivial) | (conv => whnf)))
        | (refine CondG.mk (fun h => ?_) (fun h => ?_) <;> (try simp only [decide_eq_true_eq, decide_eq_false_iff_not, Bool.not_eq_true', Bool.not_eq_false', beq_iff_eq, beq_eq_false_iff_ne, bne_iff_ne, bne_eq_false_iff_eq] at h) <;> (first | (exfalso; first | omega | exact h trivial) | (conv => whnf)))
        | (refine CallX.mk _ _ (by first | exact do_no (rtoAt l k) (rtoAt_ok l k) l[k] (cutsR l k) (by omega) he) ?_; conv => whnf)
        | (refine CallG.mk _ _ (by first | exact do_no (rtoAt l k) (rtoAt_ok l k) l[k] (cutsR l k) (by omega) he) ?_; conv => whnf)
        | (refine Ask.mk (by first | omega | (unfold roomOK; simp [cutRows]; done) | (unfold roomOK; simp [cutRows]; omega)) ?_; conv => whnf)
        | (refine SliceG.fr ?_; conv => whnf)
        | (refine idx_at _ (by with_reducible rfl) (by first | assumption | omega) ?_; conv => whnf)
        | fail)
      refine count_next () hk (by rw [wrap_succ hk2 (by omega), hc1, hc2, hc3, hr2, List.map_append, List.map_append]; rfl) trivial
  · intro _ _
    conv => whnf
    refine .mk (fun h => ?_) (fun h => ?_)
    · have hlt : cntAt l t < l.length := by simpa using h
      have hout := cntAt_out hlt
      repeat' (first
        | (refine Split.mk (fun h => ?_) (fun h => ?_) <;> (try simp only [decide_eq_true_eq, decide_eq_false_iff_not, Bool.not_eq_true', Bool.not_eq_false', beq_iff_eq, beq_eq_false_iff_ne, bne_iff_ne, bne_eq_false_iff_eq] at h) <;> (first | (exfalso; first | omega | exact h trivial) | (conv => whnf)))
        | (refine CondG.mk (fun h => ?_) (fun h => ?_) <;> (try simp only [decide_eq_true_eq, decide_eq_false_iff_not, Bool.not_eq_true', Bool.not_eq_false', beq_iff_eq, beq_eq_false_iff_ne, bne_iff_ne, bne_eq_false_iff_eq] at h) <;> (first | (exfalso; first | omega | exact h trivial) | (conv => whnf)))
        | (refine Ask.mk (by first | omega | (unfold roomOK; simp [cutRows]; done) | (unfold roomOK; simp [cutRows]; omega)) ?_; conv => whnf)
        | (refine SliceG.fr ?_; conv => whnf)
        | (refine idx_at _ (by with_reducible rfl) (by first | assumption | omega) ?_; conv => whnf)
        | fail)
      exact .mk ⟨rfl, rfl⟩
    · conv => whnf
      exact .mk ⟨rfl, rfl⟩
end Go.Proofs.Ytmpjgbanmdgooaa

/- Stock at a moment, by the document: the list. -/
namespace Go.Proofs.Ytmpjgbanmdgooaa
set_option linter.unusedVariables false
set_option linter.unusedSimpArgs false
open Abs

abbrev LE := Nat × ByteArray × Int
def stE (s : Rto) (e : LE) : Pc := ⟨e.2.1, (s.k.get e.2.1).getD bE, e.2.2⟩
def stL (s : Rto) (es : List LE) : List Pc := (es.filter fun e => decide (0 < e.2.2)).map (stE s)
theorem stL_perm (s : Rto) {a b : List LE} (h : a.Perm b) : (stL s a).Perm (stL s b) := (h.filter _).map _
theorem stL_len (s : Rto) (es : List LE) : (stL s es).length ≤ es.length := by
  unfold stL; rw [List.length_map]; exact List.length_filter_le _ _
def keyC (a b : Pc) : Int := cmpS a.key b.key
set_option maxRecDepth 100000 in
set_option maxHeartbeats 4000000 in
theorem stock1_pc (a b : Pc) : PCp 149 [.agg (encPc a), .agg (encPc b)] [] (.c (.int .i64 (keyC a b))) [] := by
  refine fn_sound (mt := mts) tab_fits tab_mixed Try.func149 (by rfl) (by kernel_rfl) (by kernel_rfl) Try.results149 (Nat.le_of_ble_eq_true (by kernel_rfl)) ?_
  conv => whnf
  repeat' (first
    | (refine Split.mk (fun h => ?_) (fun h => ?_) <;> (try simp only [decide_eq_true_eq, decide_eq_false_iff_not, Bool.not_eq_true', Bool.not_eq_false', beq_iff_eq, beq_eq_false_iff_ne] at h) <;> (first | (exfalso; first | omega | exact h trivial) | (conv => whnf)))
    | (refine CondG.mk (fun h => ?_) (fun h => ?_) <;> (try simp only [decide_eq_true_eq, decide_eq_false_iff_not, Bool.not_eq_true', Bool.not_eq_false', beq_iff_eq, beq_eq_false_iff_ne] at h) <;> (first | (exfalso; first | omega | exact h trivial) | (conv => whnf)))
    | (refine CallX.mk _ _ (by first | exact sCompare_pc _ _) ?_; conv => whnf)
    | (refine CallG.mk _ _ (by first | exact sCompare_pc _ _) ?_; conv => whnf)
    | (refine Ask.mk (by first | omega | (unfold roomOK; simp [cutRows]; done) | (unfold roomOK; simp [cutRows]; omega)) ?_; conv => whnf)
    | (refine SliceG.fr ?_; conv => whnf)
    | fail)
  exact fini rfl
set_option maxRecDepth 100000 in
set_option maxHeartbeats 4000000 in
theorem stockOf_pc (l : List Ac) (hl : l.length ≤ 100000) (t : Int) (h12 : (rtoAt l (cntAt l t)).l.es.length ≤ 12) :
    PCq 117 [.c (.lst 6 (l.map encAc)), .c (.int .i64 t)] [] fun r os => ∃ ds : List Pc, r = .c (.row 0) ∧ os = [.row 127 3 (ds.map encPc)] ∧ ds.Perm (stL (rtoAt l (cntAt l t)) (rtoAt l (cntAt l t)).l.es) := by
  have hok := rtoAt_ok l (cntAt l t)
  generalize hs : rtoAt l (cntAt l t) = s at h12 hok
  have hst := stored_pcR l hl t
  rw [hs] at hst
  refine fn_soundX (mt := mts) tab_fits tab_mixed Try.func117 (by rfl) (by kernel_rfl) (by kernel_rfl) Try.results117 (Nat.le_of_ble_eq_true (by kernel_rfl)) ?_
  conv => whnf
  repeat' (first
    | (refine Split.mk (fun h => ?_) (fun h => ?_) <;> (try simp only [decide_eq_true_eq, decide_eq_false_iff_not, Bool.not_eq_true', Bool.not_eq_false', beq_iff_eq, beq_eq_false_iff_ne] at h) <;> (first | (exfalso; first | omega | exact h trivial) | (conv => whnf)))
    | (refine CondG.mk (fun h => ?_) (fun h => ?_) <;> (try simp only [decide_eq_true_eq, decide_eq_false_iff_not, Bool.not_eq_true', Bool.not_eq_false', beq_iff_eq, beq_eq_false_iff_ne] at h) <;> (first | (exfalso; first | omega | exact h trivial) | (conv => whnf)))
    | (refine CallX.mk _ _ (by first | exact hst) ?_; conv => whnf)
    | (refine CallG.mk _ _ (by first | exact hst) ?_; conv => whnf)
    | (refine Ask.mk (by first | omega | (unfold roomOK; simp [cutRows]; done) | (unfold roomOK; simp [cutRows]; omega)) ?_; conv => whnf)
    | (refine SliceG.fr ?_; conv => whnf)
    | fail)
  refine loop_meas (fun (vis : List LE) => s.l.es.length - vis.length) [.sl 8 127 3] [5, 8, 22] (fun (vis : List LE) => ⟨[(5, .c (.ptr 0 0)), (8, .c (.row 4)), (22, .c (.ptr 5 0))], [(0, .box [.mp 1, .mp 2, .row 3]), (1, rtoL s), (2, rtoK s), (3, .row 3 1 ((cutsR l (cntAt l t)).map encI)), (4, .row 127 3 ((stL s vis.reverse).map encPc)), (5, .iter 1 s.l.clock (vis.map (·.1)))], 6⟩) (fun (vis : List LE) => Vis s.l vis) ([]) ?_ ?_
  · conv => whnf
    exact ⟨rfl, Vis.nil _⟩
  · intro vis hv
    have hvl := hv.len
    have hsl := stL_len s vis.reverse
    rw [List.length_reverse] at hsl
    have hslm : ((stL s vis.reverse).map encPc).length = (stL s vis.reverse).length := List.length_map ..
    conv => whnf
    refine .mk rfl ?_
    conv => whnf
    refine sm_next hok.l hv (fun hp => ?_) (fun e he hn hv' hlt => ?_)
    · conv => whnf
      have hpr : (stL s vis.reverse).Perm (stL s s.l.es) := stL_perm s ((List.reverse_perm vis).trans hp)
      have hpl : (stL s vis.reverse).length ≤ 12 := by omega
      repeat' (first
        | (refine Split.mk (fun h => ?_) (fun h => ?_) <;> (try simp only [decide_eq_true_eq, decide_eq_false_iff_not, Bool.not_eq_true', Bool.not_eq_false', beq_iff_eq, beq_eq_false_iff_ne] at h) <;> (first | (exfalso; first | omega | exact h trivial) | (conv => whnf)))
        | (refine CondG.mk (fun h => ?_) (fun h => ?_) <;> (try simp only [decide_eq_true_eq, decide_eq_false_iff_not, Bool.not_eq_true', Bool.not_eq_false', beq_iff_eq, beq_eq_false_iff_ne] at h) <;> (first | (exfalso; first | omega | exact h trivial) | (conv => whnf)))
        | (refine CallX.mk _ _ (by first | exact pdqPc_pc _ keyC stock1_pc (stL s vis.reverse) hpl) ?_; conv => whnf)
        | (refine CallG.mk _ _ (by first | exact pdqPc_pc _ keyC stock1_pc (stL s vis.reverse) hpl) ?_; conv => whnf)
        | (refine Ask.mk (by first | omega | (unfold roomOK; simp [cutRows]; done) | (unfold roomOK; simp [cutRows]; omega)) ?_; conv => whnf)
        | (refine SliceG.fr ?_; conv => whnf)
        | fail)
      exact .mk _ _ ⟨_, rfl, rfl, (insSort_perm ..).trans hpr⟩ (.mk ⟨rfl, rfl⟩)
    · conv => whnf
      refine .mk rfl ?_
      conv => whnf
      refine sm_at hok.l he ?_
      conv => whnf
      repeat' (first
        | (refine Split.mk (fun h => ?_) (fun h => ?_) <;> (try simp only [decide_eq_true_eq, decide_eq_false_iff_not, Bool.not_eq_true', Bool.not_eq_false', beq_iff_eq, beq_eq_false_iff_ne, bne_iff_ne, bne_eq_false_iff_eq] at h) <;> (first | (exfalso; first | omega | exact h trivial) | (conv => whnf)))
        | (refine CondG.mk (fun h => ?_) (fun h => ?_) <;> (try simp only [decide_eq_true_eq, decide_eq_false_iff_not, Bool.not_eq_true', Bool.not_eq_false', beq_iff_eq, beq_eq_false_iff_ne, bne_iff_ne, bne_eq_false_iff_eq] at h) <;> (first | (exfalso; first | omega | exact h trivial) | (conv => whnf)))
        | (refine Ask.mk (by first | omega | (unfold roomOK; simp [cutRows]; done) | (unfold roomOK; simp [cutRows]; omega)) ?_; conv => whnf)
        | (refine SliceG.fr ?_; conv => whnf)
        | (refine idx_at _ (by with_reducible rfl) (by first | assumption | omega) ?_; conv => whnf)
        | ((with_reducible refine sm_look (ek := ekS) (ev := evK) keyStr s.k e.2.1 bE ?_ ?_); exact rfl; conv => whnf)
        | fail)
      · have h1 : stL s (e :: vis).reverse = stL s vis.reverse ++ [stE s e] := by simp [stL, h]
        exact meas_next (e :: vis) (by simp only [List.length_cons]; omega) (by rw [h1, List.map_append]; rfl) hv'
      · have h1 : stL s (e :: vis).reverse = stL s vis.reverse := by simp [stL, show ¬ 0 < e.2.2 by omega]
        exact meas_next (e :: vis) (by simp only [List.length_cons]; omega) (by rw [h1]; rfl) hv'
/-- metres of a type -/
def sumP (kind : ByteArray) : List Pc → Int
  | [] => 0
  | e :: r => (if e.kind = kind then e.long else 0) + sumP kind r
theorem sumP_perm (kind : ByteArray) {l m : List Pc} (h : l.Perm m) : sumP kind l = sumP kind m := by
  induction h with
  | nil => rfl
  | cons x _ ih => simp only [sumP, ih]
  | swap x y l => simp only [sumP]; omega
  | trans _ _ h1 h2 => exact h1.trans h2
theorem sumP_in (kind : ByteArray) : ∀ (l : List Pc), (∀ e ∈ l, 0 ≤ e.long ∧ e.long ≤ 200000) → 0 ≤ sumP kind l ∧ sumP kind l ≤ 200000 * l.length
  | [], _ => by simp [sumP]
  | e :: r, h => by
    have ih := sumP_in kind r (fun e he => h e (by simp [he]))
    have := h e (by simp)
    simp only [sumP, List.length_cons]
    split <;> omega
theorem sumP_take (kind : ByteArray) (l : List Pc) (k : Nat) (h : k < l.length) : sumP kind (l.take (k + 1)) = sumP kind (l.take k) + (if l[k].kind = kind then l[k].long else 0) := by
  induction l generalizing k with
  | nil => simp at h
  | cons a r ih =>
    cases k with
    | zero => simp [sumP]
    | succ k => simp only [List.take_succ_cons, sumP, ih k (by simpa using h), List.getElem_cons_succ]; omega
def LongR (s : Rto) : Prop := (∀ e ∈ s.l.es, 0 ≤ e.2.2 ∧ e.2.2 ≤ 200000) ∧ s.l.es.length ≤ 12
def ofR (l : List Ac) (kind : ByteArray) (t : Int) : Int := sumP kind (stL (rtoAt l (cntAt l t)) (rtoAt l (cntAt l t)).l.es)
set_option maxRecDepth 100000 in
set_option maxHeartbeats 4000000 in
theorem lowOf1_pc (l : List Ac) (hl : l.length ≤ 100000) (hb : ∀ k, k ≤ l.length → LongR (rtoAt l k)) (kind : ByteArray) (t : Int) :
    PCp 116 [.c (.int .i64 t), .c (.ptr 0 0), .c (.ptr 1 0)] [.box [.lst 6 (l.map encAc)], .box [.str kind]] (.c (.int .i64 (ofR l kind t))) [.box [.lst 6 (l.map encAc)], .box [.str kind]] := by
  obtain ⟨b1, b2⟩ := hb (cntAt l t) (cntAt_le l t)
  refine fn_sound (mt := mts) tab_fits tab_mixed Try.func116 (by rfl) (by kernel_rfl) (by kernel_rfl) Try.results116 (Nat.le_of_ble_eq_true (by kernel_rfl)) ?_
  conv => whnf
  refine .ex _ (stockOf_pc l hl t b2) ?_
  rintro _ _ ⟨ds, rfl, rfl, hp⟩
  have hlen : ds.length ≤ 12 := by have := hp.length_eq; have := stL_len (rtoAt l (cntAt l t)) (rtoAt l (cntAt l t)).l.es; omega
  have hin : ∀ e ∈ ds, 0 ≤ e.long ∧ e.long ≤ 200000 := by
    intro e he
    obtain ⟨x, hx, rfl⟩ := List.mem_map.1 (hp.mem_iff.1 he)
    exact b1 x ((List.mem_filter.1 hx).1)
  have hdm : (ds.map encPc).length = ds.length := List.length_map ..
  have hsum := sumP_perm kind hp
  conv => whnf
  refine loop_count (ds.length) [] [2, 5, 10, 11, 12] (fun k (_ : Unit) => ⟨[(2, .c (.ptr 1 0)), (5, .c (.int .i64 (sumP kind (ds.take k)))), (10, .c (.row 2)), (11, .c (.int .i64 (ds.map encPc).length)), (12, .c (.int .i64 k))], [(0, .box [.lst 6 (l.map encAc)]), (1, .box [.str kind]), (2, .row 127 3 (ds.map encPc))], 3⟩) (fun k (_ : Unit) => True) (()) ?_ ?_ ?_
  · conv => whnf
    exact ⟨rfl, trivial⟩
  · intro k _ hk _
    have h1 := sumP_in kind (ds.take k) (fun e he => hin e (List.mem_of_mem_take he))
    have h2 := hin ds[k] (List.getElem_mem hk)
    have h3 : (ds.take k).length ≤ 12 := by rw [List.length_take]; omega
    have h4 := sumP_take kind ds k hk
    conv => whnf
    repeat' (first
      | (refine Split.mk (fun h => ?_) (fun h => ?_) <;> (try simp only [decide_eq_true_eq, decide_eq_false_iff_not, Bool.not_eq_true', Bool.not_eq_false', beq_iff_eq, beq_eq_false_iff_ne, bne_iff_ne, bne_eq_false_iff_eq] at h) <;> (first | (exfalso; first | omega | exact h trivial) | (conv => whnf)))
      | (refine CondG.mk (fun h => ?_) (fun h => ?_) <;> (try simp only [decide_eq_true_eq, decide_eq_false_iff_not, Bool.not_eq_true', Bool.not_eq_false', beq_iff_eq, beq_eq_false_iff_ne, bne_iff_ne, bne_eq_false_iff_eq] at h) <;> (first | (exfalso; first | omega | exact h trivial) | (conv => whnf)))
      | (refine Ask.mk (by first | omega | (unfold roomOK; simp [cutRows]; done) | (unfold roomOK; simp [cutRows]; omega)) ?_; conv => whnf)
      | (refine SliceG.fr ?_; conv => whnf)
      | (refine idx_at _ (by with_reducible rfl) (by first | assumption | omega) ?_; conv => whnf)
      | (refine row_at _ toN (by first | assumption | omega) ?_; conv => whnf)
      | fail)
    · rw [if_pos (strEq.1 h)] at h4
      exact count_next () hk (by rw [wrap_succ hk (by omega), h4, wrap_in (by omega) (by omega)]; rfl) trivial
    · rw [if_neg (fun e => h (strEq.2 e)), Int.add_zero] at h4
      exact count_next () hk (by rw [wrap_succ hk (by omega), h4]; rfl) trivial
  · intro _ _
    conv => whnf
    repeat' (first
      | (refine Split.mk (fun h => ?_) (fun h => ?_) <;> (try simp only [decide_eq_true_eq, decide_eq_false_iff_not, Bool.not_eq_true', Bool.not_eq_false', beq_iff_eq, beq_eq_false_iff_ne] at h) <;> (first | (exfalso; first | omega | exact h trivial) | (conv => whnf)))
      | (refine CondG.mk (fun h => ?_) (fun h => ?_) <;> (try simp only [decide_eq_true_eq, decide_eq_false_iff_not, Bool.not_eq_true', Bool.not_eq_false', beq_iff_eq, beq_eq_false_iff_ne] at h) <;> (first | (exfalso; first | omega | exact h trivial) | (conv => whnf)))
      | (refine Ask.mk (by first | omega | (unfold roomOK; simp [cutRows]; done) | (unfold roomOK; simp [cutRows]; omega)) ?_; conv => whnf)
      | (refine SliceG.fr ?_; conv => whnf)
      | fail)
    rw [List.take_length]
    exact .mk ⟨by rw [hsum]; rfl, rfl⟩
def minI (a b : Int) : Int := if b < a then b else a
/-- the least, by the document -/
def leastR (l : List Ac) (kind : ByteArray) (w : Wi) : Nat → Int
  | 0 => ofR l kind w.1
  | k + 1 => if w.1 < (l.getD k acD).mo ∧ (l.getD k acD).mo < w.2 then minI (leastR l kind w k) (ofR l kind (l.getD k acD).mo) else leastR l kind w k
set_option maxRecDepth 100000 in
set_option maxHeartbeats 4000000 in
theorem lowestOf_pc (l : List Ac) (hl : l.length ≤ 100000) (hb : ∀ k, k ≤ l.length → LongR (rtoAt l k)) (kind : ByteArray) (w : Wi) :
    PCp 59 [.c (.lst 6 (l.map encAc)), .c (.str kind), .agg (encW w)] [] (.c (.int .i64 (leastR l kind w l.length))) [] := by
  have hlm : (l.map encAc).length = l.length := List.length_map ..
  refine fn_sound (mt := mts) tab_fits tab_mixed Try.func59 (by rfl) (by kernel_rfl) (by kernel_rfl) Try.results59 (Nat.le_of_ble_eq_true (by kernel_rfl)) ?_
  conv => whnf
  repeat' (first
    | (refine Split.mk (fun h => ?_) (fun h => ?_) <;> (try simp only [decide_eq_true_eq, decide_eq_false_iff_not, Bool.not_eq_true', Bool.not_eq_false', beq_iff_eq, beq_eq_false_iff_ne] at h) <;> (first | (exfalso; first | omega | exact h trivial) | (conv => whnf)))
    | (refine CondG.mk (fun h => ?_) (fun h => ?_) <;> (try simp only [decide_eq_true_eq, decide_eq_false_iff_not, Bool.not_eq_true', Bool.not_eq_false', beq_iff_eq, beq_eq_false_iff_ne] at h) <;> (first | (exfalso; first | omega | exact h trivial) | (conv => whnf)))
    | (refine CallX.mk _ _ (by first | exact lowOf1_pc l hl hb kind _) ?_; conv => whnf)
    | (refine CallG.mk _ _ (by first | exact lowOf1_pc l hl hb kind _) ?_; conv => whnf)
    | (refine Ask.mk (by first | omega | (unfold roomOK; simp [cutRows]; done) | (unfold roomOK; simp [cutRows]; omega)) ?_; conv => whnf)
    | (refine SliceG.fr ?_; conv => whnf)
    | fail)
  refine loop_count (l.length) [] [5, 7, 8, 16, 17, 18] (fun k (_ : Unit) => ⟨[(5, .c (.ptr 0 0)), (7, .c (.fn 116 [.ptr 1 0, .ptr 2 0])), (8, .c (.int .i64 (leastR l kind w k))), (16, .c (.lst 6 (l.map encAc))), (17, .c (.int .i64 (l.map encAc).length)), (18, .c (.int .i64 k))], [(0, .box (encW w)), (1, .box [.lst 6 (l.map encAc)]), (2, .box [.str kind])], 3⟩) (fun k (_ : Unit) => True) (()) ?_ ?_ ?_
  · conv => whnf
    exact ⟨rfl, trivial⟩
  · intro k _ hk _
    have hg : l.getD k acD = l[k] := by simp [hk]
    conv => whnf
    repeat' (first
      | (refine Split.mk (fun h => ?_) (fun h => ?_) <;> (try simp only [decide_eq_true_eq, decide_eq_false_iff_not, Bool.not_eq_true', Bool.not_eq_false', beq_iff_eq, beq_eq_false_iff_ne, bne_iff_ne, bne_eq_false_iff_eq] at h) <;> (first | (exfalso; first | omega | exact h trivial) | (conv => whnf)))
      | (refine CondG.mk (fun h => ?_) (fun h => ?_) <;> (try simp only [decide_eq_true_eq, decide_eq_false_iff_not, Bool.not_eq_true', Bool.not_eq_false', beq_iff_eq, beq_eq_false_iff_ne, bne_iff_ne, bne_eq_false_iff_eq] at h) <;> (first | (exfalso; first | omega | exact h trivial) | (conv => whnf)))
      | (refine CallX.mk _ _ (by first | exact lowOf1_pc l hl hb kind _) ?_; conv => whnf)
      | (refine CallG.mk _ _ (by first | exact lowOf1_pc l hl hb kind _) ?_; conv => whnf)
      | (refine Ask.mk (by first | omega | (unfold roomOK; simp [cutRows]; done) | (unfold roomOK; simp [cutRows]; omega)) ?_; conv => whnf)
      | (refine SliceG.fr ?_; conv => whnf)
      | (refine idx_at _ (by with_reducible rfl) (by first | assumption | omega) ?_; conv => whnf)
      | fail)
    · have hu : leastR l kind w (k + 1) = minI (leastR l kind w k) (ofR l kind l[k].mo) := by rw [leastR, hg, if_pos (by constructor <;> omega)]
      exact count_next () hk (by rw [wrap_succ hk (by omega), hu]; rfl) trivial
    all_goals have hu : leastR l kind w (k + 1) = leastR l kind w k := by rw [leastR, hg, if_neg (by omega)]
    all_goals exact count_next () hk (by rw [wrap_succ hk (by omega), hu]; rfl) trivial
  · intro _ _
    conv => whnf
    repeat' (first
      | (refine Split.mk (fun h => ?_) (fun h => ?_) <;> (try simp only [decide_eq_true_eq, decide_eq_false_iff_not, Bool.not_eq_true', Bool.not_eq_false', beq_iff_eq, beq_eq_false_iff_ne] at h) <;> (first | (exfalso; first | omega | exact h trivial) | (conv => whnf)))
      | (refine CondG.mk (fun h => ?_) (fun h => ?_) <;> (try simp only [decide_eq_true_eq, decide_eq_false_iff_not, Bool.not_eq_true', Bool.not_eq_false', beq_iff_eq, beq_eq_false_iff_ne] at h) <;> (first | (exfalso; first | omega | exact h trivial) | (conv => whnf)))
      | (refine Ask.mk (by first | omega | (unfold roomOK; simp [cutRows]; done) | (unfold roomOK; simp [cutRows]; omega)) ?_; conv => whnf)
      | (refine SliceG.fr ?_; conv => whnf)
      | fail)
    exact fini rfl
end Go.Proofs.Ytmpjgbanmdgooaa

/- Errors of acts and windows, by the document. -/
namespace Go.Proofs.Ytmpjgbanmdgooaa
set_option linter.unusedVariables false
set_option linter.unusedSimpArgs false
open Abs
set_option maxRecDepth 100000 in
set_option maxHeartbeats 4000000 in
theorem rMoment_pc (n : Int) : PCp 147 [.c (.int .i64 n)] [] (.c (.bool (momB n))) [] := by
  refine fn_sound (mt := mts) tab_fits tab_mixed Try.func147 (by rfl) (by kernel_rfl) (by kernel_rfl) Try.results147 (Nat.le_of_ble_eq_true (by kernel_rfl)) ?_
  conv => whnf
  repeat' (first
    | (refine Split.mk (fun h => ?_) (fun h => ?_) <;> (try simp only [decide_eq_true_eq, decide_eq_false_iff_not, Bool.not_eq_true', Bool.not_eq_false', beq_iff_eq, beq_eq_false_iff_ne] at h) <;> (first | (exfalso; first | omega | exact h trivial) | (conv => whnf)))
    | (refine CondG.mk (fun h => ?_) (fun h => ?_) <;> (try simp only [decide_eq_true_eq, decide_eq_false_iff_not, Bool.not_eq_true', Bool.not_eq_false', beq_iff_eq, beq_eq_false_iff_ne] at h) <;> (first | (exfalso; first | omega | exact h trivial) | (conv => whnf)))
    | (refine CallX.mk _ _ (by first | exact rIn_pc _ _ _) ?_; conv => whnf)
    | (refine CallG.mk _ _ (by first | exact rIn_pc _ _ _) ?_; conv => whnf)
    | (refine Ask.mk (by first | omega | (unfold roomOK; simp [cutRows]; done) | (unfold roomOK; simp [cutRows]; omega)) ?_; conv => whnf)
    | (refine SliceG.fr ?_; conv => whnf)
    | fail)
  exact finb (by unfold momB; rfl)
set_option maxRecDepth 100000 in
set_option maxHeartbeats 4000000 in
theorem rActFault_pc (x : Ac) : PCp 114 [.agg (encAc x)] [] (.c (.int .i64 (actErr x))) [] := by
  refine fn_sound (mt := mts) tab_fits tab_mixed Try.func114 (by rfl) (by kernel_rfl) (by kernel_rfl) Try.results114 (Nat.le_of_ble_eq_true (by kernel_rfl)) ?_
  conv => whnf
  repeat' (first
    | (refine Split.mk (fun h => ?_) (fun h => ?_) <;> (try simp only [decide_eq_true_eq, decide_eq_false_iff_not, Bool.not_eq_true', Bool.not_eq_false', beq_iff_eq, beq_eq_false_iff_ne, bne_iff_ne, bne_eq_false_iff_eq] at h) <;> (first | (exfalso; first | omega | exact h trivial) | (conv => whnf)))
    | (refine CondG.mk (fun h => ?_) (fun h => ?_) <;> (try simp only [decide_eq_true_eq, decide_eq_false_iff_not, Bool.not_eq_true', Bool.not_eq_false', beq_iff_eq, beq_eq_false_iff_ne, bne_iff_ne, bne_eq_false_iff_eq] at h) <;> (first | (exfalso; first | omega | exact h trivial) | (conv => whnf)))
    | (refine CallX.mk _ _ (by first | exact rKey_pc _ | exact rMoment_pc _ | exact rIn_pc _ _ _) ?_; conv => whnf)
    | (refine CallG.mk _ _ (by first | exact rKey_pc _ | exact rMoment_pc _ | exact rIn_pc _ _ _) ?_; conv => whnf)
    | (refine Ask.mk (by first | omega | (unfold roomOK; simp [cutRows]; done) | (unfold roomOK; simp [cutRows]; omega)) ?_; conv => whnf)
    | (refine SliceG.fr ?_; conv => whnf)
    | (refine idx_at _ (by with_reducible rfl) (by first | assumption | omega) ?_; conv => whnf)
    | fail)
  all_goals refine fini ?_
  all_goals unfold actErr
  all_goals generalize (⟨#[]⟩ : ByteArray).toList = nl at *
  all_goals (try simp only [eqRes] at *)
  all_goals first | (simp_all; done) | (simp_all; omega) | ((repeat' split) <;> first | rfl | (exfalso; first | omega | (simp_all; done) | (simp_all; omega)))
set_option maxRecDepth 100000 in
set_option maxHeartbeats 4000000 in
theorem rWinFault_pc (w : Wi) (n : Int) (hn : 0 ≤ n ∧ n ≤ 1) (hw : winB w = true → True) : PCp 57 [.agg (encW w), .c (.int .i64 n)] [] (.c (.int .i64 (if winB w = true ∧ w.1 + n ≤ w.2 then 0 else 1))) [] := by
  refine fn_sound (mt := mts) tab_fits tab_mixed Try.func57 (by rfl) (by kernel_rfl) (by kernel_rfl) Try.results57 (Nat.le_of_ble_eq_true (by kernel_rfl)) ?_
  conv => whnf
  have hw1 : 0 ≤ w.1 → w.1 ≤ w.2 → w.2 ≤ 345686400000 → IntKind.i64.wrap (w.2 - w.1) = w.2 - w.1 := fun _ _ _ => wrap_in (by omega) (by omega)
  repeat' (first
    | (refine Split.mk (fun h => ?_) (fun h => ?_) <;> (try simp only [decide_eq_true_eq, decide_eq_false_iff_not, Bool.not_eq_true', Bool.not_eq_false', beq_iff_eq, beq_eq_false_iff_ne, bne_iff_ne, bne_eq_false_iff_eq] at h) <;> (first | (exfalso; first | omega | exact h trivial) | (conv => whnf)))
    | (refine CondG.mk (fun h => ?_) (fun h => ?_) <;> (try simp only [decide_eq_true_eq, decide_eq_false_iff_not, Bool.not_eq_true', Bool.not_eq_false', beq_iff_eq, beq_eq_false_iff_ne, bne_iff_ne, bne_eq_false_iff_eq] at h) <;> (first | (exfalso; first | omega | exact h trivial) | (conv => whnf)))
    | (refine Ask.mk (by first | omega | (unfold roomOK; simp [cutRows]; done) | (unfold roomOK; simp [cutRows]; omega)) ?_; conv => whnf)
    | (refine SliceG.fr ?_; conv => whnf)
    | (refine idx_at _ (by with_reducible rfl) (by first | assumption | omega) ?_; conv => whnf)
    | fail)
  all_goals refine fini ?_
  all_goals simp only [winB, decide_eq_true_eq]
  all_goals (try rw [hw1 (by omega) (by omega) (by omega)] at *)
  all_goals (split <;> omega)
set_option maxRecDepth 100000 in
set_option maxHeartbeats 4000000 in
theorem nameFault_pc (s : ByteArray) : PCp 56 [.c (.str s)] [] (.c (.int .i64 (if keyB s then 0 else 5))) [] := by
  refine fn_sound (mt := mts) tab_fits tab_mixed Try.func56 (by rfl) (by kernel_rfl) (by kernel_rfl) Try.results56 (Nat.le_of_ble_eq_true (by kernel_rfl)) ?_
  conv => whnf
  repeat' (first
    | (refine Split.mk (fun h => ?_) (fun h => ?_) <;> (try simp only [decide_eq_true_eq, decide_eq_false_iff_not, Bool.not_eq_true', Bool.not_eq_false', beq_iff_eq, beq_eq_false_iff_ne] at h) <;> (first | (exfalso; first | omega | exact h trivial) | (conv => whnf)))
    | (refine CondG.mk (fun h => ?_) (fun h => ?_) <;> (try simp only [decide_eq_true_eq, decide_eq_false_iff_not, Bool.not_eq_true', Bool.not_eq_false', beq_iff_eq, beq_eq_false_iff_ne] at h) <;> (first | (exfalso; first | omega | exact h trivial) | (conv => whnf)))
    | (refine CallX.mk _ _ (by first | exact rKey_pc _ | exact when_pc _ _) ?_; conv => whnf)
    | (refine CallG.mk _ _ (by first | exact rKey_pc _ | exact when_pc _ _) ?_; conv => whnf)
    | (refine Ask.mk (by first | omega | (unfold roomOK; simp [cutRows]; done) | (unfold roomOK; simp [cutRows]; omega)) ?_; conv => whnf)
    | (refine SliceG.fr ?_; conv => whnf)
    | fail)
  exact fini (by cases keyB s <;> rfl)
theorem cmpB_swap : ∀ a b : List UInt8, Lib.compareBytes a b = - Lib.compareBytes b a
  | [], [] => rfl
  | [], _ :: _ => rfl
  | _ :: _, [] => rfl
  | x :: xs, y :: ys => by
    have ih := cmpB_swap xs ys
    unfold Lib.compareBytes
    repeat' split
    all_goals first
      | rfl
      | exact ih
      | (exfalso; simp_all [UInt8.lt_iff_toNat_lt]; omega)
      | (exfalso; simp_all)
theorem cmpB_zero : ∀ a b : List UInt8, Lib.compareBytes a b = 0 ↔ a = b
  | [], [] => by simp [Lib.compareBytes]
  | [], _ :: _ => by simp [Lib.compareBytes]
  | _ :: _, [] => by simp [Lib.compareBytes]
  | x :: xs, y :: ys => by
    have ih := cmpB_zero xs ys
    unfold Lib.compareBytes
    split
    · rename_i h
      constructor
      · intro e; cases e
      · intro e; cases e; exact absurd h (UInt8.lt_irrefl x)
    · split
      · rename_i h
        constructor
        · intro e; cases e
        · intro e; cases e; exact absurd h (UInt8.lt_irrefl x)
      · rename_i h1 h2
        have hxy : x = y := by
          rw [UInt8.lt_iff_toNat_lt] at h1 h2
          exact UInt8.toNat_inj.1 (by omega)
        rw [ih, hxy]; simp
theorem cmpS_swap (a b : ByteArray) : cmpS a b = - cmpS b a := cmpB_swap ..
theorem cmpS_zero {a b : ByteArray} : cmpS a b = 0 ↔ a = b := by
  unfold cmpS
  rw [cmpB_zero]
  exact ⟨fun h => ByteArray.ext (Array.toList_inj.1 h), fun h => by rw [h]⟩
theorem cmpI_zero {a b : Int} : cmpI a b = 0 ↔ a = b := by unfold cmpI; repeat' split <;> omega
theorem sgn_sub {a b : Int} (ha : -1000000000000 ≤ a ∧ a ≤ 1000000000000) (hb : -1000000000000 ≤ b ∧ b ≤ 1000000000000) : sgn (IntKind.i64.wrap (a - b)) = cmpI a b := by
  rw [wrap_in (by omega) (by omega)]
  unfold sgn cmpI
  repeat' split
  all_goals omega
theorem actErr_in {x : Ac} (h : actErr x = 0) : 0 ≤ x.mo ∧ x.mo ≤ 345686399999 ∧ 1 ≤ x.kd ∧ x.kd ≤ 4 ∧ 0 ≤ x.long ∧ x.long ≤ 200000 ∧ (x.kd ≠ 4 → 1 ≤ x.long) ∧ keyB x.drum = true ∧ (x.kd = 1 → keyB x.ty = true) ∧ (x.kd = 3 → keyB x.of = true) := by
  unfold actErr at h
  split at h
  · cases h
  split at h
  · cases h
  split at h
  · cases h
  split at h
  · cases h
  split at h
  · cases h
  rename_i h1 h2 h3 h4 h5
  have h1 : momB x.mo = true := by simpa using h1
  have h1 := of_decide_eq_true h1
  simp only [Bool.or_eq_true, not_or, Bool.not_eq_true', Bool.not_eq_false, Bool.and_eq_true, beq_iff_eq, not_and] at h3
  refine ⟨h1.1, h1.2, by omega, by omega, by omega, by omega, by omega, h3.1.1, ?_, ?_⟩
  · intro e; simpa using h3.1.2 e
  · intro e; simpa using h3.2 e
/-- both orders are one -/
theorem ord_time {x y : Ac} (hx : actErr x = 0) (hy : actErr y = 0) : ordC y x = timeC y x ∧ timeC y x = - timeC x y := by
  have a := actErr_in hx
  have b := actErr_in hy
  have e1 := sgn_sub (a := y.mo) (b := x.mo) (by omega) (by omega)
  have e2 := sgn_sub (a := y.kd) (b := x.kd) (by omega) (by omega)
  have e3 := sgn_sub (a := y.long) (b := x.long) (by omega) (by omega)
  have w : ∀ p q : Int, cmpI p q = - cmpI q p := by intro p q; unfold cmpI; repeat' split <;> omega
  constructor
  · unfold ordC timeC
    rw [e1, e2, e3]
    simp only [firstErr, cmpI_zero, cmpS_zero]
    have hl : (if y.long = x.long then (0 : Int) else cmpI y.long x.long) = cmpI y.long x.long := by
      split
      · rename_i e; exact (cmpI_zero.2 e).symm
      · rfl
    rw [hl]
    by_cases h1 : y.mo = x.mo
    · rw [if_neg (fun h => h h1), if_pos h1]
      by_cases h2 : y.drum = x.drum
      · rw [if_neg (fun h => h h2), if_pos h2]
        by_cases h3 : y.kd = x.kd
        · rw [if_neg (fun h => h h3), if_pos h3]
          by_cases h4 : y.ty = x.ty
          · rw [if_neg (fun h => h h4), if_pos h4]
            by_cases h5 : y.of = x.of
            · rw [if_neg (fun h => h h5), if_pos h5]
            · rw [if_pos h5, if_neg h5]
          · rw [if_pos h4, if_neg h4]
        · rw [if_pos h3, if_neg h3]
      · rw [if_pos h2, if_neg h2]
    · rw [if_pos h1, if_neg h1]
  · have key : ∀ l : List Int, firstErr (l.map fun z => -z) = - firstErr l := by
      intro l
      induction l with
      | nil => rfl
      | cons a r ih =>
        simp only [List.map_cons, firstErr, ih, Int.neg_eq_zero]
        split <;> rfl
    unfold timeC
    rw [w y.mo x.mo, cmpS_swap y.drum x.drum, w y.kd x.kd, cmpS_swap y.ty x.ty, cmpS_swap y.of x.of, w y.long x.long]
    exact key [cmpI x.mo y.mo, cmpS x.drum y.drum, cmpI x.kd y.kd, cmpS x.ty y.ty, cmpS x.of y.of, cmpI x.long y.long]
set_option maxRecDepth 100000 in
set_option maxHeartbeats 4000000 in
theorem rActs_pc (l : List Ac) : PCp 55 [.c (.lst 6 (l.map encAc))] [] (.c (.int .i64 (actsFault l))) [] := by
  have hlm : (l.map encAc).length = l.length := List.length_map ..
  refine fn_sound (mt := mts) tab_fits tab_mixed Try.func55 (by rfl) (by kernel_rfl) (by kernel_rfl) Try.results55 (Nat.le_of_ble_eq_true (by kernel_rfl)) ?_
  conv => whnf
  repeat' (first
    | (refine Split.mk (fun h => ?_) (fun h => ?_) <;> (try simp only [decide_eq_true_eq, decide_eq_false_iff_not, Bool.not_eq_true', Bool.not_eq_false', beq_iff_eq, beq_eq_false_iff_ne, bne_iff_ne, bne_eq_false_iff_eq] at h) <;> (first | (exfalso; first | omega | exact h trivial) | (conv => whnf)))
    | (refine CondG.mk (fun h => ?_) (fun h => ?_) <;> (try simp only [decide_eq_true_eq, decide_eq_false_iff_not, Bool.not_eq_true', Bool.not_eq_false', beq_iff_eq, beq_eq_false_iff_ne, bne_iff_ne, bne_eq_false_iff_eq] at h) <;> (first | (exfalso; first | omega | exact h trivial) | (conv => whnf)))
    | (refine Ask.mk (by first | omega | (unfold roomOK; simp [cutRows]; done) | (unfold roomOK; simp [cutRows]; omega)) ?_; conv => whnf)
    | (refine SliceG.fr ?_; conv => whnf)
    | (refine idx_at _ (by with_reducible rfl) (by first | assumption | omega) ?_; conv => whnf)
    | fail)
  · exact fini (by rw [actsFault, if_pos (by omega)])
  have hF : actsFault l = actsErr none l := by rw [actsFault, if_neg (by omega)]
  refine loop_count (l.length) [] [0, 9, 10, 11] (fun k (_ : Unit) => ⟨[(0, .c (.lst 6 (l.map encAc))), (9, .c (.lst 6 (l.map encAc))), (10, .c (.int .i64 (l.map encAc).length)), (11, .c (.int .i64 k))], [], 0⟩) (fun k (_ : Unit) => actsErr (prevAt l k) (l.drop k) = actsErr none l ∧ ∀ i (h : i < l.length), i < k → actErr l[i] = 0) (()) ?_ ?_ ?_
  · conv => whnf
    exact ⟨rfl, rfl, by intro i h hi; omega⟩
  · intro k _ hk ⟨hi, hz⟩
    rw [drop_cons hk, actsErr] at hi
    have hp1 : prevAt l (k + 1) = some l[k] := by simp [prevAt, hk]
    have hz1 : actErr l[k] = 0 → ∀ i (h : i < l.length), i < k + 1 → actErr l[i] = 0 := by
      intro h0 i h hik
      rcases Nat.lt_or_ge i k with h3 | h3
      · exact hz i h h3
      · have : i = k := by omega
        subst this; exact h0
    conv => whnf
    repeat' (first
      | (refine Split.mk (fun h => ?_) (fun h => ?_) <;> (try simp only [decide_eq_true_eq, decide_eq_false_iff_not, Bool.not_eq_true', Bool.not_eq_false', beq_iff_eq, beq_eq_false_iff_ne, bne_iff_ne, bne_eq_false_iff_eq] at h) <;> (first | (exfalso; first | omega | exact h trivial) | (conv => whnf)))
      | (refine CondG.mk (fun h => ?_) (fun h => ?_) <;> (try simp only [decide_eq_true_eq, decide_eq_false_iff_not, Bool.not_eq_true', Bool.not_eq_false', beq_iff_eq, beq_eq_false_iff_ne, bne_iff_ne, bne_eq_false_iff_eq] at h) <;> (first | (exfalso; first | omega | exact h trivial) | (conv => whnf)))
      | (refine CallX.mk _ _ (by first | exact rActFault_pc _) ?_; conv => whnf)
      | (refine CallG.mk _ _ (by first | exact rActFault_pc _) ?_; conv => whnf)
      | (refine Ask.mk (by first | omega | (unfold roomOK; simp [cutRows]; done) | (unfold roomOK; simp [cutRows]; omega)) ?_; conv => whnf)
      | (refine SliceG.fr ?_; conv => whnf)
      | (refine idx_at _ (by with_reducible rfl) (by first | assumption | omega) ?_; conv => whnf)
      | fail)
    · rw [if_pos h] at hi
      exact fini (by rw [hF, ← hi])
    · rename_i h0
      rw [if_neg (by simpa using h0)] at hi
      have h0 : actErr l[k] = 0 := by simpa using h0
      have hk1 : IntKind.i64.wrap ((k : Int) - 1) = ((k - 1 : Nat) : Int) := by rw [wrap_in (by omega) (by omega)]; omega
      have hp : prevAt l k = some (l[k - 1]'(by omega)) := by rw [prevAt, if_neg (by omega)]; exact List.getElem?_eq_getElem (by omega)
      rw [hp] at hi
      have ho := ord_time (x := l[k]) (y := l[k - 1]'(by omega)) h0 (hz (k - 1) (by omega) (by omega))
      refine idx_map (k - 1) (by omega) hk1 ?_
      conv => whnf
      repeat' (first
        | (refine Split.mk (fun h => ?_) (fun h => ?_) <;> (try simp only [decide_eq_true_eq, decide_eq_false_iff_not, Bool.not_eq_true', Bool.not_eq_false', beq_iff_eq, beq_eq_false_iff_ne, bne_iff_ne, bne_eq_false_iff_eq] at h) <;> (first | (exfalso; first | omega | exact h trivial) | (conv => whnf)))
        | (refine CondG.mk (fun h => ?_) (fun h => ?_) <;> (try simp only [decide_eq_true_eq, decide_eq_false_iff_not, Bool.not_eq_true', Bool.not_eq_false', beq_iff_eq, beq_eq_false_iff_ne, bne_iff_ne, bne_eq_false_iff_eq] at h) <;> (first | (exfalso; first | omega | exact h trivial) | (conv => whnf)))
        | (refine CallX.mk _ _ (by first | exact actOrder_pc _ _) ?_; conv => whnf)
        | (refine CallG.mk _ _ (by first | exact actOrder_pc _ _) ?_; conv => whnf)
        | (refine Ask.mk (by first | omega | (unfold roomOK; simp [cutRows]; done) | (unfold roomOK; simp [cutRows]; omega)) ?_; conv => whnf)
        | (refine SliceG.fr ?_; conv => whnf)
        | (refine idx_at _ (by with_reducible rfl) (by first | assumption | omega) ?_; conv => whnf)
        | fail)
      · rw [if_pos (by simp only [badPrev, decide_eq_true_eq]; omega)] at hi
        exact fini (by rw [hF, ← hi])
      · rw [if_neg (by simp only [badPrev, decide_eq_true_eq]; omega)] at hi
        refine count_next () hk (by rw [wrap_succ hk (by omega)]; rfl) ?_
        exact ⟨by rw [hp1]; exact hi, hz1 h0⟩
    · have h0 : k = 0 := by omega
      have h1 : actErr l[k] = 0 := by simp_all
      subst h0
      rw [if_neg (by simp [h1]), if_neg (by simp [badPrev, prevAt])] at hi
      refine count_next () hk (by rw [wrap_succ hk (by omega)]; rfl) ?_
      exact ⟨by rw [hp1]; exact hi, hz1 h1⟩
  · intro _ ⟨hi, _⟩
    rw [List.drop_of_length_le (Nat.le_refl _)] at hi
    conv => whnf
    repeat' (first
      | (refine Split.mk (fun h => ?_) (fun h => ?_) <;> (try simp only [decide_eq_true_eq, decide_eq_false_iff_not, Bool.not_eq_true', Bool.not_eq_false', beq_iff_eq, beq_eq_false_iff_ne] at h) <;> (first | (exfalso; first | omega | exact h trivial) | (conv => whnf)))
      | (refine CondG.mk (fun h => ?_) (fun h => ?_) <;> (try simp only [decide_eq_true_eq, decide_eq_false_iff_not, Bool.not_eq_true', Bool.not_eq_false', beq_iff_eq, beq_eq_false_iff_ne] at h) <;> (first | (exfalso; first | omega | exact h trivial) | (conv => whnf)))
      | (refine Ask.mk (by first | omega | (unfold roomOK; simp [cutRows]; done) | (unfold roomOK; simp [cutRows]; omega)) ?_; conv => whnf)
      | (refine SliceG.fr ?_; conv => whnf)
      | fail)
    exact fini (by rw [hF, ← hi]; rfl)
end Go.Proofs.Ytmpjgbanmdgooaa

/- The two stores are one. -/
namespace Go.Proofs.Ytmpjgbanmdgooaa
set_option linter.unusedVariables false
set_option linter.unusedSimpArgs false
open Abs

section
variable {κ β : Type} [DecidableEq κ]
theorem get_of_mem {s : SM κ β} (h : s.ok) {e : Nat × κ × β} (he : e ∈ s.es) : s.get e.2.1 = some e.2.2 := by
  have hk := h.kn
  unfold SM.get SM.m at *
  generalize s.es = es at he hk
  clear h
  induction es with
  | nil => cases he
  | cons a r ih =>
    simp only [List.map_cons, List.nodup_cons] at hk
    rcases List.mem_cons.1 he with rfl | he
    · simp [mget]
    · have hne : ¬ a.2.1 = e.2.1 := by
        intro h2
        exact hk.1 (by rw [h2]; exact List.mem_map.2 ⟨e.2, List.mem_map.2 ⟨e, he, rfl⟩, rfl⟩)
      have := ih he hk.2
      simpa [mget, List.find?_cons, hne] using this
theorem mem_of_get {s : SM κ β} {x : κ} {y : β} (h : s.get x = some y) : ∃ n, (n, x, y) ∈ s.es := by
  unfold SM.get SM.m at h
  generalize s.es = es at h
  induction es with
  | nil => simp [mget] at h
  | cons a r ih =>
    by_cases hx : a.2.1 = x
    · have hy : a.2.2 = y := by simpa [mget, List.find?_cons, hx] using h
      exact ⟨a.1, by rw [← hx, ← hy]; simp⟩
    · obtain ⟨n, hn⟩ := ih (by simpa [mget, List.find?_cons, hx] using h)
      exact ⟨n, by simp [hn]⟩
end
/-- what the program's store has, by the document's -/
def seen (r : Rto) (d : ByteArray) : Option (ByteArray × Int) := if 0 < (r.l.get d).getD 0 then some ((r.k.get d).getD bE, (r.l.get d).getD 0) else none
structure Rel (s : Sto) (r : Rto) : Prop where
  k : ∀ d, s.k.get d = r.k.get d
  d : ∀ d, s.d.get d = seen r d
  n : ∀ d, 0 ≤ (r.l.get d).getD 0 ∧ (r.l.get d).getD 0 ≤ 200000
  h : ∀ d, 0 < (r.l.get d).getD 0 → (r.k.get d).isSome = true
theorem rel_nil : Rel stoNil rtoNil := ⟨fun _ => rfl, fun _ => rfl, fun _ => ⟨by show (0 : Int) ≤ 0; decide, by show (0 : Int) ≤ 200000; decide⟩, fun d h => by have : (0 : Int) < 0 := h; omega⟩
theorem rel_step {s : Sto} {r : Rto} (hs : s.ok) (h : Rel s r) {x : Ac} (hx : actErr x = 0) :
    Rel (takeS s x).1 (doR r x).1 ∧ (takeS s x).2.2 = (doR r x).2.2 ∧ ((doR r x).2.2 = 0 → (takeS s x).2.1 = ((doR r x).1.k.get x.drum).getD bE ∧ (doR r x).2.1 = if x.kd = 2 then x.long else if x.kd = 3 then - x.long else 0) := by
  have a := actErr_in hx
  have hk := h.k x.drum
  have ho := h.k x.of
  have hd := h.d x.drum
  have hn := h.n x.drum
  have hh := h.h x.drum
  have hwn : IntKind.i64.wrap (0 - x.long) = - x.long := by rw [wrap_in (by omega) (by omega)]; omega
  have hput : ∀ (t : ByteArray) (n : Int), 0 < n → n ≤ 200000 → Rel ⟨s.d.put x.drum (t, n), s.k.put x.drum t⟩ ⟨r.l.put x.drum n, r.k.put x.drum t⟩ := by
    intro t n h1 h2
    refine ⟨fun d => ?_, fun d => ?_, fun d => ?_, fun d => ?_⟩
    · rw [SM.get_put, SM.get_put, h.k d]
    · simp only [seen, SM.get_put]
      split
      · simp [h1]
      · rw [h.d d]; rfl
    · simp only [SM.get_put]
      split
      · simp; omega
      · exact h.n d
    · simp only [SM.get_put]
      split
      · simp
      · exact h.h d
  by_cases k1 : x.kd = 1
  · have hne : takeS s x = if (s.k.get x.drum).isSome then (s, bE, 6) else (⟨s.d.put x.drum (x.ty, x.long), s.k.put x.drum x.ty⟩, x.ty, 0) := by
      unfold takeS; rw [if_pos (.inl k1)]; simp only [k1, if_true]
    have hre : doR r x = if (r.k.get x.drum).isSome then (r, 0, 6) else (⟨r.l.put x.drum x.long, r.k.put x.drum x.ty⟩, 0, 0) := by
      unfold doR; rw [if_pos k1]
    rw [hne, hre, hk]
    split
    · exact ⟨h, rfl, fun e => by cases e⟩
    · exact ⟨hput _ _ (by omega) (by omega), rfl, fun _ => ⟨by simp [SM.get_put], by simp [k1]⟩⟩
  by_cases k3 : x.kd = 3
  · have hne : takeS s x = if (s.k.get x.drum).isSome then (s, bE, 6) else if (s.k.get x.of).isSome then (⟨s.d.put x.drum ((s.k.get x.of).getD bE, x.long), s.k.put x.drum ((s.k.get x.of).getD bE)⟩, (s.k.get x.of).getD bE, 0) else (s, bE, 8) := by
      unfold takeS; rw [if_pos (.inr k3)]; simp only [k1, if_false]
    have hre : doR r x = if (r.k.get x.drum).isSome then (r, 0, 6) else if (r.k.get x.of).isSome then (⟨r.l.put x.drum x.long, r.k.put x.drum ((r.k.get x.of).getD bE)⟩, IntKind.i64.wrap (0 - x.long), 0) else (r, 0, 8) := by
      unfold doR; rw [if_neg k1, if_neg (by omega), if_pos k3]
    rw [hne, hre, hk, ho]
    split
    · exact ⟨h, rfl, fun e => by cases e⟩
    · split
      · exact ⟨hput _ _ (by omega) (by omega), rfl, fun _ => ⟨by simp [SM.get_put], by rw [hwn]; simp [k3]⟩⟩
      · exact ⟨h, rfl, fun e => by cases e⟩
  have hin : (s.d.get x.drum).isSome = decide (0 < (r.l.get x.drum).getD 0) := by
    rw [hd]; unfold seen; split <;> simp_all
  have hne : takeS s x = if (s.d.get x.drum).isSome then (if x.kd = 2 ∧ ((s.d.get x.drum).getD (bE, 0)).2 < x.long then (s, bE, 12)
    else if x.kd = 4 ∨ IntKind.i64.wrap (((s.d.get x.drum).getD (bE, 0)).2 - x.long) = 0 then (⟨s.d.del x.drum, s.k⟩, ((s.d.get x.drum).getD (bE, 0)).1, 0)
    else (⟨s.d.put x.drum (((s.d.get x.drum).getD (bE, 0)).1, IntKind.i64.wrap (((s.d.get x.drum).getD (bE, 0)).2 - x.long)), s.k⟩, ((s.d.get x.drum).getD (bE, 0)).1, 0)) else (s, bE, 8) := by
    unfold takeS; rw [if_neg (by omega)]
  rw [hne, hin]
  by_cases h0 : 0 < (r.l.get x.drum).getD 0
  · have hv : (s.d.get x.drum).getD (bE, 0) = ((r.k.get x.drum).getD bE, (r.l.get x.drum).getD 0) := by rw [hd, seen, if_pos h0]; rfl
    rw [hv]
    generalize hg : (r.l.get x.drum).getD 0 = n at *
    have hw : IntKind.i64.wrap (n - x.long) = n - x.long := wrap_in (by omega) (by omega)
    simp only [h0, decide_true, if_true, hw]
    -- what is left of a drum
    have hres : ∀ m : Int, 0 ≤ m → m ≤ 200000 → Rel ⟨if m = 0 then s.d.del x.drum else s.d.put x.drum ((r.k.get x.drum).getD bE, m), s.k⟩ ⟨r.l.put x.drum m, r.k⟩ := by
      intro m m0 m1
      refine ⟨fun d => h.k d, fun d => ?_, fun d => ?_, fun d => ?_⟩
      · simp only [seen, SM.get_put]
        split
        · rename_i e
          rw [SM.get_del hs.d]
          by_cases hxd : x.drum = d
          · simp [hxd, e]
          · simp only [if_neg hxd]; rw [h.d d]; rfl
        · rename_i e
          rw [SM.get_put]
          by_cases hxd : x.drum = d
          · subst hxd; simp; omega
          · simp only [if_neg hxd]; rw [h.d d]; rfl
      · simp only [SM.get_put]
        split
        · simp; omega
        · exact h.n d
      · simp only [SM.get_put]
        split
        · rename_i e; intro _; rw [← e]; exact hh h0
        · exact h.h d
    by_cases k2 : x.kd = 2
    · have hre : doR r x = if n < x.long then (r, 0, 12) else (⟨r.l.put x.drum (n - x.long), r.k⟩, x.long, 0) := by
        unfold doR; rw [if_neg k1, if_pos k2, hg, if_neg (by omega), hw]
      rw [hre]
      by_cases hlt : n < x.long
      · rw [if_pos ⟨k2, hlt⟩, if_pos hlt]; exact ⟨h, rfl, fun e => by cases e⟩
      · rw [if_neg (fun e => hlt e.2), if_neg hlt]
        have hr := hres (n - x.long) (by omega) (by omega)
        by_cases hz : n - x.long = 0
        · rw [if_pos (.inr hz)]; rw [if_pos hz] at hr; exact ⟨hr, rfl, fun _ => ⟨rfl, by simp [k2]⟩⟩
        · rw [if_neg (by omega)]; rw [if_neg hz] at hr; exact ⟨hr, rfl, fun _ => ⟨rfl, by simp [k2]⟩⟩
    · have k4 : x.kd = 4 := by omega
      have hre : doR r x = (⟨r.l.put x.drum 0, r.k⟩, 0, 0) := by
        unfold doR; rw [if_neg k1, if_neg k2, if_neg k3, hg, if_neg (by omega)]
      rw [hre, if_neg (fun e => k2 e.1), if_pos (.inl k4)]
      have hr := hres 0 (by omega) (by omega)
      rw [if_pos rfl] at hr
      exact ⟨hr, rfl, fun _ => ⟨rfl, by simp [k4]⟩⟩
  · have hz : (r.l.get x.drum).getD 0 = 0 := by omega
    have hre : doR r x = (r, 0, 8) := by
      unfold doR; rw [if_neg k1]
      by_cases k2 : x.kd = 2
      · rw [if_pos k2, if_pos hz]
      · rw [if_neg k2, if_neg k3, if_pos hz]
    rw [hre]
    rw [show decide (0 < (r.l.get x.drum).getD 0) = false from decide_eq_false h0]
    exact ⟨h, rfl, fun e => by cases e⟩
theorem actsErr_all : ∀ (l : List Ac) (p : Option Ac), actsErr p l = 0 → ∀ x ∈ l, actErr x = 0
  | [], _, _, x, hx => by cases hx
  | y :: r, p, h, x, hx => by
    unfold actsErr at h
    split at h
    · rename_i h1; exact absurd h h1
    · split at h
      · cases h
      · rename_i h1 h2
        rcases List.mem_cons.1 hx with rfl | hx
        · simpa using h1
        · exact actsErr_all r _ h x hx
theorem actsFault_all {l : List Ac} (h : actsFault l = 0) : l.length ≤ 2000 ∧ ∀ x ∈ l, actErr x = 0 := by
  unfold actsFault at h
  split at h
  · cases h
  · exact ⟨by omega, actsErr_all l _ h⟩
theorem rel_at {l : List Ac} (h : actsFault l = 0) : ∀ k, k ≤ l.length → Rel (stoAt l k) (rtoAt l k)
  | 0, _ => rel_nil
  | k + 1, hk => by
    have hg : l.getD k acD = l[k]'(by omega) := by simp [show k < l.length by omega]
    have := (rel_step (stoAt_ok l k) (rel_at h k (by omega)) ((actsFault_all h).2 _ (List.getElem_mem (show k < l.length by omega)))).1
    rw [stoAt, rtoAt, hg]
    exact this
/-- what was used: both say the same -/
theorem used_eq {l : List Ac} (h : actsFault l = 0) (kind : ByteArray) (w : Wi) : ∀ k, k ≤ l.length → usedAt l kind w k = usedR l kind w k ∧ -200000 * (k : Int) ≤ usedR l kind w k ∧ usedR l kind w k ≤ 200000 * k
  | 0, _ => ⟨rfl, by simp [usedR], by simp [usedR]⟩
  | k + 1, hk => by
    obtain ⟨ih, b1, b2⟩ := used_eq h kind w k (by omega)
    have hkl : k < l.length := by omega
    have h2000 := (actsFault_all h).1
    have hg : l.getD k acD = l[k] := by simp [hkl]
    have hx := (actsFault_all h).2 _ (List.getElem_mem hkl)
    have ha := actErr_in hx
    obtain ⟨s1, s2, s3⟩ := rel_step (stoAt_ok l k) (rel_at h k (by omega)) hx
    have hr1 : rtoAt l (k + 1) = (doR (rtoAt l k) l[k]).1 := by rw [rtoAt, hg]
    have hw1 : IntKind.i64.wrap (usedR l kind w k + l[k].long) = usedR l kind w k + l[k].long := wrap_in (by omega) (by omega)
    have hw2 : IntKind.i64.wrap (usedR l kind w k - l[k].long) = usedR l kind w k - l[k].long := wrap_in (by omega) (by omega)
    have hw3 : IntKind.i64.wrap (usedR l kind w k + - l[k].long) = usedR l kind w k - l[k].long := by rw [wrap_in (by omega) (by omega)]; omega
    have hw0 : IntKind.i64.wrap (usedR l kind w k + 0) = usedR l kind w k := by rw [wrap_in (by omega) (by omega)]; omega
    rw [usedAt, usedR, hg, ih, hr1, s2]
    unfold usedStep
    by_cases he : (doR (rtoAt l k) l[k]).2.2 = 0
    · obtain ⟨t1, t2⟩ := s3 he
      rw [t1, t2, he]
      by_cases hkd : ((doR (rtoAt l k) l[k]).1.k.get l[k].drum).getD bE = kind
      · by_cases hw : w.1 ≤ l[k].mo ∧ l[k].mo < w.2
        · have hc1 : ¬ ((0 : Int) ≠ 0 ∨ ((doR (rtoAt l k) l[k]).1.k.get l[k].drum).getD bE ≠ kind ∨ inW w l[k].mo = false) := by simp [hkd, inW, hw]
          have hc2 : (0 : Int) = 0 ∧ ((doR (rtoAt l k) l[k]).1.k.get l[k].drum).getD bE = kind ∧ w.1 ≤ l[k].mo ∧ l[k].mo < w.2 := ⟨rfl, hkd, hw⟩
          rw [if_neg hc1, if_pos hc2]
          by_cases k2 : l[k].kd = 2
          · simp only [if_pos k2, hw1, true_and]; omega
          · by_cases k3 : l[k].kd = 3
            · simp only [if_neg k2, if_pos k3, hw2, hw3, true_and]; omega
            · simp only [if_neg k2, if_neg k3, hw0, true_and]; omega
        · have hc2 : ¬ ((0 : Int) = 0 ∧ ((doR (rtoAt l k) l[k]).1.k.get l[k].drum).getD bE = kind ∧ w.1 ≤ l[k].mo ∧ l[k].mo < w.2) := fun e => hw e.2.2
          rw [if_pos (by right; right; simpa [inW] using hw), if_neg hc2]
          exact ⟨rfl, by omega, by omega⟩
      · have hc2 : ¬ ((0 : Int) = 0 ∧ ((doR (rtoAt l k) l[k]).1.k.get l[k].drum).getD bE = kind ∧ w.1 ≤ l[k].mo ∧ l[k].mo < w.2) := fun e => hkd e.2.1
        rw [if_pos (.inr (.inl hkd)), if_neg hc2]
        exact ⟨rfl, by omega, by omega⟩
    · rw [if_pos (.inl he), if_neg (fun e => he e.1)]
      exact ⟨rfl, by omega, by omega⟩
end Go.Proofs.Ytmpjgbanmdgooaa

/- Sums over both stores. -/
namespace Go.Proofs.Ytmpjgbanmdgooaa
set_option linter.unusedVariables false
set_option linter.unusedSimpArgs false
open Abs

def dPc (e : DE) : Pc := ⟨e.2.1, e.2.2.1, e.2.2.2⟩
theorem sumK_P (kind : ByteArray) : ∀ l : List DE, sumK kind l = sumP kind (l.map dPc)
  | [] => rfl
  | e :: r => by simp only [sumK, List.map_cons, sumP, sumK_P kind r, dPc]; omega
theorem keys_nd {α : Type} [DecidableEq α] {β : Type} {s : SM α β} (h : s.ok) : (s.es.map (·.2.1)).Nodup := by
  have := h.kn
  rw [SM.m, List.map_map] at this
  exact this
theorem sto_perm {s : Sto} {r : Rto} (hs : s.ok) (hr : r.ok) (h : Rel s r) : (s.d.es.map dPc).Perm (stL r r.l.es) := by
  have n1 : (s.d.es.map dPc).Nodup := by
    refine nodup_of_map (f := Pc.key) ?_
    rw [List.map_map]
    exact keys_nd hs.d
  have n2 : (stL r r.l.es).Nodup := by
    refine nodup_of_map (f := Pc.key) ?_
    unfold stL
    rw [List.map_map]
    exact ((List.filter_sublist).map _).nodup (keys_nd hr.l)
  refine perm_of_nodup n1 n2 fun p => ?_
  have e1 : p ∈ s.d.es.map dPc ↔ s.d.get p.key = some (p.kind, p.long) := by
    constructor
    · intro hp
      obtain ⟨e, he, rfl⟩ := List.mem_map.1 hp
      exact get_of_mem hs.d he
    · intro hp
      obtain ⟨n, hn⟩ := mem_of_get hp
      exact List.mem_map.2 ⟨_, hn, rfl⟩
  have e2 : p ∈ stL r r.l.es ↔ seen r p.key = some (p.kind, p.long) := by
    unfold stL seen
    constructor
    · intro hp
      obtain ⟨e, he, rfl⟩ := List.mem_map.1 hp
      obtain ⟨he1, he2⟩ := List.mem_filter.1 he
      have hg := get_of_mem hr.l he1
      have he2 : 0 < e.2.2 := by simpa using he2
      show (if 0 < (r.l.get e.2.1).getD 0 then some ((r.k.get e.2.1).getD bE, (r.l.get e.2.1).getD 0) else none) = _
      rw [hg]
      simp only [Option.getD_some, if_pos he2]
      rfl
    · intro hp
      split at hp
      · rename_i h0
        cases hg : r.l.get p.key with
        | none => rw [hg] at h0; simp at h0
        | some n =>
          rw [hg] at hp h0
          simp only [Option.getD_some, Option.some.injEq, Prod.mk.injEq] at hp h0
          obtain ⟨m, hm⟩ := mem_of_get hg
          refine List.mem_map.2 ⟨_, List.mem_filter.2 ⟨hm, by simpa using h0⟩, ?_⟩
          obtain ⟨a, b, c⟩ := p
          simp only at hp
          simp only [stE, Pc.mk.injEq, true_and]
          exact hp
      · cases hp
  rw [e1, e2, h.d]
theorem sum_eq {s : Sto} {r : Rto} (hs : s.ok) (hr : r.ok) (h : Rel s r) (kind : ByteArray) : sumK kind s.d.es = sumP kind (stL r r.l.es) := by
  rw [sumK_P]; exact sumP_perm kind (sto_perm hs hr h)
theorem eput_len {κ β : Type} [DecidableEq κ] (c : Nat) : ∀ (es : List (Nat × κ × β)) (x : κ) (y : β), (eput c es x y).length ≤ es.length + 1
  | [], _, _ => by simp [eput]
  | e :: r, x, y => by
    unfold eput
    split
    · simp
    · have := eput_len c r x y; simp; omega
theorem rto_len (l : List Ac) : ∀ k, (rtoAt l k).l.es.length ≤ k
  | 0 => Nat.le_refl _
  | k + 1 => by
    have ih := rto_len l k
    rw [rtoAt]
    unfold doR
    repeat' split
    all_goals first
      | (simp only; omega)
      | (have := fun y => eput_len (rtoAt l k).l.clock (rtoAt l k).l.es (l.getD k acD).drum y
         exact Nat.le_trans (this _) (by omega))
theorem rto_names {names : List ByteArray} {l : List Ac} (hn : ∀ x ∈ l, x.drum ∈ names) : ∀ k, k ≤ l.length → ∀ e ∈ (rtoAt l k).l.es, e.2.1 ∈ names
  | 0, _ => by intro e he; cases he
  | k + 1, hk => by
    have ih := rto_names hn k (by omega)
    have hkl : k < l.length := by omega
    have hg : l.getD k acD = l[k] := by simp [hkl]
    have hp : ∀ y, ∀ e ∈ ((rtoAt l k).l.put l[k].drum y).es, e.2.1 ∈ names := by
      intro y e he
      rcases eput_mem he with h | h
      · exact ih e h
      · rw [h]; exact hn _ (List.getElem_mem hkl)
    rw [rtoAt, hg]
    unfold doR
    repeat' split
    all_goals first | exact ih | exact hp _
theorem longR_at {names : List ByteArray} (h12 : names.length ≤ 12) {l : List Ac} (hn : ∀ x ∈ l, x.drum ∈ names) (hf : actsFault l = 0) (k : Nat) (hk : k ≤ l.length) : LongR (rtoAt l k) := by
  refine ⟨fun e he => ?_, ?_⟩
  · have h1 := (rel_at hf k hk).n e.2.1
    rw [get_of_mem (rtoAt_ok l k).l he] at h1
    exact h1
  · have h1 := nodup_sub_len (keys_nd (rtoAt_ok l k).l) (m := names) (by
      intro x hx
      obtain ⟨e, he, rfl⟩ := List.mem_map.1 hx
      exact rto_names hn k hk e he)
    rw [List.length_map] at h1
    omega
theorem longOk_at {l : List Ac} (hf : actsFault l = 0) (k : Nat) (hk : k ≤ l.length) : LongOk (stoAt l k) := by
  have hr := rel_at hf k hk
  refine ⟨fun e he => ?_, ?_⟩
  · have h1 := get_of_mem (stoAt_ok l k).d he
    rw [hr.d] at h1
    unfold seen at h1
    split at h1
    · rename_i h0
      have h2 := hr.n e.2.1
      simp only [Option.some.injEq] at h1
      rw [← h1]
      exact ⟨h0, h2.2⟩
    · cases h1
  · have h1 := (sto_perm (stoAt_ok l k) (rtoAt_ok l k) hr).length_eq
    have h2 := stL_len (rtoAt l k) (rtoAt l k).l.es
    have h3 := rto_len l k
    have h4 := (actsFault_all hf).1
    rw [List.length_map] at h1
    omega
end Go.Proofs.Ytmpjgbanmdgooaa

/- The least stock: both say the same. -/
namespace Go.Proofs.Ytmpjgbanmdgooaa
set_option linter.unusedVariables false
set_option linter.unusedSimpArgs false
open Abs

abbrev moN (l : List Ac) (k : Nat) : Int := (l.getD k acD).mo
theorem moN_at {l : List Ac} {k : Nat} (h : k < l.length) : moN l k = l[k].mo := by simp [moN, h]
theorem acts_adj : ∀ (l : List Ac) (p : Option Ac), actsErr p l = 0 → ∀ k (h : k + 1 < l.length), l[k].mo ≤ l[k + 1].mo
  | [], _, _, k, h => by simp at h
  | [a], _, _, k, h => by simp at h
  | a :: b :: r, p, he, k, h => by
    unfold actsErr at he
    split at he
    · rename_i h1; exact absurd he h1
    · split at he
      · cases he
      · cases k with
        | zero =>
          unfold actsErr at he
          split at he
          · rename_i h1; exact absurd he h1
          · split at he
            · cases he
            · rename_i h2
              simp only [badPrev, decide_eq_true_eq] at h2
              show a.mo ≤ b.mo
              rcases Int.lt_or_le b.mo a.mo with h3 | h3
              · exfalso
                apply h2
                have h4 : cmpI b.mo a.mo = -1 := by unfold cmpI; rw [if_pos h3]
                unfold timeC firstErr
                rw [h4, if_neg (by decide)]; decide
              · exact h3
        | succ k => exact acts_adj (b :: r) _ he k (by simpa using h)
theorem acts_sorted {l : List Ac} (hf : actsFault l = 0) (i : Nat) : ∀ j, i ≤ j → j < l.length → moN l i ≤ moN l j := by
  have ha : actsErr none l = 0 := by
    have := hf; unfold actsFault at this; split at this
    · cases this
    · exact this
  intro j
  induction j with
  | zero => intro h1 h2; have : i = 0 := by omega
            subst this; exact Int.le_refl _
  | succ j ih =>
    intro h1 h2
    rcases Nat.lt_or_ge i (j + 1) with h3 | h3
    · have h4 := acts_adj l none ha j h2
      have h5 := ih (by omega) (by omega)
      rw [moN_at (show j < l.length by omega)] at h5
      rw [moN_at h2]; omega
    · have : i = j + 1 := by omega
      subst this; exact Int.le_refl _
theorem cnt_iff {l : List Ac} (hf : actsFault l = 0) {k : Nat} (hk : k < l.length) (t : Int) : moN l k ≤ t ↔ k < cntAt l t := by
  constructor
  · intro h
    rcases Nat.lt_or_ge k (cntAt l t) with h1 | h1
    · exact h1
    · exfalso
      have h2 : cntAt l t < l.length := by omega
      have h3 := cntAt_out h2
      have h4 := acts_sorted hf (cntAt l t) k h1 hk
      rw [moN_at h2] at h4
      omega
  · intro h
    rw [moN_at hk]; exact cntAt_in h
abbrev totT (l : List Ac) (kind : ByteArray) (k : Nat) : Int := sumK kind (stoAt l k).d.es
theorem ofR_eq {l : List Ac} (hf : actsFault l = 0) (kind : ByteArray) (t : Int) : ofR l kind t = totT l kind (cntAt l t) :=
  (sum_eq (stoAt_ok l _) (rtoAt_ok l _) (rel_at hf _ (cntAt_le l t)) kind).symm
theorem sumK_put {kind : ByteArray} {c : Nat} {x t : ByteArray} {n : Int} : ∀ {es : List DE}, (∀ e ∈ es, e.2.1 = x → e.2.2.1 ≠ kind) → t ≠ kind → sumK kind (eput c es x (t, n)) = sumK kind es
  | [], _, ht => by simp [eput, sumK, ht]
  | e :: r, h, ht => by
    unfold eput
    split
    · rename_i hx
      simp only [sumK, if_neg ht, if_neg (h e (by simp) hx)]
    · have ih := sumK_put (c := c) (n := n) (es := r) (fun e he => h e (List.mem_cons_of_mem _ he)) ht
      simp only [sumK, ih]
theorem sumK_del {kind : ByteArray} {x : ByteArray} : ∀ {es : List DE}, (∀ e ∈ es, e.2.1 = x → e.2.2.1 ≠ kind) → sumK kind (edel es x) = sumK kind es
  | [], _ => rfl
  | e :: r, h => by
    unfold edel
    split
    · rename_i hx
      simp only [sumK, if_neg (h e (by simp) hx)]; omega
    · have ih := sumK_del (es := r) (fun e he => h e (List.mem_cons_of_mem _ he))
      simp only [sumK, ih]
/-- an act of another type changes nothing of this one -/
theorem tot_other {s : Sto} {r : Rto} (hs : s.ok) (h : Rel s r) (kind : ByteArray) (x : Ac) (hne : ¬ ((takeS s x).2.2 = 0 ∧ (takeS s x).2.1 = kind)) : sumK kind (takeS s x).1.d.es = sumK kind s.d.es := by
  have hnone : (s.k.get x.drum).isSome = false → ∀ e ∈ s.d.es, e.2.1 = x.drum → e.2.2.1 ≠ kind := by
    intro h1 e he hx
    exfalso
    have h2 := get_of_mem hs.d he
    rw [hx, h.d] at h2
    unfold seen at h2
    split at h2
    · rename_i h3
      have := h.h _ h3
      rw [h.k] at h1
      rw [this] at h1; cases h1
    · cases h2
  have hthis : ((s.d.get x.drum).getD (bE, 0)).1 ≠ kind → ∀ e ∈ s.d.es, e.2.1 = x.drum → e.2.2.1 ≠ kind := by
    intro h1 e he hx
    have h2 := get_of_mem hs.d he
    rw [hx] at h2
    rw [h2] at h1
    exact h1
  revert hne
  unfold takeS
  split
  · split
    · intro _; rfl
    · rename_i h1
      have h1 : (s.k.get x.drum).isSome = false := by simpa using h1
      split
      · intro hne; exact sumK_put (hnone h1) (fun e => hne ⟨rfl, e⟩)
      · split
        · intro hne; exact sumK_put (hnone h1) (fun e => hne ⟨rfl, e⟩)
        · intro _; rfl
  · split
    · split
      · intro _; rfl
      · split
        · intro hne; exact sumK_del (hthis (fun e => hne ⟨rfl, e⟩))
        · intro hne; exact sumK_put (hthis (fun e => hne ⟨rfl, e⟩)) (fun e => hne ⟨rfl, e⟩)
    · intro _; rfl
theorem minI_idem (a b : Int) : minI (minI a b) b = minI a b := by unfold minI; repeat' split <;> omega
/-- is the k-th act the last one of its moment? -/
abbrev lastM (l : List Ac) (k : Nat) : Prop := (k : Int) = (l.length : Int) - 1 ∨ moN l k < moN l (k + 1)
theorem last_cnt {l : List Ac} (hf : actsFault l = 0) {k : Nat} (hk : k < l.length) (h : lastM l k) : cntAt l (moN l k) = k + 1 := by
  have h1 := (cnt_iff hf hk (moN l k)).1 (Int.le_refl _)
  have h2 := cntAt_le l (moN l k)
  rcases Nat.lt_or_ge (k + 1) l.length with h3 | h3
  · have h4 := cnt_iff hf h3 (moN l k)
    rcases h with h | h
    · omega
    · have : ¬ k + 1 < cntAt l (moN l k) := fun e => by have := h4.2 e; omega
      omega
  · omega
/-- what both have behind some acts -/
theorem low_inv {l : List Ac} (hf : actsFault l = 0) (kind : ByteArray) (w : Wi) (hw : w.1 < w.2) : ∀ k, k ≤ l.length →
    (lowAt l kind w k).now = totT l kind (min k (cntAt l (w.2 - 1))) ∧ (lowAt l kind w k).begun = decide (cntAt l w.1 < k) ∧
    ((lowAt l kind w k).begun = false → leastR l kind w k = totT l kind (cntAt l w.1)) ∧
    ((lowAt l kind w k).begun = true → (cntAt l (w.2 - 1) < k ∨ lastM l (k - 1) → leastR l kind w k = (lowAt l kind w k).least) ∧ (¬ (cntAt l (w.2 - 1) < k ∨ lastM l (k - 1)) → leastR l kind w k = minI (lowAt l kind w k).least (totT l kind (cntAt l (moN l (k - 1))))))
  | 0, _ => by
    refine ⟨by simp [lowAt, totT, stoAt, stoNil, SM.nil, sumK], by simp [lowAt], fun _ => ofR_eq hf kind w.1, fun h => by simp [lowAt] at h⟩
  | k + 1, hk => by
    obtain ⟨i1, i2, i3, i4⟩ := low_inv hf kind w hw k (by omega)
    have hkl : k < l.length := by omega
    have hgd : l.getD k acD = l[k] := by simp [hkl]
    have hx := (actsFault_all hf).2 _ (List.getElem_mem hkl)
    have hF := cnt_iff hf hkl w.1
    have hE := cnt_iff hf hkl (w.2 - 1)
    have hFE : cntAt l w.1 ≤ cntAt l (w.2 - 1) := by
      rcases Nat.lt_or_ge (cntAt l (w.2 - 1)) (cntAt l w.1) with h | h
      · exfalso
        have h1 : cntAt l (w.2 - 1) < l.length := Nat.lt_of_lt_of_le h (cntAt_le l w.1)
        have h2 := cntAt_out h1
        have h3 := cntAt_in h
        omega
      · exact h
    have htk : ¬ ((takeS (stoAt l k) (l.getD k acD)).2.2 = 0 ∧ (takeS (stoAt l k) (l.getD k acD)).2.1 = kind) → totT l kind (k + 1) = totT l kind k := fun hne =>
      tot_other (stoAt_ok l k) (rel_at hf k (by omega)) kind (l.getD k acD) hne
    have hG : leastR l kind w (k + 1) = if w.1 < moN l k ∧ moN l k < w.2 then minI (leastR l kind w k) (totT l kind (cntAt l (moN l k))) else leastR l kind w k := by
      rw [leastR, ofR_eq hf]
    rw [lowAt]
    unfold lowStep
    generalize hq : lowAt l kind w k = q at *
    obtain ⟨now, least, begun⟩ := q
    simp only at i1 i2 i3 i4 ⊢
    have hmo : (l.getD k ⟨0, 0, bE, bE, bE, 0⟩).mo = moN l k := rfl
    have hmo1 : (l.getD (k + 1) ⟨0, 0, bE, bE, bE, 0⟩).mo = moN l (k + 1) := rfl
    rw [hmo, hmo1]
    generalize hte : (takeS (stoAt l k) (l.getD k acD)).2.2 = te at *
    generalize hto : (takeS (stoAt l k) (l.getD k acD)).2.1 = to at *
    have hnow : ∀ (q1 : Lo), q1.now = totT l kind k → (if te = 0 ∧ to = kind then (⟨totT l kind (k + 1), q1.least, q1.begun⟩ : Lo) else q1) = ⟨totT l kind (k + 1), q1.least, q1.begun⟩ := by
      intro q1 h1
      split
      · rfl
      · rename_i hne
        rw [htk hne, ← h1]
    by_cases hkF : k < cntAt l w.1
    · -- before the window
      have h1 : moN l k ≤ w.1 := hF.2 hkF
      have hb : begun = false := by rw [i2]; exact decide_eq_false (by omega)
      subst hb
      have hq1 : (if w.1 < moN l k ∧ false = false then (⟨now, now, true⟩ : Lo) else ⟨now, least, false⟩) = ⟨now, least, false⟩ := if_neg (fun h => by omega)
      rw [hq1, if_neg (by omega), hnow _ (by rw [i1, Nat.min_eq_left (by omega)])]
      simp only [Bool.false_eq_true, false_and, if_false]
      refine ⟨by rw [Nat.min_eq_left (by omega)], (decide_eq_false (by omega)).symm, fun _ => ?_, fun h => by cases h⟩
      rw [hG, if_neg (by omega)]; exact i3 rfl
    · have h1 : w.1 < moN l k := by
        rcases Int.lt_or_le w.1 (moN l k) with h | h
        · exact h
        · exact absurd (hF.1 h) hkF
      have hbeg : (if w.1 < moN l k ∧ begun = false then (⟨now, now, true⟩ : Lo) else ⟨now, least, begun⟩) = ⟨now, if begun = true then least else now, true⟩ := by
        cases begun <;> simp [h1]
      rw [hbeg]
      by_cases hkE : k < cntAt l (w.2 - 1)
      · -- in the window
        have h2 : moN l k < w.2 := by have := hE.2 hkE; omega
        have hk0 : now = totT l kind k := by rw [i1, Nat.min_eq_left (by omega)]
        rw [if_neg (by omega), hnow _ hk0]
        have hG' : leastR l kind w (k + 1) = minI (leastR l kind w k) (totT l kind (cntAt l (moN l k))) := by rw [hG, if_pos ⟨h1, h2⟩]
        generalize hL : (if begun = true then least else now) = L
        -- what is known of the least so far
        have hGL : leastR l kind w k = L ∨ leastR l kind w k = minI L (totT l kind (cntAt l (moN l k))) := by
          cases hb : begun with
          | false =>
            left
            rw [hb] at hL i2
            have hkeq : k = cntAt l w.1 := by have := of_decide_eq_false i2.symm; omega
            rw [i3 hb, ← hL, hk0]
            simp only [Bool.false_eq_true, if_false]
            rw [← hkeq]
          | true =>
            rw [hb] at hL i2
            simp only [if_true] at hL
            subst hL
            have hFk : cntAt l w.1 < k := of_decide_eq_true i2.symm
            by_cases hl : lastM l (k - 1)
            · exact .inl ((i4 hb).1 (.inr hl))
            · right
              have h4 := (i4 hb).2 (by intro h; rcases h with h | h; omega; exact hl h)
              have h5 := acts_sorted hf (k - 1) k (by omega) hkl
              have h6 : moN l (k - 1) = moN l k := by
                have : ¬ moN l (k - 1) < moN l (k - 1 + 1) := fun h => hl (.inr h)
                rw [show k - 1 + 1 = k by omega] at this
                omega
              rw [h4, h6]
        have hG2 : leastR l kind w (k + 1) = minI L (totT l kind (cntAt l (moN l k))) := by
          rcases hGL with h | h
          · rw [hG', h]
          · rw [hG', h, minI_idem]
        by_cases hl : lastM l k
        · rw [if_pos ⟨rfl, hl⟩]
          refine ⟨by rw [Nat.min_eq_left (by omega)], (decide_eq_true (by omega)).symm, fun h => by (exact absurd h (by simp)), fun _ => ⟨fun _ => ?_, fun h => absurd (.inr hl) h⟩⟩
          rw [hG2, last_cnt hf hkl hl]; rfl
        · rw [if_neg (fun h => hl h.2)]
          refine ⟨by rw [Nat.min_eq_left (by omega)], (decide_eq_true (by omega)).symm, fun h => by (exact absurd h (by simp)), fun _ => ⟨fun h => ?_, fun _ => hG2⟩⟩
          rcases h with h | h
          · omega
          · exact absurd h hl
      · -- behind the window
        have h2 : w.2 ≤ moN l k := by
          rcases Int.lt_or_le (moN l k) w.2 with h | h
          · exact absurd (hE.1 (by omega)) hkE
          · exact h
        rw [if_pos h2]
        have hG' : leastR l kind w (k + 1) = leastR l kind w k := by rw [hG, if_neg (by omega)]
        refine ⟨by rw [i1, Nat.min_eq_right (by omega), Nat.min_eq_right (by omega)], (decide_eq_true (by omega)).symm, fun h => by (exact absurd h (by simp)), fun _ => ⟨fun _ => ?_, fun h => absurd (.inl (by omega)) h⟩⟩
        rw [hG']
        cases hb : begun with
        | false =>
          rw [hb] at i2
          have hkeq : k ≤ cntAt l w.1 := by have := of_decide_eq_false i2.symm; omega
          rw [i3 hb]
          simp only [Bool.false_eq_true, if_false]
          rw [i1]; congr 1; omega
        | true =>
          rw [hb] at i2
          have hFk : cntAt l w.1 < k := of_decide_eq_true i2.symm
          simp only [if_true]
          refine (i4 hb).1 ?_
          rcases Nat.lt_or_ge (cntAt l (w.2 - 1)) k with h3 | h3
          · exact .inl h3
          · right; right
            have h4 := (cnt_iff hf (show k - 1 < l.length by omega) (w.2 - 1)).2 (by omega)
            rw [show k - 1 + 1 = k by omega]
            omega
theorem low_eq {l : List Ac} (hf : actsFault l = 0) (kind : ByteArray) (w : Wi) (hw : w.1 < w.2) : lowRes l kind w = leastR l kind w l.length := by
  obtain ⟨i1, i2, i3, i4⟩ := low_inv hf kind w hw l.length (Nat.le_refl _)
  have c1 := cntAt_le l w.1
  have c2 := cntAt_le l (w.2 - 1)
  unfold lowRes
  cases hb : (lowAt l kind w l.length).begun with
  | false =>
    rw [hb] at i2
    have h1 : l.length ≤ cntAt l w.1 := by have := of_decide_eq_false i2.symm; omega
    have hFE : cntAt l w.1 ≤ cntAt l (w.2 - 1) := by
      rcases Nat.lt_or_ge (cntAt l (w.2 - 1)) (cntAt l w.1) with h | h
      · exfalso
        have h1 : cntAt l (w.2 - 1) < l.length := Nat.lt_of_lt_of_le h (cntAt_le l w.1)
        have h2 := cntAt_out h1
        have h3 := cntAt_in h
        omega
      · exact h
    simp only [Bool.false_eq_true, if_false]
    rw [i1, i3 hb, Nat.min_eq_left (by omega)]; congr 1; omega
  | true =>
    rw [hb] at i2
    have h1 : cntAt l w.1 < l.length := of_decide_eq_true i2.symm
    simp only [if_true]
    exact ((i4 hb).1 (.inr (.inl (by omega)))).symm
end Go.Proofs.Ytmpjgbanmdgooaa

/- The law MetresUsed, by the abstract walk. -/
namespace Go.Proofs.Ytmpjgbanmdgooaa
set_option linter.unusedVariables false
set_option linter.unusedSimpArgs false
open Abs

theorem winErr_acts {l : List Ac} {kind : ByteArray} {w : Wi} (h : winErr l kind w = 0) : actsFault l = 0 ∧ winB w = true := by
  unfold winErr at h
  split at h
  · rename_i h1; exact absurd h h1
  · split at h
    · cases h
    · split at h
      · cases h
      · rename_i h1 h2 h3
        exact ⟨by simpa using h1, by simpa using h3⟩
theorem one_err (l : List Ac) (kind : ByteArray) (w : Wi) : firstErr [firstErr [actsFault l, if keyB kind then 0 else 5], if winB w = true ∧ w.1 + 0 ≤ w.2 then 0 else 1] = winErr l kind w := by
  unfold winErr
  have hw : (winB w = true ∧ w.1 + 0 ≤ w.2) ↔ winB w = true := by
    constructor
    · exact fun h => h.1
    · intro h; have := of_decide_eq_true h; exact ⟨h, by omega⟩
  simp only [hw, firstErr]
  by_cases h1 : actsFault l = 0 <;> by_cases h2 : keyB kind = true <;> by_cases h3 : winB w = true <;> simp [h1, h2, h3]
theorem two_err (l : List Ac) (kind : ByteArray) (w : Wi) : firstErr [firstErr [actsFault l, if keyB kind then 0 else 5], if winB w = true ∧ w.1 + 1 ≤ w.2 then 0 else 1] = lowErr l kind w := by
  unfold lowErr winErr
  have hw : winB w = true → w.1 ≤ w.2 := fun h => (of_decide_eq_true h).2.1
  simp only [firstErr]
  by_cases h1 : actsFault l = 0
  · by_cases h2 : keyB kind = true
    · by_cases h3 : winB w = true
      · have := hw h3
        by_cases h4 : w.1 = w.2
        · simp [h1, h2, h3, h4]; omega
        · have h5 : w.1 + 1 ≤ w.2 := by omega
          simp [h1, h2, h3, h4, h5]
      · simp [h1, h2, h3]
    · simp [h1, h2]
  · simp [h1]
set_option maxRecDepth 100000 in
set_option maxHeartbeats 4000000 in
theorem metresUsed_pc (L : List Int) (hL : L.length ≤ 9223372036854775807) : PCp 5 [.c (.lst 1 (L.map encI))] [] (.c (.bool true)) [] := by
  have st0 : StOk L 0 := ⟨hL, by omega, by omega⟩
  have hr := rangeV_in L 0 0 14 (by omega)
  obtain ⟨n, hn⟩ := Int.eq_ofNat_of_zero_le hr.1
  refine fn_sound (mt := mts) tab_fits tab_mixed Try.func5 (by rfl) (by kernel_rfl) (by kernel_rfl) Try.results5 (Nat.le_of_ble_eq_true (by kernel_rfl)) ?_
  conv => whnf
  repeat' (first
    | (refine Split.mk (fun h => ?_) (fun h => ?_) <;> (try simp only [decide_eq_true_eq, decide_eq_false_iff_not, Bool.not_eq_true', Bool.not_eq_false', beq_iff_eq, beq_eq_false_iff_ne, bne_iff_ne, bne_eq_false_iff_eq] at h) <;> (first | (exfalso; first | omega | exact h trivial) | (conv => whnf)))
    | (refine CondG.mk (fun h => ?_) (fun h => ?_) <;> (try simp only [decide_eq_true_eq, decide_eq_false_iff_not, Bool.not_eq_true', Bool.not_eq_false', beq_iff_eq, beq_eq_false_iff_ne, bne_iff_ne, bne_eq_false_iff_eq] at h) <;> (first | (exfalso; first | omega | exact h trivial) | (conv => whnf)))
    | (refine CallX.mk _ _ (by first | exact range_ok st0 0 14 (by omega) (small_lit (by decide)) (small_lit (by decide))) ?_; conv => whnf)
    | (refine CallG.mk _ _ (by first | exact range_ok st0 0 14 (by omega) (small_lit (by decide)) (small_lit (by decide))) ?_; conv => whnf)
    | (refine Ask.mk (by first | omega | (unfold roomOK; simp [cutRows]; done) | (unfold roomOK; simp [cutRows]; omega)) ?_; conv => whnf)
    | (refine SliceG.fr ?_; conv => whnf)
    | (refine idx_at _ (by with_reducible rfl) (by first | assumption | omega) ?_; conv => whnf)
    | fail)
  rw [hn]
  refine .ex _ (acts_pc (L := L) (p := 0 + 1) ⟨hL, by omega, by omega⟩ (by omega) n (by omega)) ?_
  rintro _ _ ⟨l, p, rfl, rfl, h1, h2, h3, h4⟩
  have hS : ∀ x : Int, p ≤ x → x ≤ p + 5 → StOk L x := fun x g1 g2 => ⟨hL, by omega, by omega⟩
  conv => whnf
  repeat' (first
    | (refine Split.mk (fun h => ?_) (fun h => ?_) <;> (try simp only [decide_eq_true_eq, decide_eq_false_iff_not, Bool.not_eq_true', Bool.not_eq_false', beq_iff_eq, beq_eq_false_iff_ne, bne_iff_ne, bne_eq_false_iff_eq] at h) <;> (first | (exfalso; first | omega | exact h trivial) | (conv => whnf)))
    | (refine CondG.mk (fun h => ?_) (fun h => ?_) <;> (try simp only [decide_eq_true_eq, decide_eq_false_iff_not, Bool.not_eq_true', Bool.not_eq_false', beq_iff_eq, beq_eq_false_iff_ne, bne_iff_ne, bne_eq_false_iff_eq] at h) <;> (first | (exfalso; first | omega | exact h trivial) | (conv => whnf)))
    | (refine CallX.mk _ _ (by first | exact some_ok (hS _ (by omega) (by omega)) [⟨#[116]⟩, ⟨#[116]⟩, ⟨#[117]⟩, ⟨#[122, 122]⟩, ⟨#[65]⟩] (by decide) (by decide) | exact pick_ok (hS _ (by omega) (by omega)) [0, 2, 5, 10, -1] (by decide) (by decide) | exact pick_ok (hS _ (by omega) (by omega)) [10, 20, 50, 5, 0, 345686400000, 345686400001] (by decide) (by decide)) ?_; conv => whnf)
    | (refine CallG.mk _ _ (by first | exact some_ok (hS _ (by omega) (by omega)) [⟨#[116]⟩, ⟨#[116]⟩, ⟨#[117]⟩, ⟨#[122, 122]⟩, ⟨#[65]⟩] (by decide) (by decide) | exact pick_ok (hS _ (by omega) (by omega)) [0, 2, 5, 10, -1] (by decide) (by decide) | exact pick_ok (hS _ (by omega) (by omega)) [10, 20, 50, 5, 0, 345686400000, 345686400001] (by decide) (by decide)) ?_; conv => whnf)
    | (refine Ask.mk (by first | omega | (unfold roomOK; simp [cutRows]; done) | (unfold roomOK; simp [cutRows]; omega)) ?_; conv => whnf)
    | (refine SliceG.fr ?_; conv => whnf)
    | (refine idx_at _ (by with_reducible rfl) (by first | assumption | omega) ?_; conv => whnf)
    | fail)
  generalize someV L p [⟨#[116]⟩, ⟨#[116]⟩, ⟨#[117]⟩, ⟨#[122, 122]⟩, ⟨#[65]⟩] = kind
  generalize pickV L (p + 1) [0, 2, 5, 10, -1] = wf
  generalize pickV L (p + 1 + 1) [10, 20, 50, 5, 0, 345686400000, 345686400001] = wt
  have e1 := one_err l kind (wf, wt)
  have e2 := two_err l kind (wf, wt)
  have c1 := dUsed_pc l (by omega) kind (wf, wt)
  have c2 := dLowest_pc l kind (wf, wt) (by omega) (fun h k hk => longOk_at (winErr_acts h).1 k hk)
  have c3 := errs_pc [actsFault l, if keyB kind then 0 else 5] (by simp)
  have c4 := rWinFault_pc (wf, wt) 0 (by omega) (fun _ => trivial)
  have c5 := rWinFault_pc (wf, wt) 1 (by omega) (fun _ => trivial)
  have c6 := errs_pc [firstErr [actsFault l, if keyB kind then 0 else 5], if winB (wf, wt) = true ∧ (wf, wt).1 + 0 ≤ (wf, wt).2 then 0 else 1] (by simp)
  have c7 := errs_pc [firstErr [actsFault l, if keyB kind then 0 else 5], if winB (wf, wt) = true ∧ (wf, wt).1 + 1 ≤ (wf, wt).2 then 0 else 1] (by simp)
  rw [e1] at c6
  rw [e2] at c7
  have c8 := usedOf_pc l (by omega) kind (wf, wt)
  have c9 : winErr l kind (wf, wt) = 0 → _ := fun h => lowestOf_pc l (by omega) (fun k hk => longR_at (names := names6) (by decide) h4 (winErr_acts h).1 k hk) kind (wf, wt)
  have hlow : lowErr l kind (wf, wt) = 0 → winErr l kind (wf, wt) = 0 ∧ wf ≠ wt := by
    intro h
    unfold lowErr at h
    split at h
    · cases h
    · rename_i h5; exact ⟨h, fun e => h5 ⟨h, e⟩⟩
  have u1 : winErr l kind (wf, wt) = 0 → usedV l kind (wf, wt) = usedR l kind (wf, wt) l.length := fun h => by
    rw [usedV, if_pos h]; exact (used_eq (winErr_acts h).1 kind (wf, wt) l.length (Nat.le_refl _)).1
  have u2 : winErr l kind (wf, wt) ≠ 0 → usedV l kind (wf, wt) = 0 := fun h => by rw [usedV, if_neg h]
  have u3 : lowErr l kind (wf, wt) = 0 → lowV l kind (wf, wt) = leastR l kind (wf, wt) l.length := fun h => by
    obtain ⟨g1, g2⟩ := hlow h
    have g3 := (of_decide_eq_true (winErr_acts g1).2).2.1
    rw [lowV, if_pos h]
    exact low_eq (winErr_acts g1).1 kind (wf, wt) (by simp only at g3 ⊢; omega)
  have u4 : lowErr l kind (wf, wt) ≠ 0 → lowV l kind (wf, wt) = 0 := fun h => by rw [lowV, if_neg h]
  repeat' (first
    | (refine Split.mk (fun h => ?_) (fun h => ?_) <;> (try simp only [decide_eq_true_eq, decide_eq_false_iff_not, Bool.not_eq_true', Bool.not_eq_false', beq_iff_eq, beq_eq_false_iff_ne, bne_iff_ne, bne_eq_false_iff_eq] at h) <;> (first | (exfalso; first | omega | exact h trivial) | (conv => whnf)))
    | (refine CondG.mk (fun h => ?_) (fun h => ?_) <;> (try simp only [decide_eq_true_eq, decide_eq_false_iff_not, Bool.not_eq_true', Bool.not_eq_false', beq_iff_eq, beq_eq_false_iff_ne, bne_iff_ne, bne_eq_false_iff_eq] at h) <;> (first | (exfalso; first | omega | exact h trivial) | (conv => whnf)))
    | (refine CallX.mk _ _ (by first | exact c1 | exact c2 | exact rActs_pc l | exact nameFault_pc kind | exact c3 | exact c4 | exact c5 | exact c6 | exact c7 | exact c8 | exact c9 (hlow (by assumption)).1 | exact stored_pc) ?_; conv => whnf)
    | (refine CallG.mk _ _ (by first | exact c1 | exact c2 | exact rActs_pc l | exact nameFault_pc kind | exact c3 | exact c4 | exact c5 | exact c6 | exact c7 | exact c8 | exact c9 (hlow (by assumption)).1 | exact stored_pc) ?_; conv => whnf)
    | (refine Ask.mk (by first | omega | (unfold roomOK; simp [cutRows]; done) | (unfold roomOK; simp [cutRows]; omega)) ?_; conv => whnf)
    | (refine SliceG.fr ?_; conv => whnf)
    | (refine idx_at _ (by with_reducible rfl) (by first | assumption | omega) ?_; conv => whnf)
    | fail)
  all_goals exact finb rfl
end Go.Proofs.Ytmpjgbanmdgooaa
