/- Parts of the proof, in order. -/
import Derived.Test.YtameoookmgkmfaaGreatMSuspectsFound2

/- Plain: the best sets of the document and of the program are one. -/
namespace Go.Proofs.YtameoookmgkmfaaGreat
set_option linter.unusedVariables false
set_option linter.unusedSimpArgs false
open Abs

/-! from the begin on -/
def pickF : List ByteArray → Nat → List ByteArray
  | [], _ => []
  | x :: r, m => if m.testBit 0 then x :: pickF r (m / 2) else pickF r (m / 2)
theorem setL_cons (x : ByteArray) (r : List ByteArray) (m : Nat) : ∀ k, setL (x :: r) m (k + 1) = (if m.testBit 0 then [x] else []) ++ setL r (m / 2) k
  | 0 => by simp [setL]
  | k + 1 => by
    have ih := setL_cons x r m k
    rw [setL, ih, setL, Nat.testBit_succ, show (x :: r).getD (k + 1) ⟨#[]⟩ = r.getD k ⟨#[]⟩ by simp]
    by_cases h : (m / 2).testBit k = true
    · rw [if_pos h, if_pos h, List.append_assoc]
    · rw [if_neg h, if_neg h]
theorem pickM_F : ∀ (l : List ByteArray) (m : Nat), pickM l m = pickF l m
  | [], m => rfl
  | x :: r, m => by
    have ih := pickM_F r (m / 2)
    unfold pickM at ih ⊢
    rw [List.length_cons, setL_cons, ih, pickF]
    split <;> simp
theorem pickF_len : ∀ (l : List ByteArray) (m : Nat), (pickF l m).length = popF l.length m
  | [], m => rfl
  | x :: r, m => by
    have ih := pickF_len r (m / 2)
    have hb : m.testBit 0 = decide (m % 2 = 1) := Nat.testBit_zero ..
    rw [pickF, List.length_cons, popF, hb]
    by_cases h : m % 2 = 1
    · rw [if_pos (by simpa using h), List.length_cons, ih]; omega
    · rw [if_neg (by simpa using h), ih]; omega
theorem popF_zero : ∀ n, popF n 0 = 0
  | 0 => rfl
  | n + 1 => by rw [popF, popF_zero n]
theorem popF_ext : ∀ (n k m : Nat), n ≤ k → m < 2 ^ n → popF k m = popF n m
  | 0, k, m, _, h => by
    have : m = 0 := by simp at h; omega
    rw [this, popF_zero, popF_zero]
  | n + 1, 0, m, h, _ => by omega
  | n + 1, k + 1, m, h, hm => by
    rw [popF, popF, popF_ext n k (m / 2) (by omega) (by rw [Nat.pow_succ] at hm; omega)]
theorem popc_len {l : List ByteArray} (h : l.length ≤ 14) {m : Nat} (hm : m < 2 ^ l.length) : (pickM l m).length = popc m := by
  rw [pickM_F, pickF_len]; exact (popF_ext l.length 14 m h hm).symm
/-! the order of the sets -/
def cmpT (a b : ByteArray) : Int := if ltB a b then -1 else if ltB b a then 1 else 0
theorem cmpT_lt {a b : ByteArray} : cmpT a b < 0 ↔ ltB a b = true := by
  unfold cmpT
  by_cases h : ltB a b = true
  · simp [h]
  · rw [if_neg h]
    constructor
    · intro q; split at q <;> omega
    · intro q; exact (h q).elim
theorem cmpT_anti (a b : ByteArray) : cmpT b a = - cmpT a b := by
  unfold cmpT
  by_cases h1 : ltB a b = true
  · have h2 : ltB b a = false := by
      cases h : ltB b a with
      | false => rfl
      | true => have := ltB_trans h1 h; rw [ltB_irr] at this; cases this
    simp [h1, h2]
  · by_cases h2 : ltB b a = true <;> simp [h1, h2]
theorem cmpT_zero {a b : ByteArray} : cmpT a b = 0 ↔ a = b := by
  constructor
  · intro h
    rcases ltB_tri a b with h1 | h1 | h1
    · have := cmpT_lt.2 h1; omega
    · exact h1
    · have := cmpT_lt.2 h1; have := cmpT_anti a b; omega
  · rintro rfl
    unfold cmpT; simp [ltB_irr]
theorem cmpT_cmp : Cmp cmpT where
  anti := cmpT_anti
  trans a b d h1 h2 := by
    have key : ∀ x y : ByteArray, cmpT x y ≤ 0 ↔ (ltB x y = true ∨ x = y) := fun x y => by rw [← cmpT_lt, ← cmpT_zero]; omega
    rw [key] at h1 h2 ⊢
    rcases h1 with h1 | h1
    · rcases h2 with h2 | h2
      · exact .inl (ltB_trans h1 h2)
      · rw [← h2]; exact .inl h1
    · rw [h1]; exact h2
def cmpSL : List ByteArray → List ByteArray → Int
  | [], [] => 0
  | [], _ :: _ => -1
  | _ :: _, [] => 1
  | a :: r, b :: t => if cmpT a b = 0 then cmpSL r t else cmpT a b
theorem cmpSL_anti : ∀ a b : List ByteArray, cmpSL b a = - cmpSL a b
  | [], [] => rfl
  | [], _ :: _ => rfl
  | _ :: _, [] => rfl
  | a :: r, b :: t => by
    have ih := cmpSL_anti r t
    have h := cmpT_anti a b
    rw [cmpSL, cmpSL]
    split <;> split <;> omega
theorem cmpSL_zero : ∀ {a b : List ByteArray}, cmpSL a b = 0 → a = b
  | [], [], _ => rfl
  | [], _ :: _, h => by simp [cmpSL] at h
  | _ :: _, [], h => by simp [cmpSL] at h
  | a :: r, b :: t, h => by
    rw [cmpSL] at h
    split at h
    · rename_i q
      rw [cmpT_zero.1 q, cmpSL_zero h]
    · rename_i q; exact (q h).elim
theorem cmpSL_trans : ∀ a b d : List ByteArray, cmpSL a b ≤ 0 → cmpSL b d ≤ 0 → cmpSL a d ≤ 0
  | [], _, [], _, _ => by simp [cmpSL]
  | [], _, _ :: _, _, _ => by simp [cmpSL]
  | _ :: _, [], _, h, _ => by simp [cmpSL] at h
  | _ :: _, _ :: _, [], _, h => by simp [cmpSL] at h
  | a :: r, b :: t, d :: u, g1, g2 => by
    have ih := cmpSL_trans r t u
    have a1 := cmpT_anti a b
    have a2 := cmpT_anti b d
    have a3 := cmpT_anti a d
    rw [cmpSL] at g1 g2 ⊢
    by_cases e1 : cmpT a b = 0
    · rw [if_pos e1] at g1
      by_cases e2 : cmpT b d = 0
      · rw [if_pos e2] at g2
        have t1 := cmpT_cmp.trans a b d (by omega) (by omega)
        have t2 := cmpT_cmp.trans d b a (by omega) (by omega)
        rw [if_pos (by omega)]
        exact ih g1 g2
      · rw [if_neg e2] at g2
        have := cmpT_cmp.lt (a := a) (b := b) (d := d) (by omega) (by omega) (.inr (by omega))
        rw [if_neg (by omega)]; omega
    · rw [if_neg e1] at g1
      have t0 : cmpT b d ≤ 0 := by
        by_cases e2 : cmpT b d = 0
        · omega
        · rw [if_neg e2] at g2; exact g2
      have := cmpT_cmp.lt (a := a) (b := b) (d := d) (by omega) t0 (.inl (by omega))
      rw [if_neg (by omega)]; omega
theorem cmpSL_cmp : Cmp cmpSL := ⟨cmpSL_anti, cmpSL_trans⟩
theorem pickF_mem : ∀ (l : List ByteArray) (m : Nat) {x : ByteArray}, x ∈ pickF l m → x ∈ l
  | [], _, _, h => by simp [pickF] at h
  | a :: r, m, x, h => by
    rw [pickF] at h
    split at h
    · rcases List.mem_cons.1 h with e | h
      · simp [e]
      · have := pickF_mem r (m / 2) h; simp [this]
    · have := pickF_mem r (m / 2) h; simp [this]
theorem pick_low : ∀ (l : List ByteArray) (a b : Nat), Rise id l → (∃ i, i < l.length ∧ a.testBit i = true ∧ b.testBit i = false ∧ ∀ j, j < i → a.testBit j = b.testBit j) → (pickF l a).length = (pickF l b).length → cmpSL (pickF l a) (pickF l b) < 0
  | [], a, b, _, ⟨i, h, _⟩, _ => by simp at h
  | x :: r, a, b, hr, ⟨i, hi, h1, h2, h3⟩, hl => by
    have hr' : Rise id r := (List.pairwise_cons.1 hr).2
    have hx : ∀ y ∈ r, ltB x y = true := fun y hy => (List.pairwise_cons.1 hr).1 y hy
    cases i with
    | zero =>
      rw [pickF, pickF, if_pos h1, if_neg (by rw [h2]; decide)] at hl ⊢
      cases hq : pickF r (b / 2) with
      | nil => rw [hq] at hl; simp at hl
      | cons y t =>
        have hy := hx y (pickF_mem r (b / 2) (by rw [hq]; simp))
        have hc := cmpT_lt.2 hy
        rw [cmpSL, if_neg (by omega)]; exact hc
    | succ i =>
      have h0 := h3 0 (by omega)
      have ih := pick_low r (a / 2) (b / 2) hr' ⟨i, by simpa using hi, by rw [← Nat.testBit_succ]; exact h1, by rw [← Nat.testBit_succ]; exact h2, fun j hj => by rw [← Nat.testBit_succ, ← Nat.testBit_succ]; exact h3 (j + 1) (by omega)⟩
      rw [pickF, pickF, ← h0] at hl ⊢
      by_cases q : a.testBit 0 = true
      · rw [if_pos q, if_pos q] at hl ⊢
        rw [cmpSL, if_pos (cmpT_zero.2 rfl)]
        exact ih (by simpa using hl)
      · rw [if_neg q, if_neg q] at hl ⊢
        exact ih hl
/-- one order is the other -/
theorem low_cmp {l : List ByteArray} (hr : Rise id l) (h14 : l.length ≤ 14) {a b : Nat} (ha : a < 2 ^ l.length) (hb : b < 2 ^ l.length) (hp : popc a = popc b) (h : LowLt a b) : cmpSL (pickM l a) (pickM l b) < 0 := by
  have hl : (pickM l a).length = (pickM l b).length := by rw [popc_len h14 ha, popc_len h14 hb, hp]
  rw [pickM_F, pickM_F] at hl ⊢
  obtain ⟨i, h1, h2, h3⟩ := h
  refine pick_low l a b hr ⟨i, ?_, h1, h2, h3⟩ hl
  rcases Nat.lt_or_ge i l.length with q | q
  · exact q
  · have : a.testBit i = false := Nat.testBit_lt_two_pow (Nat.lt_of_lt_of_le ha (Nat.pow_le_pow_right (by decide) q))
    rw [this] at h1; cases h1
/-! the best ones, told anew -/
def bestD (g : Nat → Bool) (n : Nat) : Nat → List Nat × Nat
  | 0 => ([], n + 1)
  | k + 1 => if (bestD g n k).2 < popc k then bestD g n k else if !g k then bestD g n k else if popc k < (bestD g n k).2 then ([k], popc k) else ((bestD g n k).1 ++ [k], (bestD g n k).2)
theorem bestD_inv (g : Nat → Bool) (n : Nat) : ∀ k, (∀ x ∈ (bestD g n k).1, x < k ∧ popc x = (bestD g n k).2) ∧ ((bestD g n k).1 = [] → (bestD g n k).2 = n + 1) ∧ (bestD g n k).1.length ≤ k ∧ (bestD g n k).2 ≤ n + 1
  | 0 => by simp [bestD]
  | k + 1 => by
    obtain ⟨h1, h2, h3, h4⟩ := bestD_inv g n k
    rw [bestD]
    split
    · exact ⟨fun x hx => ⟨by have := (h1 x hx).1; omega, (h1 x hx).2⟩, h2, by omega, h4⟩
    · split
      · exact ⟨fun x hx => ⟨by have := (h1 x hx).1; omega, (h1 x hx).2⟩, h2, by omega, h4⟩
      · split
        · refine ⟨fun x hx => ?_, by simp, by simp, by simp only; omega⟩
          rw [List.mem_singleton] at hx; subst hx; exact ⟨by omega, rfl⟩
        · refine ⟨fun x hx => ?_, by simp, by simp; omega, h4⟩
          rcases List.mem_append.1 hx with hx | hx
          · exact ⟨by have := (h1 x hx).1; omega, (h1 x hx).2⟩
          · rw [List.mem_singleton] at hx; subst hx; exact ⟨by omega, by simp only; omega⟩
theorem bestD_eq {ns : List Nat} {g : Nat → Bool} {n : Nat} (hn : n ≤ 14) (hg : ∀ m, m < 2 ^ n → g m = goodM ns m) : ∀ k, k ≤ 2 ^ n → (bestD g n k).1 = bestK ns k
  | 0, _ => rfl
  | k + 1, hk => by
    have ih := bestD_eq hn hg k (by omega)
    obtain ⟨h1, h2, _, _⟩ := bestD_inv g n k
    have hpk : popc k ≤ n := by
      have h : popc k = popF n k := popF_ext n 14 k hn (by omega)
      rw [h]; exact popF_le n k
    rw [bestD, bestK, hg k (by omega), ← ih]
    cases hgk : goodM ns k with
    | false =>
      simp only [Bool.not_false, if_true, ite_self]
      rfl
    | true =>
      simp only [Bool.not_true, Bool.false_eq_true, if_false, if_true]
      cases hb : (bestD g n k).1 with
      | nil =>
        have := h2 hb
        rw [if_neg (by omega), if_pos (by omega)]; rfl
      | cons x r =>
        have hx := (h1 x (by rw [hb]; simp)).2
        unfold beforeB
        simp only
        by_cases q : popc k < popc x
        · rw [if_neg (by omega), if_pos (by omega), if_pos q]; rfl
        · rw [if_neg q]
          unfold withB
          simp only
          by_cases q2 : popc k = popc x
          · rw [if_neg (by omega), if_neg (by omega), if_pos q2]
          · rw [if_pos (by omega), if_neg q2, hb]
/-- which sets explain what is down, by the document -/
def gD (s : List Sv) (l nots down : List ByteArray) (m : Nat) : Bool := !(down.any fun k => !decide (k ∈ nots) && !needB s (pickM l m) k)
theorem and_ne {n m : Nat} : n &&& m ≠ 0 ↔ ∃ j, n.testBit j = true ∧ m.testBit j = true := by
  constructor
  · intro h
    obtain ⟨j, hj⟩ := Nat.exists_testBit_of_ne_zero h
    rw [Nat.testBit_and, Bool.and_eq_true] at hj
    exact ⟨j, hj⟩
  · rintro ⟨j, h1, h2⟩ h
    have := congrArg (fun q : Nat => q.testBit j) h
    simp [Nat.testBit_and, h1, h2] at this
theorem needO_test (s : List Sv) (l : List ByteArray) (k : ByteArray) (j : Nat) : (needO s l k).testBit j = true ↔ ∃ h : j < l.length, l[j] ∈ (svG s k).els := by
  unfold needO
  rw [bitN_test, Bool.and_eq_true, decide_eq_true_eq, decide_eq_true_eq]
  constructor
  · rintro ⟨h, h1⟩
    refine ⟨h, ?_⟩
    simpa [List.getD_eq_getElem?_getD, List.getElem?_eq_getElem h] using h1
  · rintro ⟨h, h1⟩
    refine ⟨h, ?_⟩
    simpa [List.getD_eq_getElem?_getD, List.getElem?_eq_getElem h] using h1
theorem needO_zero (s : List Sv) (l : List ByteArray) (k : ByteArray) : needO s l k ≠ 0 ↔ needsB s l k = true := by
  unfold needsB
  rw [List.any_eq_true]
  constructor
  · intro h
    obtain ⟨j, hj⟩ := Nat.exists_testBit_of_ne_zero h
    obtain ⟨h1, h2⟩ := (needO_test s l k j).1 hj
    exact ⟨_, List.getElem_mem h1, by simpa using h2⟩
  · rintro ⟨x, hx, h2⟩ h
    obtain ⟨j, hj, rfl⟩ := List.getElem_of_mem hx
    have := (needO_test s l k j).2 ⟨hj, by simpa using h2⟩
    rw [h, Nat.zero_testBit] at this; cases this
theorem needO_pick (s : List Sv) (l : List ByteArray) (k : ByteArray) (m : Nat) : needO s l k &&& m ≠ 0 ↔ needB s (pickM l m) k = true := by
  unfold needB
  rw [and_ne, List.any_eq_true]
  constructor
  · rintro ⟨j, h1, h2⟩
    obtain ⟨h3, h4⟩ := (needO_test s l k j).1 h1
    exact ⟨l[j], h4, by rw [decide_eq_true_eq]; exact (setL_mem l m l.length (Nat.le_refl _) l[j]).2 ⟨j, h3, h3, h2, rfl⟩⟩
  · rintro ⟨x, h1, h2⟩
    rw [decide_eq_true_eq] at h2
    obtain ⟨i, hi, _, h3, h4⟩ := (setL_mem l m l.length (Nat.le_refl _) x).1 h2
    exact ⟨i, (needO_test s l k i).2 ⟨hi, by rw [h4]; exact h1⟩, h3⟩
theorem gD_good (s : List Sv) (l down : List ByteArray) (m : Nat) : gD s l (unexV s l down) down m = goodM (needL s l down) m := by
  unfold gD goodM
  congr 1
  rw [Bool.eq_iff_iff, List.any_eq_true, List.any_eq_true]
  constructor
  · rintro ⟨k, hk, h⟩
    simp only [Bool.and_eq_true, Bool.not_eq_true', decide_eq_false_iff_not] at h
    obtain ⟨h1, h2⟩ := h
    have h3 : needsB s l k = true := by
      cases hq : needsB s l k with
      | true => rfl
      | false => exact (h1 (List.mem_filter.2 ⟨hk, by rw [hq]; rfl⟩)).elim
    refine ⟨needO s l k, List.mem_filter.2 ⟨List.mem_map.2 ⟨k, hk, rfl⟩, by simpa using (needO_zero s l k).2 h3⟩, ?_⟩
    rw [decide_eq_true_eq]
    rcases Nat.eq_zero_or_pos (needO s l k &&& m) with e | e
    · exact e
    · have := (needO_pick s l k m).1 (by omega)
      rw [h2] at this; cases this
  · rintro ⟨n, hn, h⟩
    obtain ⟨hn1, hn2⟩ := List.mem_filter.1 hn
    obtain ⟨k, hk, rfl⟩ := List.mem_map.1 hn1
    rw [decide_eq_true_eq] at h hn2
    refine ⟨k, hk, ?_⟩
    simp only [Bool.and_eq_true, Bool.not_eq_true', decide_eq_false_iff_not]
    constructor
    · intro hq
      have := (List.mem_filter.1 hq).2
      rw [(needO_zero s l k).1 hn2] at this; cases this
    · cases hq : needB s (pickM l m) k with
      | false => rfl
      | true => exact ((needO_pick s l k m).2 hq h).elim
end Go.Proofs.YtameoookmgkmfaaGreat

/- Lists of strings are compared, and sorted. -/
namespace Go.Proofs.YtameoookmgkmfaaGreat
set_option linter.unusedVariables false
set_option linter.unusedSimpArgs false
open Abs

set_option maxRecDepth 100000 in
set_option maxHeartbeats 4000000 in
theorem cmpStr_pc (a b : ByteArray) : PCp 94 [.c (.str a), .c (.str b)] [] (.c (.int .i64 (cmpT a b))) [] := by
  have t1 : Op.bytesLess a.toList b.toList = true → cmpT a b = -1 := fun h => by
    have h : ltB a b = true := h
    unfold cmpT; rw [if_pos h]
  have t2 : a.toList = b.toList → cmpT a b = 0 := fun h => cmpT_zero.2 (toList_eq'.1 h)
  have t3 : Op.bytesLess a.toList b.toList = false → ¬ a.toList = b.toList → cmpT a b = 1 := fun h1 h2 => by
    have h1 : ltB a b = false := h1
    rcases ltB_tri a b with q | q | q
    · rw [h1] at q; cases q
    · exact (h2 (toList_eq'.2 q)).elim
    · unfold cmpT; rw [if_neg (by rw [h1]; decide), if_pos q]
  refine fn_sound (mt := mts) tab_fits tab_mixed Tryz.func94 (by rfl) (by kernel_rfl) (by kernel_rfl) Tryz.results94 (Nat.le_of_ble_eq_true (by kernel_rfl)) ?_
  conv => whnf
  repeat' (first
    | (refine Split.mk (fun h => ?_) (fun h => ?_) <;> (try simp only [decide_eq_true_eq, decide_eq_false_iff_not, Bool.not_eq_true', Bool.not_eq_false', beq_iff_eq, beq_eq_false_iff_ne, bne_iff_ne, bne_eq_false_iff_eq] at h) <;> (first | (exfalso; first | omega | exact h trivial | contradiction | (simp_all [eqRes]; done)) | (conv => whnf)))
    | (refine CondG.mk (fun h => ?_) (fun h => ?_) <;> (try simp only [decide_eq_true_eq, decide_eq_false_iff_not, Bool.not_eq_true', Bool.not_eq_false', beq_iff_eq, beq_eq_false_iff_ne, bne_iff_ne, bne_eq_false_iff_eq] at h) <;> (first | (exfalso; first | omega | exact h trivial | contradiction | (simp_all [eqRes]; done)) | (conv => whnf)))
    | (refine CallX.mk _ _ (by first | exact cisNaNS_pc _) ?_; conv => whnf)
    | (refine CallG.mk _ _ (by first | exact cisNaNS_pc _) ?_; conv => whnf)
    | (refine Ask.mk (by first | omega | (unfold roomOK; simp [cutRows]; done) | (unfold roomOK; simp [cutRows]; omega) | (simp [cutRows]; done) | (simp [cutRows]; omega)) ?_; conv => whnf)
    | (refine AppG.mk (by first | omega | (unfold roomOK; simp [cutRows]; done) | (unfold roomOK; simp [cutRows]; omega) | (simp [cutRows]; done) | (simp [cutRows]; omega)) ?_; conv => whnf)
    | (refine SliceG.fr ?_; conv => whnf)
    | (refine idx_at _ (by with_reducible rfl) (by first | assumption | omega) ?_; conv => whnf)
    | ((with_reducible refine row_map (by first | assumption | omega) ?_); conv => whnf)
    | ((with_reducible refine row_set (by first | assumption | omega | (simp only [List.length_set]; omega) | (simp; omega)) ?_); conv => whnf)
    | fail)
  all_goals first | contradiction | skip
  · exact fini (t1 h).symm
  · have h1 : Op.bytesLess a.toList b.toList = false := by assumption
    rw [h1] at h
    exact fini (t3 h1 (fun e => by rw [e] at h; simp at h)).symm
  · have h1 : Op.bytesLess a.toList b.toList = false := by assumption
    rw [h1] at h
    exact fini (t2 (by simpa using h)).symm
set_option maxRecDepth 100000 in
set_option maxHeartbeats 4000000 in
theorem compareSS_pc (a b : List ByteArray) (ha : a.length ≤ 1000000) (hb : b.length ≤ 1000000) : PCp 56 [.c (.lst 1 (a.map encS)), .c (.lst 1 (b.map encS))] [] (.c (.int .i64 (cmpSL a b))) [] := by
  have ham : (a.map encS).length = a.length := List.length_map ..
  have hbm : (b.map encS).length = b.length := List.length_map ..
  refine fn_sound (mt := mts) tab_fits tab_mixed Tryz.func56 (by rfl) (by kernel_rfl) (by kernel_rfl) Tryz.results56 (Nat.le_of_ble_eq_true (by kernel_rfl)) ?_
  conv => whnf
  refine loop_for (a.length) [] [0, 1, 9, 10, 11] (fun k (_ : Unit) => [(11, .c (.int .i64 (k : Int)))]) (fun k (_ : Unit) => []) (fun k (_ : Unit) => k ≤ b.length ∧ cmpSL (a.drop k) (b.drop k) = cmpSL a b) (()) ?_
  conv => whnf
  refine ⟨(by first | rfl | (simp; done) | (simp; rfl)), ?_, ?_, ?_⟩
  · exact ⟨by omega, rfl⟩
  · intro k _ hk ⟨h1, h2⟩
    rw [List.drop_eq_getElem_cons hk] at h2
    conv => whnf
    repeat' (first
      | (refine Split.mk (fun h => ?_) (fun h => ?_) <;> (try simp only [decide_eq_true_eq, decide_eq_false_iff_not, Bool.not_eq_true', Bool.not_eq_false', beq_iff_eq, beq_eq_false_iff_ne, bne_iff_ne, bne_eq_false_iff_eq] at h) <;> (first | (exfalso; first | omega | exact h trivial) | (conv => whnf)))
      | (refine CondG.mk (fun h => ?_) (fun h => ?_) <;> (try simp only [decide_eq_true_eq, decide_eq_false_iff_not, Bool.not_eq_true', Bool.not_eq_false', beq_iff_eq, beq_eq_false_iff_ne, bne_iff_ne, bne_eq_false_iff_eq] at h) <;> (first | (exfalso; first | omega | exact h trivial) | (conv => whnf)))
      | (refine CallX.mk _ _ (by first | exact cmpStr_pc _ _) ?_; conv => whnf)
      | (refine CallG.mk _ _ (by first | exact cmpStr_pc _ _) ?_; conv => whnf)
      | (refine Ask.mk (by first | omega | (unfold roomOK; simp [cutRows]; done) | (unfold roomOK; simp [cutRows]; omega) | (simp [cutRows]; done) | (simp [cutRows]; omega)) ?_; conv => whnf)
      | (refine AppG.mk (by first | omega | (unfold roomOK; simp [cutRows]; done) | (unfold roomOK; simp [cutRows]; omega) | (simp [cutRows]; done) | (simp [cutRows]; omega)) ?_; conv => whnf)
      | (refine SliceG.fr ?_; conv => whnf)
      | (refine idx_at _ (by with_reducible rfl) (by first | assumption | omega) ?_; conv => whnf)
      | ((with_reducible refine row_map (by first | assumption | omega) ?_); conv => whnf)
      | ((with_reducible refine row_set (by first | assumption | omega | (simp only [List.length_set]; omega) | (simp; omega)) ?_); conv => whnf)
      | fail)
    · have h3 : b.drop k = [] := List.drop_eq_nil_of_le (by omega)
      rw [h3] at h2
      exact fini h2
    · have hk2 : k < b.length := by omega
      rw [List.drop_eq_getElem_cons hk2, cmpSL, if_neg (by assumption)] at h2
      exact fini h2
    · have hk2 : k < b.length := by omega
      rw [List.drop_eq_getElem_cons hk2, cmpSL, if_pos (by omega)] at h2
      exact count_next () hk (by rw [wrap_succ hk (by omega)]; rfl) ⟨by omega, h2⟩
  · intro _ ⟨h1, h2⟩
    rw [List.drop_length] at h2
    conv => whnf
    repeat' (first
      | (refine Split.mk (fun h => ?_) (fun h => ?_) <;> (try simp only [decide_eq_true_eq, decide_eq_false_iff_not, Bool.not_eq_true', Bool.not_eq_false', beq_iff_eq, beq_eq_false_iff_ne, bne_iff_ne, bne_eq_false_iff_eq] at h) <;> (first | (exfalso; first | omega | exact h trivial) | (conv => whnf)))
      | (refine CondG.mk (fun h => ?_) (fun h => ?_) <;> (try simp only [decide_eq_true_eq, decide_eq_false_iff_not, Bool.not_eq_true', Bool.not_eq_false', beq_iff_eq, beq_eq_false_iff_ne, bne_iff_ne, bne_eq_false_iff_eq] at h) <;> (first | (exfalso; first | omega | exact h trivial) | (conv => whnf)))
      | (refine Ask.mk (by first | omega | (unfold roomOK; simp [cutRows]; done) | (unfold roomOK; simp [cutRows]; omega) | (simp [cutRows]; done) | (simp [cutRows]; omega)) ?_; conv => whnf)
      | (refine AppG.mk (by first | omega | (unfold roomOK; simp [cutRows]; done) | (unfold roomOK; simp [cutRows]; omega) | (simp [cutRows]; done) | (simp [cutRows]; omega)) ?_; conv => whnf)
      | (refine SliceG.fr ?_; conv => whnf)
      | (refine idx_at _ (by with_reducible rfl) (by first | assumption | omega) ?_; conv => whnf)
      | ((with_reducible refine row_map (by first | assumption | omega) ?_); conv => whnf)
      | ((with_reducible refine row_set (by first | assumption | omega | (simp only [List.length_set]; omega) | (simp; omega)) ?_); conv => whnf)
      | fail)
    · rw [List.drop_eq_getElem_cons (by omega : a.length < b.length)] at h2
      exact fini h2
    · have h3 : b.drop a.length = [] := List.drop_eq_nil_of_le (by omega)
      rw [h3] at h2
      exact fini h2
abbrev LB := { q : List ByteArray // q.length ≤ 1000000 }
def cmpLB (a b : LB) : Int := cmpSL a.1 b.1
theorem cmpLB_cmp : Cmp cmpLB := ⟨fun a b => cmpSL_anti a.1 b.1, fun a b d => cmpSL_trans a.1 b.1 d.1⟩
def toLB (l : List (List ByteArray)) : List LB := l.filterMap fun m => if h : m.length ≤ 1000000 then some ⟨m, h⟩ else none
theorem toLB_val : ∀ {l : List (List ByteArray)}, (∀ m ∈ l, m.length ≤ 1000000) → (toLB l).map (·.1) = l
  | [], _ => rfl
  | a :: r, h => by
    have ih := toLB_val (l := r) (fun m hm => h m (by simp [hm]))
    unfold toLB at ih ⊢
    rw [List.filterMap_cons, dif_pos (h a (by simp)), List.map_cons, ih]
/-- there is one order alone -/
theorem sl_one {a b : List (List ByteArray)} (hp : a.Perm b) (ha : a.Pairwise fun x y => ¬ cmpSL y x < 0) (hb : b.Pairwise fun x y => ¬ cmpSL y x < 0) : a = b := by
  refine sorted_one cmpSL_cmp.swo (fun x y h1 h2 => ?_) hp ha hb
  have := cmpSL_anti x y
  exact cmpSL_zero (by omega)
theorem sortSS_pc (l : List (List ByteArray)) (h : ∀ m ∈ l, m.length ≤ 1000000) (hl : l.length ≤ 1000000) :
    PCp 55 [.c (.row 0), .c (.fn 56 [])] [.row 28 1 (l.map encLs)] (.tup []) [.row 28 1 ((insSort cmpSL l).map encLs)] := by
  have hs := sort1_pcx layOneStrs layOneNStrs (encA := fun x : LB => V.lst 1 (x.1.map encS)) (c := cmpLB) cmpLB_cmp.swo (fun x y => compareSS_pc x.1 y.1 x.2 y.2) 28 (toLB l) (by rw [← List.length_map (f := fun x : LB => x.1), toLB_val h]; omega)
  have hm : ∀ q : List LB, q.map (fun x => [V.lst 1 (x.1.map encS)]) = (q.map (·.1)).map encLs := by intro q; rw [List.map_map]; rfl
  rw [hm, toLB_val h] at hs
  have ht : PCq 55 [.c (.row 0), .c (.fn 56 [])] [.row 28 1 (l.map encLs)] fun r os => r = .tup [] ∧ os = [.row 28 1 ((insSort cmpSL l).map encLs)] := by
    refine ⟨hs.fn, fun F φ w cs a b c => (hs.calls F φ w cs a b c).mono ?_⟩
    rintro e w' ⟨c, F', φ', r, os, ⟨l', hS, h1, h2⟩, rest⟩
    refine ⟨c, F', φ', r, os, ⟨h1, ?_⟩, rest⟩
    have hp : (l'.map (·.1)).Perm l := by
      have := hS.1.map (fun x : LB => x.1)
      rwa [toLB_val h] at this
    have hw : (l'.map (·.1)).Pairwise fun x y => ¬ cmpSL y x < 0 := List.pairwise_map.2 hS.2
    have : l'.map (·.1) = insSort cmpSL l := sl_one (hp.trans (insSort_perm cmpSL l).symm) hw (insSort_srt cmpSL_cmp.swo l)
    rw [h2, hm, this]
  exact ht
/-- the sets, sorted by the program and by the document -/
theorem sets_one {l : List ByteArray} (hr : Rise id l) (h14 : l.length ≤ 14) {ms : List Nat} {w : Nat} (hm : ∀ m ∈ ms, m < 2 ^ l.length ∧ popc m = w) : (sortM ms).map (pickM l) = insSort cmpSL (ms.map (pickM l)) := by
  have hp14 := pow14 h14
  have hlt : ∀ m ∈ ms, m < 16384 := fun m h => by have := (hm m h).1; omega
  refine sl_one (((sortM_perm hlt).map _).trans (insSort_perm cmpSL _).symm) ?_ (insSort_srt cmpSL_cmp.swo _)
  rw [List.pairwise_map]
  have h1 := insSort_srt cmpM_swo (toM ms)
  have hmem : ∀ x ∈ insSort cmpM (toM ms), x.1 ∈ ms := by
    intro x hx
    have h2 : x ∈ toM ms := (insSort_perm cmpM (toM ms)).mem_iff.1 hx
    have h3 : x.1 ∈ (toM ms).map (·.1) := List.mem_map.2 ⟨x, h2, rfl⟩
    rwa [toM_val hlt] at h3
  unfold sortM
  rw [List.pairwise_map]
  refine List.Pairwise.imp_of_mem ?_ h1
  intro x y hx hy hxy hc
  have hx' := hm _ (hmem x hx)
  have hy' := hm _ (hmem y hy)
  refine hxy (cmpM_neg.2 (.inr ⟨by omega, ?_⟩))
  by_cases e : y = x
  · subst e
    have := cmpSL_anti (pickM l y.1) (pickM l y.1)
    omega
  · rcases low_tri e with g | g
    · exact g
    · have := low_cmp hr h14 hx'.1 hy'.1 (by omega) g
      have := cmpSL_anti (pickM l y.1) (pickM l x.1)
      omega
end Go.Proofs.YtameoookmgkmfaaGreat

/- Lists joined; what is in no explanation, by the program. -/
namespace Go.Proofs.YtameoookmgkmfaaGreat
set_option linter.unusedVariables false
set_option linter.unusedSimpArgs false
open Abs

-- slices.Grow of nil, by the kit's contract laid at the seat (needs nx_made of XF2 or XGrow)
theorem growStr_pc (n : Nat) (hn : n ≤ 100000) : PCp 81 [.c .nils, .c (.int .i64 n)] [] (.c (.row 0)) [.row 9 1 []] := by
  refine ⟨⟨_, Tryz.func81, by kernel_rfl, by kernel_rfl⟩, fun F φ w cs hp hrp hφ => ?_⟩
  have hφ0 : φ 0 = none := by
    cases h : φ 0 with
    | none => rfl
    | some c => have := hφ 0 c h; simp at this
  have hcs : cs = #[.slice none 0 0, .int .i64 n] := by
    obtain ⟨x, xs, e1, r1, hp⟩ := hp.cons_inv
    obtain ⟨y, ys, e2, r2, hp⟩ := hp.cons_inv
    have := hp.nil_inv
    subst this
    subst e2
    apply Array.ext'
    have hx : x = .slice none 0 0 := by
      cases r1 with | c hv => cases hv with | tree ht => cases ht; rfl
    rw [e1, hx, r2.int_inv]
  subst hcs
  obtain ⟨i0, z, d, hi, hsz, hby, hz, ⟨hzc, _⟩, _⟩ := tab_fits 9 _ rfl
  by_cases h0 : n = 0
  · subst h0
    refine (Any8.slices_Grow_room layGrowStr none 0 0 0 w (by omega) (by omega) (by omega) (by omega)).mono ?_
    rintro e w' ⟨rfl, rfl⟩
    refine ⟨_, F, addφ φ 0 (.slice none 0 0), _, _, ⟨rfl, rfl⟩, rfl, .c (.row 0 _ (by simp [addφ])), nx_made (by simp) hφ0 _ rfl _ rfl rfl rfl (Nat.le_refl _) (Nat.le_refl _) (fun b h => rfl) (fun b h => by simp [hb] at h) ?_⟩
    exact RO.mkrow (c := .slice none 0 0) (xs := []) (by simp [addφ]) (fun b h => by simp [hb] at h) ⟨by simp, .inl ⟨rfl, rfl⟩⟩ P2.nil (by simp)
  · refine (Any8.slices_Grow_grow layGrowStr i0 z hi hz (by rw [hsz]; decide) none 0 0 n [] w (by omega) (by omega) (by rw [hby]; show (0 + n) * 16 ≤ 140737488355328; omega) (by omega) (by simp) (fun _ => rfl) (fun a h => by cases h)).mono ?_
    rintro e w' ⟨he, hw⟩
    have hc1 := grownCap_ge w (0 + n) 0 9
    have hc2 := grownCap_le_maxLen w (0 + n) 0 9 (Nat.le_trans (show 0 + n ≤ 100000 by omega) (by decide))
    rw [show layGrowStr_ren.t 25 = 9 from rfl] at he hw
    generalize grownCap w (0 + n) 0 9 = cap at hc1 hc2 he hw
    subst he
    have hblk : ∀ b, hb (Value.slice (some ⟨w.heap.size, 0, none⟩) 0 cap) = some b → b = w.heap.size := fun b h => by
      cases cap with
      | zero => simp [hb] at h
      | succ m =>
        have h : some w.heap.size = some b := h
        cases h; rfl
    have hsize : w'.heap.size = w.heap.size + 1 := by rw [hw]; exact Array.size_push ..
    have hold : ∀ b, b < w.heap.size → w'.heap[b]? = w.heap[b]? := fun b h => by rw [hw]; exact heap_alloc_old w.drew _ h
    have hnew := heap_alloc_new w.drew (.cells (([] : List Value).toArray ++ Builtin.zeroCells z.cells (0 + n - 0) ++ Builtin.zeroCells z.cells (cap - (0 + n))) 9)
    rw [← hw] at hnew
    refine ⟨_, F, addφ φ 0 (.slice (some ⟨w.heap.size, 0, none⟩) 0 cap), _, _, ⟨rfl, rfl⟩, rfl, .c (.row 0 _ (by simp [addφ])), nx_made (by simp) hφ0 _ rfl _ (by rw [hw]; rfl) (by rw [hw]; rfl) (by rw [hw]; rfl) (by rw [hw]; exact Nat.le_succ _) (by omega) hold (fun b h => by rw [hblk b h]; exact Nat.le_refl _) ?_⟩
    refine .inl ⟨.slice (some ⟨w.heap.size, 0, none⟩) 0 cap, [], by simp [addφ], fun b h hF => ?_, ⟨⟨by simp, .inr ⟨w.heap.size, cap, _, rfl, Nat.zero_le _, hnew, Nat.zero_le _, hc2, ?_, by simp⟩⟩, ?_⟩, P2.nil, by simp⟩
    · have := hrp.bd b hF
      rw [hblk b h] at this
      omega
    · have hz6 : z.cells.size = 1 := hzc
      simp only [Array.size_append, List.size_toArray, List.length_nil, size_zeroCells, hz6]
      omega
    · cases cap with
      | zero => omega
      | succ m => trivial
theorem flat_len {α : Type} {n : Nat} : ∀ {L : List (List α)}, (∀ q ∈ L, q.length ≤ n) → L.flatten.length ≤ n * L.length
  | [], _ => by simp
  | a :: r, h => by
    have ih := flat_len (n := n) (L := r) (fun q hq => h q (by simp [hq]))
    have := h a (by simp)
    simp only [List.flatten_cons, List.length_append, List.length_cons, Nat.mul_succ]; omega
theorem flat_succ {α : Type} (L : List (List α)) {k : Nat} (h : k < L.length) : (L.take (k + 1)).flatten = (L.take k).flatten ++ L[k] := by
  rw [List.take_succ_eq_append_getElem h, List.flatten_append, List.flatten_cons, List.flatten_nil, List.append_nil]
set_option maxRecDepth 100000 in
set_option maxHeartbeats 4000000 in
theorem concatS_pc (L : List (List ByteArray)) (hL : L.length ≤ 1000) (hx : ∀ q ∈ L, q.length ≤ 100) : PCp 40 [.c (.lst 1 (L.map encLs))] [] (.c (.row 0)) [.row 9 1 (L.flatten.map encS)] := by
  have hlm : (L.map encLs).length = L.length := List.length_map ..
  have hfl : ∀ k, k ≤ L.length → (L.take k).flatten.length ≤ 100000 := by
    intro k hk
    have h1 := flat_len (n := 100) (L := L.take k) (fun q hq => hx q (List.mem_of_mem_take hq))
    rw [List.length_take, Nat.min_eq_left hk] at h1; omega
  refine fn_sound (mt := mts) tab_fits tab_mixed Tryz.func40 (by rfl) (by kernel_rfl) (by kernel_rfl) Tryz.results40 (Nat.le_of_ble_eq_true (by kernel_rfl)) ?_
  conv => whnf
  refine loop_for (L.length) [] [0, 3, 9, 10, 11] (fun k (_ : Unit) => [(3, .c (.int .i64 (((L.take k).flatten.length : Nat) : Int))), (11, .c (.int .i64 (k : Int)))]) (fun k (_ : Unit) => []) (fun k (_ : Unit) => True) (()) ?_
  conv => whnf
  refine ⟨(by first | rfl | (simp; done) | (simp; rfl)), (by trivial), ?_, ?_⟩
  · intro k _ hk _
    have h1 := hx _ (List.getElem_mem hk)
    have h2 := hfl k (by omega)
    have h3 := congrArg List.length (flat_succ L hk)
    rw [List.length_append] at h3
    have h4 : (L[k].map encS).length = L[k].length := List.length_map ..
    have hw : IntKind.i64.wrap (((L.take k).flatten.length : Int) + ((L[k].map encS).length : Int)) = (((L.take (k + 1)).flatten.length : Nat) : Int) := by rw [wrap_in (by omega) (by omega)]; omega
    conv => whnf
    repeat' (first
      | (refine Split.mk (fun h => ?_) (fun h => ?_) <;> (try simp only [decide_eq_true_eq, decide_eq_false_iff_not, Bool.not_eq_true', Bool.not_eq_false', beq_iff_eq, beq_eq_false_iff_ne, bne_iff_ne, bne_eq_false_iff_eq] at h) <;> (first | (exfalso; first | omega | exact h trivial) | (conv => whnf)))
      | (refine CondG.mk (fun h => ?_) (fun h => ?_) <;> (try simp only [decide_eq_true_eq, decide_eq_false_iff_not, Bool.not_eq_true', Bool.not_eq_false', beq_iff_eq, beq_eq_false_iff_ne, bne_iff_ne, bne_eq_false_iff_eq] at h) <;> (first | (exfalso; first | omega | exact h trivial) | (conv => whnf)))
      | (refine Ask.mk (by first | omega | (unfold roomOK; simp [cutRows]; done) | (unfold roomOK; simp [cutRows]; omega) | (simp [cutRows]; done) | (simp [cutRows]; omega)) ?_; conv => whnf)
      | (refine AppG.mk (by first | omega | (unfold roomOK; simp [cutRows]; done) | (unfold roomOK; simp [cutRows]; omega) | (simp [cutRows]; done) | (simp [cutRows]; omega)) ?_; conv => whnf)
      | (refine SliceG.fr ?_; conv => whnf)
      | (refine idx_at _ (by with_reducible rfl) (by first | assumption | omega) ?_; conv => whnf)
      | ((with_reducible refine row_map (by first | assumption | omega) ?_); conv => whnf)
      | ((with_reducible refine row_set (by first | assumption | omega | (simp only [List.length_set]; omega) | (simp; omega)) ?_); conv => whnf)
      | fail)
    exact count_next () hk (by rw [wrap_succ hk (by omega), hw]; rfl) trivial
  · intro _ _
    rw [List.take_length]
    have h2 := hfl L.length (Nat.le_refl _)
    rw [List.take_length] at h2
    conv => whnf
    repeat' (first
      | (refine Split.mk (fun h => ?_) (fun h => ?_) <;> (try simp only [decide_eq_true_eq, decide_eq_false_iff_not, Bool.not_eq_true', Bool.not_eq_false', beq_iff_eq, beq_eq_false_iff_ne, bne_iff_ne, bne_eq_false_iff_eq] at h) <;> (first | (exfalso; first | omega | exact h trivial) | (conv => whnf)))
      | (refine CondG.mk (fun h => ?_) (fun h => ?_) <;> (try simp only [decide_eq_true_eq, decide_eq_false_iff_not, Bool.not_eq_true', Bool.not_eq_false', beq_iff_eq, beq_eq_false_iff_ne, bne_iff_ne, bne_eq_false_iff_eq] at h) <;> (first | (exfalso; first | omega | exact h trivial) | (conv => whnf)))
      | (refine CallX.mk _ _ (by first | exact growStr_pc _ h2) ?_; conv => whnf)
      | (refine CallG.mk _ _ (by first | exact growStr_pc _ h2) ?_; conv => whnf)
      | (refine Ask.mk (by first | omega | (unfold roomOK; simp [cutRows]; done) | (unfold roomOK; simp [cutRows]; omega) | (simp [cutRows]; done) | (simp [cutRows]; omega)) ?_; conv => whnf)
      | (refine AppG.mk (by first | omega | (unfold roomOK; simp [cutRows]; done) | (unfold roomOK; simp [cutRows]; omega) | (simp [cutRows]; done) | (simp [cutRows]; omega)) ?_; conv => whnf)
      | (refine SliceG.fr ?_; conv => whnf)
      | (refine idx_at _ (by with_reducible rfl) (by first | assumption | omega) ?_; conv => whnf)
      | ((with_reducible refine row_map (by first | assumption | omega) ?_); conv => whnf)
      | ((with_reducible refine row_set (by first | assumption | omega | (simp only [List.length_set]; omega) | (simp; omega)) ?_); conv => whnf)
      | fail)
    refine loop_for (L.length) [] [6, 25, 26, 27] (fun k (_ : Unit) => [(27, .c (.int .i64 (k : Int)))]) (fun k (_ : Unit) => [(0, .row 9 1 ((L.take k).flatten.map encS))]) (fun k (_ : Unit) => True) (()) ?_
    conv => whnf
    refine ⟨(by first | rfl | (simp; done) | (simp; rfl)), (by trivial), ?_, ?_⟩
    · intro k _ hk _
      have h1 := hx _ (List.getElem_mem hk)
      have h2 := hfl k (by omega)
      have h3 : ((L.take k).flatten.map encS).length = (L.take k).flatten.length := List.length_map ..
      have h4 : (L[k].map encS).length = L[k].length := List.length_map ..
      conv => whnf
      repeat' (first
        | (refine Split.mk (fun h => ?_) (fun h => ?_) <;> (try simp only [decide_eq_true_eq, decide_eq_false_iff_not, Bool.not_eq_true', Bool.not_eq_false', beq_iff_eq, beq_eq_false_iff_ne, bne_iff_ne, bne_eq_false_iff_eq] at h) <;> (first | (exfalso; first | omega | exact h trivial) | (conv => whnf)))
        | (refine CondG.mk (fun h => ?_) (fun h => ?_) <;> (try simp only [decide_eq_true_eq, decide_eq_false_iff_not, Bool.not_eq_true', Bool.not_eq_false', beq_iff_eq, beq_eq_false_iff_ne, bne_iff_ne, bne_eq_false_iff_eq] at h) <;> (first | (exfalso; first | omega | exact h trivial) | (conv => whnf)))
        | (refine Ask.mk (by first | omega | (unfold roomOK; simp [cutRows]; done) | (unfold roomOK; simp [cutRows]; omega) | (simp [cutRows]; done) | (simp [cutRows]; omega)) ?_; conv => whnf)
        | (refine AppG.mk (by first | omega | (unfold roomOK; simp [cutRows]; done) | (unfold roomOK; simp [cutRows]; omega) | (simp [cutRows]; done) | (simp [cutRows]; omega)) ?_; conv => whnf)
        | (refine SliceG.fr ?_; conv => whnf)
        | (refine idx_at _ (by with_reducible rfl) (by first | assumption | omega) ?_; conv => whnf)
        | ((with_reducible refine row_map (by first | assumption | omega) ?_); conv => whnf)
        | ((with_reducible refine row_set (by first | assumption | omega | (simp only [List.length_set]; omega) | (simp; omega)) ?_); conv => whnf)
        | ((refine .mk (room_small (by omega) (by decide)) ?_); conv => whnf)
        | fail)
      exact count_next () hk (by rw [wrap_succ hk (by omega), flat_succ L hk, List.map_append]; rfl) trivial
    · intro _ _
      rw [List.take_length]
      conv => whnf
      repeat' (first
        | (refine Split.mk (fun h => ?_) (fun h => ?_) <;> (try simp only [decide_eq_true_eq, decide_eq_false_iff_not, Bool.not_eq_true', Bool.not_eq_false', beq_iff_eq, beq_eq_false_iff_ne, bne_iff_ne, bne_eq_false_iff_eq] at h) <;> (first | (exfalso; first | omega | exact h trivial) | (conv => whnf)))
        | (refine CondG.mk (fun h => ?_) (fun h => ?_) <;> (try simp only [decide_eq_true_eq, decide_eq_false_iff_not, Bool.not_eq_true', Bool.not_eq_false', beq_iff_eq, beq_eq_false_iff_ne, bne_iff_ne, bne_eq_false_iff_eq] at h) <;> (first | (exfalso; first | omega | exact h trivial) | (conv => whnf)))
        | (refine Ask.mk (by first | omega | (unfold roomOK; simp [cutRows]; done) | (unfold roomOK; simp [cutRows]; omega) | (simp [cutRows]; done) | (simp [cutRows]; omega)) ?_; conv => whnf)
        | (refine AppG.mk (by first | omega | (unfold roomOK; simp [cutRows]; done) | (unfold roomOK; simp [cutRows]; omega) | (simp [cutRows]; done) | (simp [cutRows]; omega)) ?_; conv => whnf)
        | (refine SliceG.fr ?_; conv => whnf)
        | (refine idx_at _ (by with_reducible rfl) (by first | assumption | omega) ?_; conv => whnf)
        | ((with_reducible refine row_map (by first | assumption | omega) ?_); conv => whnf)
        | ((with_reducible refine row_set (by first | assumption | omega | (simp only [List.length_set]; omega) | (simp; omega)) ?_); conv => whnf)
        | fail)
      exact .mk ⟨rfl, rfl⟩
def clrM (s : List Sv) (down : List ByteArray) (L : List (List ByteArray)) : MB := putAll (putAll SM.nil (elsOf s down) true) L.flatten false
def clrV (s : List Sv) (down : List ByteArray) (L : List (List ByteArray)) : List ByteArray := risV (clrM s down L)
theorem clrM_ok (s : List Sv) (down : List ByteArray) (L : List (List ByteArray)) : (clrM s down L).ok := putAll_ok _ (putAll_ok _ SM.ok_nil)
theorem clrV_rise (s : List Sv) (down : List ByteArray) (L : List (List ByteArray)) : Rise id (clrV s down L) := risV_rise (clrM_ok ..)
theorem clrV_mem (s : List Sv) (down : List ByteArray) (L : List (List ByteArray)) (x : ByteArray) : x ∈ clrV s down L ↔ x ∈ elsOf s down ∧ ∀ q ∈ L, x ∉ q := by
  unfold clrV
  rw [risV_mem (clrM_ok ..)]
  unfold clrM
  rw [putAll_get, putAll_get]
  have hf : x ∈ L.flatten ↔ ∃ q ∈ L, x ∈ q := by rw [List.mem_flatten]
  by_cases h1 : x ∈ L.flatten
  · rw [if_pos h1]
    constructor
    · intro e; cases e
    · rintro ⟨_, h⟩
      obtain ⟨q, hq, hx⟩ := hf.1 h1
      exact (h q hq hx).elim
  · rw [if_neg h1]
    by_cases h2 : x ∈ elsOf s down
    · rw [if_pos h2]
      exact ⟨fun _ => ⟨h2, fun q hq hx => h1 (hf.2 ⟨q, hq, hx⟩)⟩, fun _ => rfl⟩
    · rw [if_neg h2, SM.get_nil]
      exact ⟨fun e => (by cases e), fun h => (h2 h.1).elim⟩
theorem explV_len {s : List Sv} {l down : List ByteArray} (h0 : explE s l down = 0) : ∀ q ∈ explV s l down, q.length ≤ 14 := by
  have h14 : l.length ≤ 14 := by
    unfold explE at h0
    split at h0 <;> omega
  intro q hq
  unfold explV at hq
  rw [if_pos h0] at hq
  obtain ⟨m, _, rfl⟩ := List.mem_map.1 hq
  have := pickM_len l m
  omega
set_option maxRecDepth 100000 in
set_option maxHeartbeats 4000000 in
theorem fClr_pc (s : List Sv) (hx : ∀ x ∈ s, x.els.length ≤ 1000000) (down up : List ByteArray) (e : Int) (L : List (List ByteArray))
    (he : e = if seenErr s down up = 0 then explE s (susV s down up) down else seenErr s down up) (hL : L = if seenErr s down up = 0 then explV s (susV s down up) down else []) :
    PCp 13 [.c (.lst 3 (s.map encSv)), .c (.lst 1 (down.map encS)), .c (.lst 1 (up.map encS))] [] (.tup [.c (.lst 1 ((if e = 0 then clrV s down L else []).map encS)), .c (.int .i64 e)]) [] := by
  have hp := fExpls_pc s hx down up
  rw [← he, ← hL] at hp
  by_cases h0 : e = 0
  · have hs0 : seenErr s down up = 0 := by
      by_cases q : seenErr s down up = 0
      · exact q
      · rw [if_neg q] at he; omega
    rw [if_pos hs0] at he hL
    have k3 := explV_len (by omega : explE s (susV s down up) down = 0)
    obtain ⟨k1, k2, _, k4⟩ := explV_ok (susV_rise s down up) (by omega : explE s (susV s down up) down = 0)
    rw [← hL] at k1 k2 k3 k4
    subst h0
    rw [if_pos rfl]
    clear hL he
    obtain ⟨hs, hd, hu⟩ := seen_ok hs0
    have hsl := hs.len
    have hdl := hd.len
    have hdm : (down.map encS).length = down.length := List.length_map ..
    have hsm : (s.map encSv).length = s.length := List.length_map ..
    have hfl := flat_len (n := 14) (L := L) k3
    have hfm : (L.flatten.map encS).length = L.flatten.length := List.length_map ..
    have hat : ∀ k, hasSv s k = true → ∃ i, ∃ hi : i < s.length, svIx s k = ((i : Nat) : Int) ∧ s[i] = svG s k ∧ s[i].els.length ≤ 100 := by
      intro k hk
      rcases svIx_or hs.rise k with ⟨h1, _⟩ | ⟨_, i, hi, h2, h3⟩
      · rw [h1] at hk; cases hk
      · exact ⟨i, hi, h2, h3, (hs.each _ (List.getElem_mem hi)).len⟩
    refine fn_sound (mt := mts) tab_fits tab_mixed Tryz.func13 (by rfl) (by kernel_rfl) (by kernel_rfl) Tryz.results13 (Nat.le_of_ble_eq_true (by kernel_rfl)) ?_
    conv => whnf
    repeat' (first
      | (refine Split.mk (fun h => ?_) (fun h => ?_) <;> (try simp only [decide_eq_true_eq, decide_eq_false_iff_not, Bool.not_eq_true', Bool.not_eq_false', beq_iff_eq, beq_eq_false_iff_ne, bne_iff_ne, bne_eq_false_iff_eq] at h) <;> (first | (exfalso; first | omega | exact h trivial) | (conv => whnf)))
      | (refine CondG.mk (fun h => ?_) (fun h => ?_) <;> (try simp only [decide_eq_true_eq, decide_eq_false_iff_not, Bool.not_eq_true', Bool.not_eq_false', beq_iff_eq, beq_eq_false_iff_ne, bne_iff_ne, bne_eq_false_iff_eq] at h) <;> (first | (exfalso; first | omega | exact h trivial) | (conv => whnf)))
      | (refine CallX.mk _ _ (by first | exact hp) ?_; conv => whnf)
      | (refine CallG.mk _ _ (by first | exact hp) ?_; conv => whnf)
      | (refine Ask.mk (by first | omega | (unfold roomOK; simp [cutRows]; done) | (unfold roomOK; simp [cutRows]; omega) | (simp [cutRows]; done) | (simp [cutRows]; omega)) ?_; conv => whnf)
      | (refine AppG.mk (by first | omega | (unfold roomOK; simp [cutRows]; done) | (unfold roomOK; simp [cutRows]; omega) | (simp [cutRows]; done) | (simp [cutRows]; omega)) ?_; conv => whnf)
      | (refine SliceG.fr ?_; conv => whnf)
      | (refine idx_at _ (by with_reducible rfl) (by first | assumption | omega) ?_; conv => whnf)
      | ((with_reducible refine row_map (by first | assumption | omega) ?_); conv => whnf)
      | ((with_reducible refine row_set (by first | assumption | omega | (simp only [List.length_set]; omega) | (simp; omega)) ?_); conv => whnf)
      | fail)
    refine loop_for (down.length) [] [0, 8, 10, 28, 29, 30] (fun k (_ : Unit) => [(30, .c (.int .i64 (k : Int)))]) (fun k (_ : Unit) => [(0, smO ekB evT (putAll SM.nil (elsOf s (down.take k)) true))]) (fun k (_ : Unit) => True) (()) ?_
    conv => whnf
    refine ⟨(by first | rfl | (simp; done) | (simp; rfl)), (by trivial), ?_, ?_⟩
    · intro k _ hk _
      obtain ⟨i, hi, h2, h3, h4⟩ := hat _ (hd.has _ (List.getElem_mem hk))
      have hem : (s[i].els.map encS).length = s[i].els.length := List.length_map ..
      conv => whnf
      repeat' (first
        | (refine Split.mk (fun h => ?_) (fun h => ?_) <;> (try simp only [decide_eq_true_eq, decide_eq_false_iff_not, Bool.not_eq_true', Bool.not_eq_false', beq_iff_eq, beq_eq_false_iff_ne, bne_iff_ne, bne_eq_false_iff_eq] at h) <;> (first | (exfalso; first | omega | exact h trivial) | (conv => whnf)))
        | (refine CondG.mk (fun h => ?_) (fun h => ?_) <;> (try simp only [decide_eq_true_eq, decide_eq_false_iff_not, Bool.not_eq_true', Bool.not_eq_false', beq_iff_eq, beq_eq_false_iff_ne, bne_iff_ne, bne_eq_false_iff_eq] at h) <;> (first | (exfalso; first | omega | exact h trivial) | (conv => whnf)))
        | (refine CallX.mk _ _ (by first | exact fFind_pc s hs.rise (by omega) _) ?_; conv => whnf)
        | (refine CallG.mk _ _ (by first | exact fFind_pc s hs.rise (by omega) _) ?_; conv => whnf)
        | (refine Ask.mk (by first | omega | (unfold roomOK; simp [cutRows]; done) | (unfold roomOK; simp [cutRows]; omega) | (simp [cutRows]; done) | (simp [cutRows]; omega)) ?_; conv => whnf)
        | (refine AppG.mk (by first | omega | (unfold roomOK; simp [cutRows]; done) | (unfold roomOK; simp [cutRows]; omega) | (simp [cutRows]; done) | (simp [cutRows]; omega)) ?_; conv => whnf)
        | (refine SliceG.fr ?_; conv => whnf)
        | (refine idx_at _ (by with_reducible rfl) (by first | assumption | omega) ?_; conv => whnf)
        | ((with_reducible refine row_map (by first | assumption | omega) ?_); conv => whnf)
        | ((with_reducible refine row_set (by first | assumption | omega | (simp only [List.length_set]; omega) | (simp; omega)) ?_); conv => whnf)
        | ((rw [h2]; refine idx_map i hi rfl ?_); conv => whnf)
        | fail)
      refine loop_for (s[i].els.length) [] [0, 8, 10, 28, 29, 30, 40, 41, 42] (fun j (_ : Unit) => [(42, .c (.int .i64 (j : Int)))]) (fun j (_ : Unit) => [(0, smO ekB evT (putAll (putAll SM.nil (elsOf s (down.take k)) true) (s[i].els.take j) true))]) (fun j (_ : Unit) => True) (()) ?_
      conv => whnf
      refine ⟨(by first | rfl | (simp; done) | (simp; rfl)), (by trivial), ?_, ?_⟩
      · intro j _ hj _
        conv => whnf
        repeat' (first
          | (refine Split.mk (fun h => ?_) (fun h => ?_) <;> (try simp only [decide_eq_true_eq, decide_eq_false_iff_not, Bool.not_eq_true', Bool.not_eq_false', beq_iff_eq, beq_eq_false_iff_ne, bne_iff_ne, bne_eq_false_iff_eq] at h) <;> (first | (exfalso; first | omega | exact h trivial) | (conv => whnf)))
          | (refine CondG.mk (fun h => ?_) (fun h => ?_) <;> (try simp only [decide_eq_true_eq, decide_eq_false_iff_not, Bool.not_eq_true', Bool.not_eq_false', beq_iff_eq, beq_eq_false_iff_ne, bne_iff_ne, bne_eq_false_iff_eq] at h) <;> (first | (exfalso; first | omega | exact h trivial) | (conv => whnf)))
          | (refine Ask.mk (by first | omega | (unfold roomOK; simp [cutRows]; done) | (unfold roomOK; simp [cutRows]; omega) | (simp [cutRows]; done) | (simp [cutRows]; omega)) ?_; conv => whnf)
          | (refine AppG.mk (by first | omega | (unfold roomOK; simp [cutRows]; done) | (unfold roomOK; simp [cutRows]; omega) | (simp [cutRows]; done) | (simp [cutRows]; omega)) ?_; conv => whnf)
          | (refine SliceG.fr ?_; conv => whnf)
          | (refine idx_at _ (by with_reducible rfl) (by first | assumption | omega) ?_; conv => whnf)
          | ((with_reducible refine row_map (by first | assumption | omega) ?_); conv => whnf)
          | ((with_reducible refine row_set (by first | assumption | omega | (simp only [List.length_set]; omega) | (simp; omega)) ?_); conv => whnf)
          | ((with_reducible refine sm_look (ek := ekB) (ev := evT) keyStr _ _ (false) ?_ ?_); exact rfl; conv => whnf)
          | ((with_reducible refine sm_upd (ek := ekB) (ev := evT) keyStr _ _ true ?_); conv => whnf)
          | ((with_reducible refine sm_del (ek := ekB) (ev := evT) keyStr _ _ ?_); conv => whnf)
          | ((with_reducible refine sm_entry (ek := ekB) (ev := evT) keyStr _ _ (false) ?_ ?_); exact rfl; conv => whnf)
          | fail)
        exact count_next () hj (by rw [wrap_succ hj (by omega), putAll_succ _ _ hj]; rfl) trivial
      · intro _ _
        rw [List.take_length]
        conv => whnf
        repeat' (first
          | (refine Split.mk (fun h => ?_) (fun h => ?_) <;> (try simp only [decide_eq_true_eq, decide_eq_false_iff_not, Bool.not_eq_true', Bool.not_eq_false', beq_iff_eq, beq_eq_false_iff_ne, bne_iff_ne, bne_eq_false_iff_eq] at h) <;> (first | (exfalso; first | omega | exact h trivial) | (conv => whnf)))
          | (refine CondG.mk (fun h => ?_) (fun h => ?_) <;> (try simp only [decide_eq_true_eq, decide_eq_false_iff_not, Bool.not_eq_true', Bool.not_eq_false', beq_iff_eq, beq_eq_false_iff_ne, bne_iff_ne, bne_eq_false_iff_eq] at h) <;> (first | (exfalso; first | omega | exact h trivial) | (conv => whnf)))
          | (refine Ask.mk (by first | omega | (unfold roomOK; simp [cutRows]; done) | (unfold roomOK; simp [cutRows]; omega) | (simp [cutRows]; done) | (simp [cutRows]; omega)) ?_; conv => whnf)
          | (refine AppG.mk (by first | omega | (unfold roomOK; simp [cutRows]; done) | (unfold roomOK; simp [cutRows]; omega) | (simp [cutRows]; done) | (simp [cutRows]; omega)) ?_; conv => whnf)
          | (refine SliceG.fr ?_; conv => whnf)
          | (refine idx_at _ (by with_reducible rfl) (by first | assumption | omega) ?_; conv => whnf)
          | ((with_reducible refine row_map (by first | assumption | omega) ?_); conv => whnf)
          | ((with_reducible refine row_set (by first | assumption | omega | (simp only [List.length_set]; omega) | (simp; omega)) ?_); conv => whnf)
          | fail)
        exact count_next () hk (by rw [wrap_succ hk (by omega), elsOf_succ s down hk, putAll_app, ← h3]; rfl) trivial
    · intro _ _
      rw [List.take_length]
      conv => whnf
      repeat' (first
        | (refine Split.mk (fun h => ?_) (fun h => ?_) <;> (try simp only [decide_eq_true_eq, decide_eq_false_iff_not, Bool.not_eq_true', Bool.not_eq_false', beq_iff_eq, beq_eq_false_iff_ne, bne_iff_ne, bne_eq_false_iff_eq] at h) <;> (first | (exfalso; first | omega | exact h trivial) | (conv => whnf)))
        | (refine CondG.mk (fun h => ?_) (fun h => ?_) <;> (try simp only [decide_eq_true_eq, decide_eq_false_iff_not, Bool.not_eq_true', Bool.not_eq_false', beq_iff_eq, beq_eq_false_iff_ne, bne_iff_ne, bne_eq_false_iff_eq] at h) <;> (first | (exfalso; first | omega | exact h trivial) | (conv => whnf)))
        | (refine CallX.mk _ _ (by first | exact concatS_pc L k2 (fun q hq => Nat.le_trans (k3 q hq) (by decide))) ?_; conv => whnf)
        | (refine CallG.mk _ _ (by first | exact concatS_pc L k2 (fun q hq => Nat.le_trans (k3 q hq) (by decide))) ?_; conv => whnf)
        | (refine Ask.mk (by first | omega | (unfold roomOK; simp [cutRows]; done) | (unfold roomOK; simp [cutRows]; omega) | (simp [cutRows]; done) | (simp [cutRows]; omega)) ?_; conv => whnf)
        | (refine AppG.mk (by first | omega | (unfold roomOK; simp [cutRows]; done) | (unfold roomOK; simp [cutRows]; omega) | (simp [cutRows]; done) | (simp [cutRows]; omega)) ?_; conv => whnf)
        | (refine SliceG.fr ?_; conv => whnf)
        | (refine idx_at _ (by with_reducible rfl) (by first | assumption | omega) ?_; conv => whnf)
        | ((with_reducible refine row_map (by first | assumption | omega) ?_); conv => whnf)
        | ((with_reducible refine row_set (by first | assumption | omega | (simp only [List.length_set]; omega) | (simp; omega)) ?_); conv => whnf)
        | fail)
      refine loop_for (L.flatten.length) [] [10, 51, 52, 53] (fun k (_ : Unit) => [(53, .c (.int .i64 (k : Int)))]) (fun k (_ : Unit) => [(0, smO ekB evT (putAll (putAll SM.nil (elsOf s down) true) (L.flatten.take k) false))]) (fun k (_ : Unit) => True) (()) ?_
      conv => whnf
      refine ⟨(by first | rfl | (simp; done) | (simp; rfl)), (by trivial), ?_, ?_⟩
      · intro j _ hj _
        conv => whnf
        repeat' (first
          | (refine Split.mk (fun h => ?_) (fun h => ?_) <;> (try simp only [decide_eq_true_eq, decide_eq_false_iff_not, Bool.not_eq_true', Bool.not_eq_false', beq_iff_eq, beq_eq_false_iff_ne, bne_iff_ne, bne_eq_false_iff_eq] at h) <;> (first | (exfalso; first | omega | exact h trivial) | (conv => whnf)))
          | (refine CondG.mk (fun h => ?_) (fun h => ?_) <;> (try simp only [decide_eq_true_eq, decide_eq_false_iff_not, Bool.not_eq_true', Bool.not_eq_false', beq_iff_eq, beq_eq_false_iff_ne, bne_iff_ne, bne_eq_false_iff_eq] at h) <;> (first | (exfalso; first | omega | exact h trivial) | (conv => whnf)))
          | (refine Ask.mk (by first | omega | (unfold roomOK; simp [cutRows]; done) | (unfold roomOK; simp [cutRows]; omega) | (simp [cutRows]; done) | (simp [cutRows]; omega)) ?_; conv => whnf)
          | (refine AppG.mk (by first | omega | (unfold roomOK; simp [cutRows]; done) | (unfold roomOK; simp [cutRows]; omega) | (simp [cutRows]; done) | (simp [cutRows]; omega)) ?_; conv => whnf)
          | (refine SliceG.fr ?_; conv => whnf)
          | (refine idx_at _ (by with_reducible rfl) (by first | assumption | omega) ?_; conv => whnf)
          | ((with_reducible refine row_map (by first | assumption | omega) ?_); conv => whnf)
          | ((with_reducible refine row_set (by first | assumption | omega | (simp only [List.length_set]; omega) | (simp; omega)) ?_); conv => whnf)
          | ((with_reducible refine sm_look (ek := ekB) (ev := evT) keyStr _ _ (false) ?_ ?_); exact rfl; conv => whnf)
          | ((with_reducible refine sm_upd (ek := ekB) (ev := evT) keyStr _ _ false ?_); conv => whnf)
          | ((with_reducible refine sm_del (ek := ekB) (ev := evT) keyStr _ _ ?_); conv => whnf)
          | ((with_reducible refine sm_entry (ek := ekB) (ev := evT) keyStr _ _ (false) ?_ ?_); exact rfl; conv => whnf)
          | fail)
        exact count_next () hj (by rw [wrap_succ hj (by omega), putAll_succ _ _ hj]; rfl) trivial
      · intro _ _
        rw [List.take_length]
        have hml : (clrM s down L).es.length ≤ 1000000 := by
          have h1 := putAll_len (b := false) L.flatten (putAll SM.nil (elsOf s down) true)
          have h2 := putAll_len (b := true) (elsOf s down) (SM.nil : MB)
          have h3 := elsOf_len hs hd.has
          have h5 : (SM.nil : MB).es.length = 0 := rfl
          unfold clrM; omega
        conv => whnf
        repeat' (first
          | (refine Split.mk (fun h => ?_) (fun h => ?_) <;> (try simp only [decide_eq_true_eq, decide_eq_false_iff_not, Bool.not_eq_true', Bool.not_eq_false', beq_iff_eq, beq_eq_false_iff_ne, bne_iff_ne, bne_eq_false_iff_eq] at h) <;> (first | (exfalso; first | omega | exact h trivial) | (conv => whnf)))
          | (refine CondG.mk (fun h => ?_) (fun h => ?_) <;> (try simp only [decide_eq_true_eq, decide_eq_false_iff_not, Bool.not_eq_true', Bool.not_eq_false', beq_iff_eq, beq_eq_false_iff_ne, bne_iff_ne, bne_eq_false_iff_eq] at h) <;> (first | (exfalso; first | omega | exact h trivial) | (conv => whnf)))
          | (refine CallX.mk _ _ (by first | exact fRising_pc (clrM s down L) (clrM_ok ..) hml) ?_; conv => whnf)
          | (refine CallG.mk _ _ (by first | exact fRising_pc (clrM s down L) (clrM_ok ..) hml) ?_; conv => whnf)
          | (refine Ask.mk (by first | omega | (unfold roomOK; simp [cutRows]; done) | (unfold roomOK; simp [cutRows]; omega) | (simp [cutRows]; done) | (simp [cutRows]; omega)) ?_; conv => whnf)
          | (refine AppG.mk (by first | omega | (unfold roomOK; simp [cutRows]; done) | (unfold roomOK; simp [cutRows]; omega) | (simp [cutRows]; done) | (simp [cutRows]; omega)) ?_; conv => whnf)
          | (refine SliceG.fr ?_; conv => whnf)
          | (refine idx_at _ (by with_reducible rfl) (by first | assumption | omega) ?_; conv => whnf)
          | ((with_reducible refine row_map (by first | assumption | omega) ?_); conv => whnf)
          | ((with_reducible refine row_set (by first | assumption | omega | (simp only [List.length_set]; omega) | (simp; omega)) ?_); conv => whnf)
          | fail)
        first
          | exact .mk ⟨rfl, rfl⟩
          | exact .weak [] (.refl _) rfl (Nat.le_refl _)
          | exact .weak [_] (.refl _) rfl (Nat.le_refl _)
  · rw [if_neg h0]
    refine fn_sound (mt := mts) tab_fits tab_mixed Tryz.func13 (by rfl) (by kernel_rfl) (by kernel_rfl) Tryz.results13 (Nat.le_of_ble_eq_true (by kernel_rfl)) ?_
    conv => whnf
    repeat' (first
      | (refine Split.mk (fun h => ?_) (fun h => ?_) <;> (try simp only [decide_eq_true_eq, decide_eq_false_iff_not, Bool.not_eq_true', Bool.not_eq_false', beq_iff_eq, beq_eq_false_iff_ne, bne_iff_ne, bne_eq_false_iff_eq] at h) <;> (first | (exfalso; first | omega | exact h trivial) | (conv => whnf)))
      | (refine CondG.mk (fun h => ?_) (fun h => ?_) <;> (try simp only [decide_eq_true_eq, decide_eq_false_iff_not, Bool.not_eq_true', Bool.not_eq_false', beq_iff_eq, beq_eq_false_iff_ne, bne_iff_ne, bne_eq_false_iff_eq] at h) <;> (first | (exfalso; first | omega | exact h trivial) | (conv => whnf)))
      | (refine CallX.mk _ _ (by first | exact hp) ?_; conv => whnf)
      | (refine CallG.mk _ _ (by first | exact hp) ?_; conv => whnf)
      | (refine Ask.mk (by first | omega | (unfold roomOK; simp [cutRows]; done) | (unfold roomOK; simp [cutRows]; omega) | (simp [cutRows]; done) | (simp [cutRows]; omega)) ?_; conv => whnf)
      | (refine AppG.mk (by first | omega | (unfold roomOK; simp [cutRows]; done) | (unfold roomOK; simp [cutRows]; omega) | (simp [cutRows]; done) | (simp [cutRows]; omega)) ?_; conv => whnf)
      | (refine SliceG.fr ?_; conv => whnf)
      | (refine idx_at _ (by with_reducible rfl) (by first | assumption | omega) ?_; conv => whnf)
      | ((with_reducible refine row_map (by first | assumption | omega) ?_); conv => whnf)
      | ((with_reducible refine row_set (by first | assumption | omega | (simp only [List.length_set]; omega) | (simp; omega)) ?_); conv => whnf)
      | fail)
    · refine .weak [] (.tup _ _ rfl ?_) rfl (Nat.le_refl _)
      intro i a b ha hb
      match i with
      | 0 => cases ha; cases hb; exact .nil 1
      | 1 => cases ha; cases hb; exact .refl _
    all_goals (exfalso; omega)
end Go.Proofs.YtameoookmgkmfaaGreat

/- The document: explanations. -/
namespace Go.Proofs.YtameoookmgkmfaaGreat
set_option linter.unusedVariables false
set_option linter.unusedSimpArgs false
open Abs

set_option maxRecDepth 100000 in
set_option maxHeartbeats 4000000 in
theorem ixE_pc (ns ss rs : List (List V)) (g : Nat) (p : ByteArray → Bool) (l : List ByteArray) (hl : l.length ≤ 1000000) (hg : ∀ x ∈ l, PCp g [.c (.str (x)), .c (.ptr 0 0), .c (.ptr 1 0), .c (.ptr 2 0)] [.box [.lst 1 ns], .box [.lst 3 ss], .box [.row 3], .frow 1 rs] (.c (.bool (p x))) [.box [.lst 1 ns], .box [.lst 3 ss], .box [.row 3], .frow 1 rs]) : PCp 68 [.c (.lst 1 (l.map encS)), .c (.fn g [.ptr 0 0, .ptr 1 0, .ptr 2 0])] [.box [.lst 1 ns], .box [.lst 3 ss], .box [.row 3], .frow 1 rs] (.c (.int .i64 (idxP p l))) [.box [.lst 1 ns], .box [.lst 3 ss], .box [.row 3], .frow 1 rs] := by
  have hlm : (l.map encS).length = l.length := List.length_map ..
  refine fn_sound (mt := mts) tab_fits tab_mixed Tryz.func68 (by rfl) (by kernel_rfl) (by kernel_rfl) Tryz.results68 (Nat.le_of_ble_eq_true (by kernel_rfl)) ?_
  conv => whnf
  refine loop_count (l.length) [] [0, 1, 7, 8] (fun k (_ : Unit) => ⟨[(0, .c (.lst 1 (l.map encS))), (1, .c (.fn g [.ptr 0 0, .ptr 1 0, .ptr 2 0])), (7, .c (.int .i64 (l.map encS).length)), (8, .c (.int .i64 k))], [(0, .box [.lst 1 ns]), (1, .box [.lst 3 ss]), (2, .box [.row 3]), (3, .frow 1 rs)], 4⟩) (fun k (_ : Unit) => ∀ i (hi : i < l.length), i < k → p l[i] = false) (()) ?_ ?_ ?_
  · conv => whnf
    exact ⟨rfl, by intro i hi h; omega⟩
  · intro k _ hk hi
    conv => whnf
    repeat' (first
      | (refine Split.mk (fun h => ?_) (fun h => ?_) <;> (try simp only [decide_eq_true_eq, decide_eq_false_iff_not, Bool.not_eq_true', Bool.not_eq_false', beq_iff_eq, beq_eq_false_iff_ne, bne_iff_ne, bne_eq_false_iff_eq] at h) <;> (first | (exfalso; first | omega | exact h trivial) | (conv => whnf)))
      | (refine CondG.mk (fun h => ?_) (fun h => ?_) <;> (try simp only [decide_eq_true_eq, decide_eq_false_iff_not, Bool.not_eq_true', Bool.not_eq_false', beq_iff_eq, beq_eq_false_iff_ne, bne_iff_ne, bne_eq_false_iff_eq] at h) <;> (first | (exfalso; first | omega | exact h trivial) | (conv => whnf)))
      | (refine CallX.mk _ _ (by first | exact hg l[k] (List.getElem_mem hk)) ?_; conv => whnf)
      | (refine CallG.mk _ _ (by first | exact hg l[k] (List.getElem_mem hk)) ?_; conv => whnf)
      | (refine Ask.mk (by first | omega | (unfold roomOK; simp [cutRows]; done) | (unfold roomOK; simp [cutRows]; omega) | (simp [cutRows]; done) | (simp [cutRows]; omega)) ?_; conv => whnf)
      | (refine AppG.mk (by first | omega | (unfold roomOK; simp [cutRows]; done) | (unfold roomOK; simp [cutRows]; omega) | (simp [cutRows]; done) | (simp [cutRows]; omega)) ?_; conv => whnf)
      | (refine SliceG.fr ?_; conv => whnf)
      | (refine idx_at _ (by with_reducible rfl) (by first | assumption | omega) ?_; conv => whnf)
      | ((with_reducible refine row_map (by first | assumption | omega) ?_); conv => whnf)
      | ((with_reducible refine row_set (by first | assumption | omega | (simp only [List.length_set]; omega) | (simp; omega)) ?_); conv => whnf)
      | fail)
    · exact .mk ⟨by rw [idxP_hit hk (fun i hi' => hi i (by omega) hi') h]; rfl, rfl⟩
    · refine count_next () hk (by rw [wrap_succ hk (by omega)]; rfl) ?_
      exact all_succ' hi h
  · intro _ hi
    conv => whnf
    repeat' (first
      | (refine Split.mk (fun h => ?_) (fun h => ?_) <;> (try simp only [decide_eq_true_eq, decide_eq_false_iff_not, Bool.not_eq_true', Bool.not_eq_false', beq_iff_eq, beq_eq_false_iff_ne] at h) <;> (first | (exfalso; first | omega | exact h trivial) | (conv => whnf)))
      | (refine CondG.mk (fun h => ?_) (fun h => ?_) <;> (try simp only [decide_eq_true_eq, decide_eq_false_iff_not, Bool.not_eq_true', Bool.not_eq_false', beq_iff_eq, beq_eq_false_iff_ne] at h) <;> (first | (exfalso; first | omega | exact h trivial) | (conv => whnf)))
      | (refine Ask.mk (by first | omega | (unfold roomOK; simp [cutRows]; done) | (unfold roomOK; simp [cutRows]; omega)) ?_; conv => whnf)
      | (refine AppG.mk (by first | omega | (unfold roomOK; simp [cutRows]; done) | (unfold roomOK; simp [cutRows]; omega)) ?_; conv => whnf)
      | (refine SliceG.fr ?_; conv => whnf)
      | fail)
    exact .mk ⟨by rw [idxP_miss (fun i h => hi i h h)]; rfl, rfl⟩
set_option maxRecDepth 100000 in
set_option maxHeartbeats 4000000 in
theorem ixEC_pc (ns ss rs : List (List V)) (g : Nat) (p : ByteArray → Bool) (l : List ByteArray) (hl : l.length ≤ 1000000) (hg : ∀ x ∈ l, PCp g [.c (.str (x)), .c (.ptr 0 0), .c (.ptr 1 0), .c (.ptr 2 0)] [.box [.lst 1 ns], .box [.lst 3 ss], .box [.row 3], .frow 1 rs] (.c (.bool (p x))) [.box [.lst 1 ns], .box [.lst 3 ss], .box [.row 3], .frow 1 rs]) : PCp 44 [.c (.lst 1 (l.map encS)), .c (.fn g [.ptr 0 0, .ptr 1 0, .ptr 2 0])] [.box [.lst 1 ns], .box [.lst 3 ss], .box [.row 3], .frow 1 rs] (.c (.bool (l.any p))) [.box [.lst 1 ns], .box [.lst 3 ss], .box [.row 3], .frow 1 rs] := by
  refine fn_sound (mt := mts) tab_fits tab_mixed Tryz.func44 (by rfl) (by kernel_rfl) (by kernel_rfl) Tryz.results44 (Nat.le_of_ble_eq_true (by kernel_rfl)) ?_
  conv => whnf
  repeat' (first
    | (refine Split.mk (fun h => ?_) (fun h => ?_) <;> (try simp only [decide_eq_true_eq, decide_eq_false_iff_not, Bool.not_eq_true', Bool.not_eq_false', beq_iff_eq, beq_eq_false_iff_ne] at h) <;> (first | (exfalso; first | omega | exact h trivial) | (conv => whnf)))
    | (refine CondG.mk (fun h => ?_) (fun h => ?_) <;> (try simp only [decide_eq_true_eq, decide_eq_false_iff_not, Bool.not_eq_true', Bool.not_eq_false', beq_iff_eq, beq_eq_false_iff_ne] at h) <;> (first | (exfalso; first | omega | exact h trivial) | (conv => whnf)))
    | (refine CallX.mk _ _ (by first | exact ixE_pc ns ss rs g p l hl hg) ?_; conv => whnf)
    | (refine CallG.mk _ _ (by first | exact ixE_pc ns ss rs g p l hl hg) ?_; conv => whnf)
    | (refine Ask.mk (by first | omega | (unfold roomOK; simp [cutRows]; done) | (unfold roomOK; simp [cutRows]; omega)) ?_; conv => whnf)
    | (refine AppG.mk (by first | omega | (unfold roomOK; simp [cutRows]; done) | (unfold roomOK; simp [cutRows]; omega)) ?_; conv => whnf)
    | (refine SliceG.fr ?_; conv => whnf)
    | fail)
  exact .mk ⟨by rw [← idxP_any]; rfl, rfl⟩
set_option maxRecDepth 100000 in
set_option maxHeartbeats 4000000 in
theorem rExp1_pc (s : List Sv) (hs : SvOk s) (nots set : List ByteArray) (hn : nots.length ≤ 1000000) (hl : set.length ≤ 1000000) (k : ByteArray) (hk : hasSv s k = true) :
    PCp 54 [.c (.str k), .c (.ptr 0 0), .c (.ptr 1 0), .c (.ptr 2 0)] [.box [.lst 1 (nots.map encS)], .box [.lst 3 (s.map encSv)], .box [.row 3], .frow 1 (set.map encS)] (.c (.bool (!decide (k ∈ nots) && !needB s set k))) [.box [.lst 1 (nots.map encS)], .box [.lst 3 (s.map encSv)], .box [.row 3], .frow 1 (set.map encS)] := by
  refine fn_sound (mt := mts) tab_fits tab_mixed Tryz.func54 (by rfl) (by kernel_rfl) (by kernel_rfl) Tryz.results54 (Nat.le_of_ble_eq_true (by kernel_rfl)) ?_
  conv => whnf
  repeat' (first
    | (refine Split.mk (fun h => ?_) (fun h => ?_) <;> (try simp only [decide_eq_true_eq, decide_eq_false_iff_not, Bool.not_eq_true', Bool.not_eq_false', beq_iff_eq, beq_eq_false_iff_ne, bne_iff_ne, bne_eq_false_iff_eq] at h) <;> (first | (exfalso; first | omega | exact h trivial) | (conv => whnf)))
    | (refine CondG.mk (fun h => ?_) (fun h => ?_) <;> (try simp only [decide_eq_true_eq, decide_eq_false_iff_not, Bool.not_eq_true', Bool.not_eq_false', beq_iff_eq, beq_eq_false_iff_ne, bne_iff_ne, bne_eq_false_iff_eq] at h) <;> (first | (exfalso; first | omega | exact h trivial) | (conv => whnf)))
    | (refine CallX.mk _ _ (by first | exact containsS_pc k nots hn | exact rNeeds_pc s hs k hk set hl) ?_; conv => whnf)
    | (refine CallG.mk _ _ (by first | exact containsS_pc k nots hn | exact rNeeds_pc s hs k hk set hl) ?_; conv => whnf)
    | (refine Ask.mk (by first | omega | (unfold roomOK; simp [cutRows]; done) | (unfold roomOK; simp [cutRows]; omega) | (simp [cutRows]; done) | (simp [cutRows]; omega)) ?_; conv => whnf)
    | (refine AppG.mk (by first | omega | (unfold roomOK; simp [cutRows]; done) | (unfold roomOK; simp [cutRows]; omega) | (simp [cutRows]; done) | (simp [cutRows]; omega)) ?_; conv => whnf)
    | (refine SliceG.fr ?_; conv => whnf)
    | (refine idx_at _ (by with_reducible rfl) (by first | assumption | omega) ?_; conv => whnf)
    | ((with_reducible refine row_map (by first | assumption | omega) ?_); conv => whnf)
    | ((with_reducible refine row_set (by first | assumption | omega | (simp only [List.length_set]; omega) | (simp; omega)) ?_); conv => whnf)
    | fail)
  all_goals exact .mk ⟨by simp [oneOf, h], rfl⟩
theorem rExpC_pc (s : List Sv) (hs : SvOk s) (nots set down : List ByteArray) (hn : nots.length ≤ 1000000) (hl : set.length ≤ 1000000) (hd : StOkL s down) :
    PCp 44 [.c (.lst 1 (down.map encS)), .c (.fn 54 [.ptr 0 0, .ptr 1 0, .ptr 2 0])] [.box [.lst 1 (nots.map encS)], .box [.lst 3 (s.map encSv)], .box [.row 3], .row 9 1 (set.map encS)] (.c (.bool (down.any fun k => !decide (k ∈ nots) && !needB s set k))) [.box [.lst 1 (nots.map encS)], .box [.lst 3 (s.map encSv)], .box [.row 3], .frow 1 (set.map encS)] := by
  have hdl := hd.len
  have h := ixEC_pc (nots.map encS) (s.map encSv) (set.map encS) 54 (fun k => !decide (k ∈ nots) && !needB s set k) down (by omega) (fun k hk => rExp1_pc s hs nots set hn hl k (hd.has k hk))
  refine PCx.frz 3 rfl h ?_
  rintro _ _ ⟨rfl, rfl⟩
  exact Nat.le_refl _
def expM (s : List Sv) (down up : List ByteArray) : List Nat := (bestD (gD s (susD s down up) (unexD s down up) down) (susD s down up).length (2 ^ (susD s down up).length)).1
def expDE (s : List Sv) (down up : List ByteArray) : Int := if 14 < (susD s down up).length then 12 else if 1000 < (expM s down up).length then 2 else 0
def expD (s : List Sv) (down up : List ByteArray) : List (List ByteArray) := if expDE s down up = 0 then insSort cmpSL ((expM s down up).map (pickM (susD s down up))) else []
set_option maxRecDepth 100000 in
set_option maxHeartbeats 4000000 in
theorem rExpls_pc (s : List Sv) (hs : SvOk s) (down up : List ByteArray) (hd : StOkL s down) (hu : StOkL s up) :
    PCp 17 [.c (.lst 3 (s.map encSv)), .c (.lst 1 (down.map encS)), .c (.lst 1 (up.map encS))] [] (.tup [.c (.lst 1 ((expD s down up).map encLs)), .c (.int .i64 (expDE s down up))]) [] := by
  have hx : ∀ x ∈ s, x.els.length ≤ 1000 := fun x hx => Nat.le_trans (hs.each x hx).len (by decide)
  have hdl := hd.len
  have hul := hu.len
  have hsus := rSus_pc s hs.len hx down up (by omega) (by omega)
  have hun := rUnex_pc s hs down up hd hu
  have hE : expDE s down up = if 14 < (susD s down up).length then 12 else if 1000 < (expM s down up).length then 2 else 0 := rfl
  have hV : expD s down up = if expDE s down up = 0 then insSort cmpSL ((expM s down up).map (pickM (susD s down up))) else [] := rfl
  have hM : expM s down up = (bestD (gD s (susD s down up) (unexD s down up) down) (susD s down up).length (2 ^ (susD s down up).length)).1 := rfl
  have hnl : (unexD s down up).length ≤ 1000000 := by have : (unexD s down up).length ≤ down.length := List.length_filter_le ..; omega
  have hsl0 : (susD s down up).length ≤ 1000000 := Nat.le_trans (List.length_filter_le ..) (elsV_len hs.len hx _)
  generalize expDE s down up = E at *
  generalize expD s down up = W at *
  generalize expM s down up = M at *
  generalize unexD s down up = nots at *
  generalize susD s down up = l at *
  have hlm : (l.map encS).length = l.length := List.length_map ..
  refine fn_sound (mt := mts) tab_fits tab_mixed Tryz.func17 (by rfl) (by kernel_rfl) (by kernel_rfl) Tryz.results17 (Nat.le_of_ble_eq_true (by kernel_rfl)) ?_
  conv => whnf
  repeat' (first
    | (refine Split.mk (fun h => ?_) (fun h => ?_) <;> (try simp only [decide_eq_true_eq, decide_eq_false_iff_not, Bool.not_eq_true', Bool.not_eq_false', beq_iff_eq, beq_eq_false_iff_ne, bne_iff_ne, bne_eq_false_iff_eq] at h) <;> (first | (exfalso; first | omega | exact h trivial) | (conv => whnf)))
    | (refine CondG.mk (fun h => ?_) (fun h => ?_) <;> (try simp only [decide_eq_true_eq, decide_eq_false_iff_not, Bool.not_eq_true', Bool.not_eq_false', beq_iff_eq, beq_eq_false_iff_ne, bne_iff_ne, bne_eq_false_iff_eq] at h) <;> (first | (exfalso; first | omega | exact h trivial) | (conv => whnf)))
    | (refine CallX.mk _ _ (by first | exact hsus) ?_; conv => whnf)
    | (refine CallG.mk _ _ (by first | exact hsus) ?_; conv => whnf)
    | (refine Ask.mk (by first | omega | (unfold roomOK; simp [cutRows]; done) | (unfold roomOK; simp [cutRows]; omega) | (simp [cutRows]; done) | (simp [cutRows]; omega)) ?_; conv => whnf)
    | (refine AppG.mk (by first | omega | (unfold roomOK; simp [cutRows]; done) | (unfold roomOK; simp [cutRows]; omega) | (simp [cutRows]; done) | (simp [cutRows]; omega)) ?_; conv => whnf)
    | (refine SliceG.fr ?_; conv => whnf)
    | (refine idx_at _ (by with_reducible rfl) (by first | assumption | omega) ?_; conv => whnf)
    | ((with_reducible refine row_map (by first | assumption | omega) ?_); conv => whnf)
    | ((with_reducible refine row_set (by first | assumption | omega | (simp only [List.length_set]; omega) | (simp; omega)) ?_); conv => whnf)
    | fail)
  · have h14 : 14 < l.length := by omega
    rw [if_pos h14] at hE
    rw [hE, if_neg (by decide)] at hV
    rw [hE, hV]
    refine .weak [] (.tup _ _ rfl ?_) rfl (Nat.le_refl _)
    intro i a b ha hb
    match i with
    | 0 => cases ha; cases hb; exact .nil 1
    | 1 => cases ha; cases hb; exact .refl _
  have h14 : l.length ≤ 14 := by omega
  have hp := pow14 h14
  repeat' (first
    | (refine Split.mk (fun h => ?_) (fun h => ?_) <;> (try simp only [decide_eq_true_eq, decide_eq_false_iff_not, Bool.not_eq_true', Bool.not_eq_false', beq_iff_eq, beq_eq_false_iff_ne, bne_iff_ne, bne_eq_false_iff_eq] at h) <;> (first | (exfalso; first | omega | exact h trivial) | (conv => whnf)))
    | (refine CondG.mk (fun h => ?_) (fun h => ?_) <;> (try simp only [decide_eq_true_eq, decide_eq_false_iff_not, Bool.not_eq_true', Bool.not_eq_false', beq_iff_eq, beq_eq_false_iff_ne, bne_iff_ne, bne_eq_false_iff_eq] at h) <;> (first | (exfalso; first | omega | exact h trivial) | (conv => whnf)))
    | (refine CallX.mk _ _ (by first | exact hun) ?_; conv => whnf)
    | (refine CallG.mk _ _ (by first | exact hun) ?_; conv => whnf)
    | (refine Ask.mk (by first | omega | (unfold roomOK; simp [cutRows]; done) | (unfold roomOK; simp [cutRows]; omega) | (simp [cutRows]; done) | (simp [cutRows]; omega)) ?_; conv => whnf)
    | (refine AppG.mk (by first | omega | (unfold roomOK; simp [cutRows]; done) | (unfold roomOK; simp [cutRows]; omega) | (simp [cutRows]; done) | (simp [cutRows]; omega)) ?_; conv => whnf)
    | (refine SliceG.fr ?_; conv => whnf)
    | (refine idx_at _ (by with_reducible rfl) (by first | assumption | omega) ?_; conv => whnf)
    | ((with_reducible refine row_map (by first | assumption | omega) ?_); conv => whnf)
    | ((with_reducible refine row_set (by first | assumption | omega | (simp only [List.length_set]; omega) | (simp; omega)) ?_); conv => whnf)
    | fail)
  rw [hlm, shl1 h14]
  refine loop_count (2 ^ l.length) [.sl 10 28 1] [1, 3, 8, 9, 10, 11, 33, 34] (fun k (_ : Unit) => ⟨[(1, .c (.lst 1 (down.map encS))), (3, .c (.ptr 0 0)), (8, .c (.lst 1 (l.map encS))), (9, .c (.ptr 1 0)), (10, .c (.row 2)), (11, .c (.int .i64 (((bestD (gD s l nots down) l.length k).2 : Nat) : Int))), (33, .c (.int .u64 ((2 ^ l.length : Nat) : Int))), (34, .c (.int .u64 ((k : Nat) : Int)))], [(0, .box [.lst 3 (s.map encSv)]), (1, .box [.lst 1 (nots.map encS)]), (2, .row 28 1 (((bestD (gD s l nots down) l.length k).1.map (pickM l)).map encLs))], 3⟩) (fun k (_ : Unit) => True) (()) ?_ ?_ ?_
  · have hw : IntKind.i64.wrap ((l.length : Int) + 1) = ((l.length + 1 : Nat) : Int) := by rw [wrap_in (by omega) (by omega)]; rfl
    conv => whnf
    rw [hw]
    exact ⟨rfl, trivial⟩
  · intro k _ hk _
    have hw : IntKind.u64.wrap ((k : Int) + 1) = ((k + 1 : Nat) : Int) := u64N (n := k + 1) (by omega)
    obtain ⟨b1, b2, b3, b4⟩ := bestD_inv (gD s l nots down) l.length k
    have hB : bestD (gD s l nots down) l.length (k + 1) = if (bestD (gD s l nots down) l.length k).2 < popc k then bestD (gD s l nots down) l.length k else if !gD s l nots down k then bestD (gD s l nots down) l.length k else if popc k < (bestD (gD s l nots down) l.length k).2 then ([k], popc k) else ((bestD (gD s l nots down) l.length k).1 ++ [k], (bestD (gD s l nots down) l.length k).2) := rfl
    have hG : gD s l nots down k = !(down.any fun d => !decide (d ∈ nots) && !needB s (pickM l k) d) := rfl
    generalize gD s l nots down k = g at hB hG
    generalize bestD (gD s l nots down) l.length k = B at *
    obtain ⟨ms, le⟩ := B
    simp only at b1 b2 b3 b4
    have hmm : ((ms.map (pickM l)).map encLs).length = ms.length := by simp
    conv => whnf
    repeat' (first
      | (refine Split.mk (fun h => ?_) (fun h => ?_) <;> (try simp only [decide_eq_true_eq, decide_eq_false_iff_not, Bool.not_eq_true', Bool.not_eq_false', beq_iff_eq, beq_eq_false_iff_ne, bne_iff_ne, bne_eq_false_iff_eq] at h) <;> (first | (exfalso; first | omega | exact h trivial) | (conv => whnf)))
      | (refine CondG.mk (fun h => ?_) (fun h => ?_) <;> (try simp only [decide_eq_true_eq, decide_eq_false_iff_not, Bool.not_eq_true', Bool.not_eq_false', beq_iff_eq, beq_eq_false_iff_ne, bne_iff_ne, bne_eq_false_iff_eq] at h) <;> (first | (exfalso; first | omega | exact h trivial) | (conv => whnf)))
      | (refine CallX.mk _ _ (by first | exact ones_pc k (by omega)) ?_; conv => whnf)
      | (refine CallG.mk _ _ (by first | exact ones_pc k (by omega)) ?_; conv => whnf)
      | (refine Ask.mk (by first | omega | (unfold roomOK; simp [cutRows]; done) | (unfold roomOK; simp [cutRows]; omega) | (simp [cutRows]; done) | (simp [cutRows]; omega)) ?_; conv => whnf)
      | (refine AppG.mk (by first | omega | (unfold roomOK; simp [cutRows]; done) | (unfold roomOK; simp [cutRows]; omega) | (simp [cutRows]; done) | (simp [cutRows]; omega)) ?_; conv => whnf)
      | (refine SliceG.fr ?_; conv => whnf)
      | (refine idx_at _ (by with_reducible rfl) (by first | assumption | omega) ?_; conv => whnf)
      | ((with_reducible refine row_map (by first | assumption | omega) ?_); conv => whnf)
      | ((with_reducible refine row_set (by first | assumption | omega | (simp only [List.length_set]; omega) | (simp; omega)) ?_); conv => whnf)
      | fail)
    · rw [if_pos (by simp only; omega)] at hB
      exact count_next () hk (by rw [hw, hB]; rfl) trivial
    rw [if_neg (by simp only; omega)] at hB
    refine loop_for (l.length) [] [1, 3, 8, 9, 10, 11, 12, 13, 14, 33, 34, 43, 44, 45] (fun j (_ : Unit) => [(45, .c (.int .i64 (j : Int)))]) (fun j (_ : Unit) => [(4, .row 9 1 ((setL l k j).map encS))]) (fun j (_ : Unit) => True) (()) ?_
    conv => whnf
    refine ⟨(by first | rfl | (simp; done) | (simp; rfl)), (by trivial), ?_, ?_⟩
    · intro j _ hj _
      have hs1 := setL_len l k j
      have hsm1 : ((setL l k j).map encS).length = (setL l k j).length := List.length_map ..
      have hgd : l.getD j ⟨#[]⟩ = l[j] := by simp [List.getD_eq_getElem?_getD, List.getElem?_eq_getElem hj]
      have e1 : setL l k (j + 1) = if k.testBit j = true then setL l k j ++ [l[j]] else setL l k j := by rw [setL, hgd]
      conv => whnf
      repeat' (first
        | (refine Split.mk (fun h => ?_) (fun h => ?_) <;> (try simp only [decide_eq_true_eq, decide_eq_false_iff_not, Bool.not_eq_true', Bool.not_eq_false', beq_iff_eq, beq_eq_false_iff_ne, bne_iff_ne, bne_eq_false_iff_eq] at h) <;> (first | (exfalso; first | omega | exact h trivial) | (conv => whnf)))
        | (refine CondG.mk (fun h => ?_) (fun h => ?_) <;> (try simp only [decide_eq_true_eq, decide_eq_false_iff_not, Bool.not_eq_true', Bool.not_eq_false', beq_iff_eq, beq_eq_false_iff_ne, bne_iff_ne, bne_eq_false_iff_eq] at h) <;> (first | (exfalso; first | omega | exact h trivial) | (conv => whnf)))
        | (refine Ask.mk (by first | omega | (unfold roomOK; simp [cutRows]; done) | (unfold roomOK; simp [cutRows]; omega) | (simp [cutRows]; done) | (simp [cutRows]; omega)) ?_; conv => whnf)
        | (refine AppG.mk (by first | omega | (unfold roomOK; simp [cutRows]; done) | (unfold roomOK; simp [cutRows]; omega) | (simp [cutRows]; done) | (simp [cutRows]; omega)) ?_; conv => whnf)
        | (refine SliceG.fr ?_; conv => whnf)
        | (refine idx_at _ (by with_reducible rfl) (by first | assumption | omega) ?_; conv => whnf)
        | ((with_reducible refine row_map (by first | assumption | omega) ?_); conv => whnf)
        | ((with_reducible refine row_set (by first | assumption | omega | (simp only [List.length_set]; omega) | (simp; omega)) ?_); conv => whnf)
        | fail)
      · have q := (shbit (by omega : k < 16384) (by omega : j ≤ 14)).1 (by assumption)
        exact count_next () hj (by rw [wrap_succ hj (by omega), e1, if_pos q, List.map_append]; rfl) trivial
      · have q : ¬ k.testBit j = true := fun q => absurd ((shbit (by omega : k < 16384) (by omega : j ≤ 14)).2 q) (by assumption)
        exact count_next () hj (by rw [wrap_succ hj (by omega), e1, if_neg q]; rfl) trivial
    · intro _ _
      have hpick : setL l k l.length = pickM l k := rfl
      rw [hpick]
      have hpl := pickM_len l k
      conv => whnf
      repeat' (first
        | (refine Split.mk (fun h => ?_) (fun h => ?_) <;> (try simp only [decide_eq_true_eq, decide_eq_false_iff_not, Bool.not_eq_true', Bool.not_eq_false', beq_iff_eq, beq_eq_false_iff_ne, bne_iff_ne, bne_eq_false_iff_eq] at h) <;> (first | (exfalso; first | omega | exact h trivial) | (conv => whnf)))
        | (refine CondG.mk (fun h => ?_) (fun h => ?_) <;> (try simp only [decide_eq_true_eq, decide_eq_false_iff_not, Bool.not_eq_true', Bool.not_eq_false', beq_iff_eq, beq_eq_false_iff_ne, bne_iff_ne, bne_eq_false_iff_eq] at h) <;> (first | (exfalso; first | omega | exact h trivial) | (conv => whnf)))
        | (refine CallX.mk _ _ (by first | exact rExpC_pc s hs nots (pickM l k) down hnl (by omega) hd) ?_; conv => whnf)
        | (refine CallG.mk _ _ (by first | exact rExpC_pc s hs nots (pickM l k) down hnl (by omega) hd) ?_; conv => whnf)
        | (refine Ask.mk (by first | omega | (unfold roomOK; simp [cutRows]; done) | (unfold roomOK; simp [cutRows]; omega) | (simp [cutRows]; done) | (simp [cutRows]; omega)) ?_; conv => whnf)
        | (refine AppG.mk (by first | omega | (unfold roomOK; simp [cutRows]; done) | (unfold roomOK; simp [cutRows]; omega) | (simp [cutRows]; done) | (simp [cutRows]; omega)) ?_; conv => whnf)
        | (refine SliceG.fr ?_; conv => whnf)
        | (refine idx_at _ (by with_reducible rfl) (by first | assumption | omega) ?_; conv => whnf)
        | ((with_reducible refine row_map (by first | assumption | omega) ?_); conv => whnf)
        | ((with_reducible refine row_set (by first | assumption | omega | (simp only [List.length_set]; omega) | (simp; omega)) ?_); conv => whnf)
        | fail)
      · have ha : (down.any fun d => !decide (d ∈ nots) && !needB s (pickM l k) d) = true := by assumption
        rw [ha] at hG
        rw [hG, if_pos (by rfl)] at hB
        exact count_next () hk (by rw [hw, hB]; rfl) trivial
      all_goals
        have ha : (down.any fun d => !decide (d ∈ nots) && !needB s (pickM l k) d) = false := by assumption
        rw [ha] at hG
        rw [hG, if_neg (by decide)] at hB
      · rw [if_pos (by simp only; omega)] at hB
        exact count_next () hk (by rw [hw, hB]; rfl) trivial
      · rw [if_neg (by simp only; omega)] at hB
        exact count_next () hk (by rw [hw, hB]; simp only [List.map_append]; rfl) trivial
  · intro _ _
    obtain ⟨b1, b2, b3, b4⟩ := bestD_inv (gD s l nots down) l.length (2 ^ l.length)
    rw [← hM] at b1 b2 b3 ⊢
    have hmm : ((M.map (pickM l)).map encLs).length = M.length := by simp
    have hM2 : (M.map (pickM l)).length = M.length := List.length_map ..
    have hiS := insSort_len cmpSL (M.map (pickM l))
    rw [if_neg (by omega)] at hE
    conv => whnf
    repeat' (first
      | (refine Split.mk (fun h => ?_) (fun h => ?_) <;> (try simp only [decide_eq_true_eq, decide_eq_false_iff_not, Bool.not_eq_true', Bool.not_eq_false', beq_iff_eq, beq_eq_false_iff_ne, bne_iff_ne, bne_eq_false_iff_eq] at h) <;> (first | (exfalso; first | omega | exact h trivial) | (conv => whnf)))
      | (refine CondG.mk (fun h => ?_) (fun h => ?_) <;> (try simp only [decide_eq_true_eq, decide_eq_false_iff_not, Bool.not_eq_true', Bool.not_eq_false', beq_iff_eq, beq_eq_false_iff_ne, bne_iff_ne, bne_eq_false_iff_eq] at h) <;> (first | (exfalso; first | omega | exact h trivial) | (conv => whnf)))
      | (refine CallX.mk _ _ (by first | exact sortSS_pc (M.map (pickM l)) (fun m hm => by obtain ⟨a, _, rfl⟩ := List.mem_map.1 hm; exact Nat.le_trans (pickM_len l a) (by omega)) (by omega)) ?_; conv => whnf)
      | (refine CallG.mk _ _ (by first | exact sortSS_pc (M.map (pickM l)) (fun m hm => by obtain ⟨a, _, rfl⟩ := List.mem_map.1 hm; exact Nat.le_trans (pickM_len l a) (by omega)) (by omega)) ?_; conv => whnf)
      | (refine Ask.mk (by first | omega | (unfold roomOK; simp [cutRows]; done) | (unfold roomOK; simp [cutRows]; omega) | (simp [cutRows]; done) | (simp [cutRows]; omega)) ?_; conv => whnf)
      | (refine AppG.mk (by first | omega | (unfold roomOK; simp [cutRows]; done) | (unfold roomOK; simp [cutRows]; omega) | (simp [cutRows]; done) | (simp [cutRows]; omega)) ?_; conv => whnf)
      | (refine SliceG.fr ?_; conv => whnf)
      | (refine idx_at _ (by with_reducible rfl) (by first | assumption | omega) ?_; conv => whnf)
      | ((with_reducible refine row_map (by first | assumption | omega) ?_); conv => whnf)
      | ((with_reducible refine row_set (by first | assumption | omega | (simp only [List.length_set]; omega) | (simp; omega)) ?_); conv => whnf)
      | fail)
    · have h5 : 1000 < M.length := by omega
      rw [if_pos h5] at hE
      rw [hE, if_neg (by decide)] at hV
      rw [hE, hV]
      refine .weak [] (.tup _ _ rfl ?_) rfl (Nat.le_refl _)
      intro i a b ha hb
      match i with
      | 0 => cases ha; cases hb; exact .nil 1
      | 1 => cases ha; cases hb; exact .refl _
    · have h5 : ¬ 1000 < M.length := by omega
      rw [if_neg h5] at hE
      rw [hE, if_pos rfl] at hV
      rw [hE, hV]
      refine .frz 0 _ _ _ rfl (.weak [_] (.tup _ _ rfl ?_) rfl (Nat.le_refl _))
      intro i a b ha hb
      match i with
      | 0 => cases ha; cases hb; exact .fro 0 _ _ rfl
      | 1 => cases ha; cases hb; exact .refl _
end Go.Proofs.YtameoookmgkmfaaGreat

/- The document: what is sure, what is cleared. -/
namespace Go.Proofs.YtameoookmgkmfaaGreat
set_option linter.unusedVariables false
set_option linter.unusedSimpArgs false
open Abs

set_option maxRecDepth 100000 in
set_option maxHeartbeats 4000000 in
theorem rSure1_pc (l : List ByteArray) (hl : l.length ≤ 1000000) (x : ByteArray) : PCp 57 [.c (.str x), .c (.ptr 0 0)] [.box [.lst 1 (l.map encS)]] (.c (.bool (decide (x ∈ l)))) [.box [.lst 1 (l.map encS)]] := by
  refine fn_sound (mt := mts) tab_fits tab_mixed Tryz.func57 (by rfl) (by kernel_rfl) (by kernel_rfl) Tryz.results57 (Nat.le_of_ble_eq_true (by kernel_rfl)) ?_
  conv => whnf
  repeat' (first
    | (refine Split.mk (fun h => ?_) (fun h => ?_) <;> (try simp only [decide_eq_true_eq, decide_eq_false_iff_not, Bool.not_eq_true', Bool.not_eq_false', beq_iff_eq, beq_eq_false_iff_ne, bne_iff_ne, bne_eq_false_iff_eq] at h) <;> (first | (exfalso; first | omega | exact h trivial) | (conv => whnf)))
    | (refine CondG.mk (fun h => ?_) (fun h => ?_) <;> (try simp only [decide_eq_true_eq, decide_eq_false_iff_not, Bool.not_eq_true', Bool.not_eq_false', beq_iff_eq, beq_eq_false_iff_ne, bne_iff_ne, bne_eq_false_iff_eq] at h) <;> (first | (exfalso; first | omega | exact h trivial) | (conv => whnf)))
    | (refine CallX.mk _ _ (by first | exact containsS_pc x l hl) ?_; conv => whnf)
    | (refine CallG.mk _ _ (by first | exact containsS_pc x l hl) ?_; conv => whnf)
    | (refine Ask.mk (by first | omega | (unfold roomOK; simp [cutRows]; done) | (unfold roomOK; simp [cutRows]; omega) | (simp [cutRows]; done) | (simp [cutRows]; omega)) ?_; conv => whnf)
    | (refine AppG.mk (by first | omega | (unfold roomOK; simp [cutRows]; done) | (unfold roomOK; simp [cutRows]; omega) | (simp [cutRows]; done) | (simp [cutRows]; omega)) ?_; conv => whnf)
    | (refine SliceG.fr ?_; conv => whnf)
    | (refine idx_at _ (by with_reducible rfl) (by first | assumption | omega) ?_; conv => whnf)
    | ((with_reducible refine row_map (by first | assumption | omega) ?_); conv => whnf)
    | ((with_reducible refine row_set (by first | assumption | omega | (simp only [List.length_set]; omega) | (simp; omega)) ?_); conv => whnf)
    | fail)
  exact .mk ⟨rfl, rfl⟩
set_option maxRecDepth 100000 in
set_option maxHeartbeats 4000000 in
theorem rSure21_pc (q : List ByteArray) (hl : q.length ≤ 1000000) (x : ByteArray) : PCp 59 [.c (.lst 1 (q.map encS)), .c (.ptr 0 0)] [.box [.str x]] (.c (.bool (!decide (x ∈ q)))) [.box [.str x]] := by
  refine fn_sound (mt := mts) tab_fits tab_mixed Tryz.func59 (by rfl) (by kernel_rfl) (by kernel_rfl) Tryz.results59 (Nat.le_of_ble_eq_true (by kernel_rfl)) ?_
  conv => whnf
  repeat' (first
    | (refine Split.mk (fun h => ?_) (fun h => ?_) <;> (try simp only [decide_eq_true_eq, decide_eq_false_iff_not, Bool.not_eq_true', Bool.not_eq_false', beq_iff_eq, beq_eq_false_iff_ne, bne_iff_ne, bne_eq_false_iff_eq] at h) <;> (first | (exfalso; first | omega | exact h trivial) | (conv => whnf)))
    | (refine CondG.mk (fun h => ?_) (fun h => ?_) <;> (try simp only [decide_eq_true_eq, decide_eq_false_iff_not, Bool.not_eq_true', Bool.not_eq_false', beq_iff_eq, beq_eq_false_iff_ne, bne_iff_ne, bne_eq_false_iff_eq] at h) <;> (first | (exfalso; first | omega | exact h trivial) | (conv => whnf)))
    | (refine CallX.mk _ _ (by first | exact containsS_pc x q hl) ?_; conv => whnf)
    | (refine CallG.mk _ _ (by first | exact containsS_pc x q hl) ?_; conv => whnf)
    | (refine Ask.mk (by first | omega | (unfold roomOK; simp [cutRows]; done) | (unfold roomOK; simp [cutRows]; omega) | (simp [cutRows]; done) | (simp [cutRows]; omega)) ?_; conv => whnf)
    | (refine AppG.mk (by first | omega | (unfold roomOK; simp [cutRows]; done) | (unfold roomOK; simp [cutRows]; omega) | (simp [cutRows]; done) | (simp [cutRows]; omega)) ?_; conv => whnf)
    | (refine SliceG.fr ?_; conv => whnf)
    | (refine idx_at _ (by with_reducible rfl) (by first | assumption | omega) ?_; conv => whnf)
    | ((with_reducible refine row_map (by first | assumption | omega) ?_); conv => whnf)
    | ((with_reducible refine row_set (by first | assumption | omega | (simp only [List.length_set]; omega) | (simp; omega)) ?_); conv => whnf)
    | fail)
  exact .mk ⟨rfl, rfl⟩
set_option maxRecDepth 100000 in
set_option maxHeartbeats 4000000 in
theorem rSure2_pc (L : List (List ByteArray)) (hL : L.length ≤ 1000000) (hr : ∀ q ∈ L, q.length ≤ 1000000) (x : ByteArray) : PCp 58 [.c (.str x), .c (.ptr 0 0)] [.box [.lst 1 (L.map encLs)]] (.c (.bool (L.any fun q => !decide (x ∈ q)))) [.box [.lst 1 (L.map encLs)]] := by
  refine fn_sound (mt := mts) tab_fits tab_mixed Tryz.func58 (by rfl) (by kernel_rfl) (by kernel_rfl) Tryz.results58 (Nat.le_of_ble_eq_true (by kernel_rfl)) ?_
  conv => whnf
  repeat' (first
    | (refine Split.mk (fun h => ?_) (fun h => ?_) <;> (try simp only [decide_eq_true_eq, decide_eq_false_iff_not, Bool.not_eq_true', Bool.not_eq_false', beq_iff_eq, beq_eq_false_iff_ne, bne_iff_ne, bne_eq_false_iff_eq] at h) <;> (first | (exfalso; first | omega | exact h trivial) | (conv => whnf)))
    | (refine CondG.mk (fun h => ?_) (fun h => ?_) <;> (try simp only [decide_eq_true_eq, decide_eq_false_iff_not, Bool.not_eq_true', Bool.not_eq_false', beq_iff_eq, beq_eq_false_iff_ne, bne_iff_ne, bne_eq_false_iff_eq] at h) <;> (first | (exfalso; first | omega | exact h trivial) | (conv => whnf)))
    | (refine CallX.mk _ _ (by first | exact ixSSC_pc x 59 (fun q => !decide (x ∈ q)) L hL (fun q hq => rSure21_pc q (hr q hq) x)) ?_; conv => whnf)
    | (refine CallG.mk _ _ (by first | exact ixSSC_pc x 59 (fun q => !decide (x ∈ q)) L hL (fun q hq => rSure21_pc q (hr q hq) x)) ?_; conv => whnf)
    | (refine Ask.mk (by first | omega | (unfold roomOK; simp [cutRows]; done) | (unfold roomOK; simp [cutRows]; omega) | (simp [cutRows]; done) | (simp [cutRows]; omega)) ?_; conv => whnf)
    | (refine AppG.mk (by first | omega | (unfold roomOK; simp [cutRows]; done) | (unfold roomOK; simp [cutRows]; omega) | (simp [cutRows]; done) | (simp [cutRows]; omega)) ?_; conv => whnf)
    | (refine SliceG.fr ?_; conv => whnf)
    | (refine idx_at _ (by with_reducible rfl) (by first | assumption | omega) ?_; conv => whnf)
    | ((with_reducible refine row_map (by first | assumption | omega) ?_); conv => whnf)
    | ((with_reducible refine row_set (by first | assumption | omega | (simp only [List.length_set]; omega) | (simp; omega)) ?_); conv => whnf)
    | fail)
  exact .mk ⟨rfl, rfl⟩
def sureD (s : List Sv) (down : List ByteArray) (L : List (List ByteArray)) : List ByteArray := (elsV s fun k => decide (k ∈ down)).filter fun x => !(L.any fun q => !decide (x ∈ q))
set_option maxRecDepth 100000 in
set_option maxHeartbeats 4000000 in
theorem rSure_pc (s : List Sv) (hl : s.length ≤ 500) (hx : ∀ x ∈ s, x.els.length ≤ 1000) (down : List ByteArray) (hd : down.length ≤ 1000000) (L : List (List ByteArray)) (hL : L.length ≤ 1000000) (hr : ∀ q ∈ L, q.length ≤ 1000000) :
    PCp 18 [.c (.lst 3 (s.map encSv)), .c (.lst 1 (down.map encS)), .c (.lst 1 (L.map encLs))] [] (.c (.lst 1 ((sureD s down L).map encS))) [] := by
  refine fn_sound (mt := mts) tab_fits tab_mixed Tryz.func18 (by rfl) (by kernel_rfl) (by kernel_rfl) Tryz.results18 (Nat.le_of_ble_eq_true (by kernel_rfl)) ?_
  conv => whnf
  repeat' (first
    | (refine Split.mk (fun h => ?_) (fun h => ?_) <;> (try simp only [decide_eq_true_eq, decide_eq_false_iff_not, Bool.not_eq_true', Bool.not_eq_false', beq_iff_eq, beq_eq_false_iff_ne, bne_iff_ne, bne_eq_false_iff_eq] at h) <;> (first | (exfalso; first | omega | exact h trivial) | (conv => whnf)))
    | (refine CondG.mk (fun h => ?_) (fun h => ?_) <;> (try simp only [decide_eq_true_eq, decide_eq_false_iff_not, Bool.not_eq_true', Bool.not_eq_false', beq_iff_eq, beq_eq_false_iff_ne, bne_iff_ne, bne_eq_false_iff_eq] at h) <;> (first | (exfalso; first | omega | exact h trivial) | (conv => whnf)))
    | (refine CallX.mk _ _ (by first | exact rElsC_pc (down.map encS) 57 (fun k => decide (k ∈ down)) (fun k => rSure1_pc down hd k) s (by omega) hx | exact delfS1_pc (L.map encLs) 58 (fun x => L.any fun q => !decide (x ∈ q)) (elsV s fun k => decide (k ∈ down)) (elsV_len hl hx _) (fun x _ => rSure2_pc L hL hr x)) ?_; conv => whnf)
    | (refine CallG.mk _ _ (by first | exact rElsC_pc (down.map encS) 57 (fun k => decide (k ∈ down)) (fun k => rSure1_pc down hd k) s (by omega) hx | exact delfS1_pc (L.map encLs) 58 (fun x => L.any fun q => !decide (x ∈ q)) (elsV s fun k => decide (k ∈ down)) (elsV_len hl hx _) (fun x _ => rSure2_pc L hL hr x)) ?_; conv => whnf)
    | (refine Ask.mk (by first | omega | (unfold roomOK; simp [cutRows]; done) | (unfold roomOK; simp [cutRows]; omega) | (simp [cutRows]; done) | (simp [cutRows]; omega)) ?_; conv => whnf)
    | (refine AppG.mk (by first | omega | (unfold roomOK; simp [cutRows]; done) | (unfold roomOK; simp [cutRows]; omega) | (simp [cutRows]; done) | (simp [cutRows]; omega)) ?_; conv => whnf)
    | (refine SliceG.fr ?_; conv => whnf)
    | (refine idx_at _ (by with_reducible rfl) (by first | assumption | omega) ?_; conv => whnf)
    | ((with_reducible refine row_map (by first | assumption | omega) ?_); conv => whnf)
    | ((with_reducible refine row_set (by first | assumption | omega | (simp only [List.length_set]; omega) | (simp; omega)) ?_); conv => whnf)
    | fail)
  refine .frz 0 _ _ _ rfl (finl (os := []) (t := [.frow 1 _]) (l := 0) rfl rfl (by decide))
set_option maxRecDepth 100000 in
set_option maxHeartbeats 4000000 in
theorem rClr1_pc (l : List ByteArray) (hl : l.length ≤ 1000000) (x : ByteArray) : PCp 60 [.c (.str x), .c (.ptr 0 0)] [.box [.lst 1 (l.map encS)]] (.c (.bool (decide (x ∈ l)))) [.box [.lst 1 (l.map encS)]] := by
  refine fn_sound (mt := mts) tab_fits tab_mixed Tryz.func60 (by rfl) (by kernel_rfl) (by kernel_rfl) Tryz.results60 (Nat.le_of_ble_eq_true (by kernel_rfl)) ?_
  conv => whnf
  repeat' (first
    | (refine Split.mk (fun h => ?_) (fun h => ?_) <;> (try simp only [decide_eq_true_eq, decide_eq_false_iff_not, Bool.not_eq_true', Bool.not_eq_false', beq_iff_eq, beq_eq_false_iff_ne, bne_iff_ne, bne_eq_false_iff_eq] at h) <;> (first | (exfalso; first | omega | exact h trivial) | (conv => whnf)))
    | (refine CondG.mk (fun h => ?_) (fun h => ?_) <;> (try simp only [decide_eq_true_eq, decide_eq_false_iff_not, Bool.not_eq_true', Bool.not_eq_false', beq_iff_eq, beq_eq_false_iff_ne, bne_iff_ne, bne_eq_false_iff_eq] at h) <;> (first | (exfalso; first | omega | exact h trivial) | (conv => whnf)))
    | (refine CallX.mk _ _ (by first | exact containsS_pc x l hl) ?_; conv => whnf)
    | (refine CallG.mk _ _ (by first | exact containsS_pc x l hl) ?_; conv => whnf)
    | (refine Ask.mk (by first | omega | (unfold roomOK; simp [cutRows]; done) | (unfold roomOK; simp [cutRows]; omega) | (simp [cutRows]; done) | (simp [cutRows]; omega)) ?_; conv => whnf)
    | (refine AppG.mk (by first | omega | (unfold roomOK; simp [cutRows]; done) | (unfold roomOK; simp [cutRows]; omega) | (simp [cutRows]; done) | (simp [cutRows]; omega)) ?_; conv => whnf)
    | (refine SliceG.fr ?_; conv => whnf)
    | (refine idx_at _ (by with_reducible rfl) (by first | assumption | omega) ?_; conv => whnf)
    | ((with_reducible refine row_map (by first | assumption | omega) ?_); conv => whnf)
    | ((with_reducible refine row_set (by first | assumption | omega | (simp only [List.length_set]; omega) | (simp; omega)) ?_); conv => whnf)
    | fail)
  exact .mk ⟨rfl, rfl⟩
set_option maxRecDepth 100000 in
set_option maxHeartbeats 4000000 in
theorem rClr21_pc (q : List ByteArray) (hl : q.length ≤ 1000000) (x : ByteArray) : PCp 62 [.c (.lst 1 (q.map encS)), .c (.ptr 0 0)] [.box [.str x]] (.c (.bool (decide (x ∈ q)))) [.box [.str x]] := by
  refine fn_sound (mt := mts) tab_fits tab_mixed Tryz.func62 (by rfl) (by kernel_rfl) (by kernel_rfl) Tryz.results62 (Nat.le_of_ble_eq_true (by kernel_rfl)) ?_
  conv => whnf
  repeat' (first
    | (refine Split.mk (fun h => ?_) (fun h => ?_) <;> (try simp only [decide_eq_true_eq, decide_eq_false_iff_not, Bool.not_eq_true', Bool.not_eq_false', beq_iff_eq, beq_eq_false_iff_ne, bne_iff_ne, bne_eq_false_iff_eq] at h) <;> (first | (exfalso; first | omega | exact h trivial) | (conv => whnf)))
    | (refine CondG.mk (fun h => ?_) (fun h => ?_) <;> (try simp only [decide_eq_true_eq, decide_eq_false_iff_not, Bool.not_eq_true', Bool.not_eq_false', beq_iff_eq, beq_eq_false_iff_ne, bne_iff_ne, bne_eq_false_iff_eq] at h) <;> (first | (exfalso; first | omega | exact h trivial) | (conv => whnf)))
    | (refine CallX.mk _ _ (by first | exact containsS_pc x q hl) ?_; conv => whnf)
    | (refine CallG.mk _ _ (by first | exact containsS_pc x q hl) ?_; conv => whnf)
    | (refine Ask.mk (by first | omega | (unfold roomOK; simp [cutRows]; done) | (unfold roomOK; simp [cutRows]; omega) | (simp [cutRows]; done) | (simp [cutRows]; omega)) ?_; conv => whnf)
    | (refine AppG.mk (by first | omega | (unfold roomOK; simp [cutRows]; done) | (unfold roomOK; simp [cutRows]; omega) | (simp [cutRows]; done) | (simp [cutRows]; omega)) ?_; conv => whnf)
    | (refine SliceG.fr ?_; conv => whnf)
    | (refine idx_at _ (by with_reducible rfl) (by first | assumption | omega) ?_; conv => whnf)
    | ((with_reducible refine row_map (by first | assumption | omega) ?_); conv => whnf)
    | ((with_reducible refine row_set (by first | assumption | omega | (simp only [List.length_set]; omega) | (simp; omega)) ?_); conv => whnf)
    | fail)
  exact .mk ⟨rfl, rfl⟩
set_option maxRecDepth 100000 in
set_option maxHeartbeats 4000000 in
theorem rClr2_pc (L : List (List ByteArray)) (hL : L.length ≤ 1000000) (hr : ∀ q ∈ L, q.length ≤ 1000000) (x : ByteArray) : PCp 61 [.c (.str x), .c (.ptr 0 0)] [.box [.lst 1 (L.map encLs)]] (.c (.bool (L.any fun q => decide (x ∈ q)))) [.box [.lst 1 (L.map encLs)]] := by
  refine fn_sound (mt := mts) tab_fits tab_mixed Tryz.func61 (by rfl) (by kernel_rfl) (by kernel_rfl) Tryz.results61 (Nat.le_of_ble_eq_true (by kernel_rfl)) ?_
  conv => whnf
  repeat' (first
    | (refine Split.mk (fun h => ?_) (fun h => ?_) <;> (try simp only [decide_eq_true_eq, decide_eq_false_iff_not, Bool.not_eq_true', Bool.not_eq_false', beq_iff_eq, beq_eq_false_iff_ne, bne_iff_ne, bne_eq_false_iff_eq] at h) <;> (first | (exfalso; first | omega | exact h trivial) | (conv => whnf)))
    | (refine CondG.mk (fun h => ?_) (fun h => ?_) <;> (try simp only [decide_eq_true_eq, decide_eq_false_iff_not, Bool.not_eq_true', Bool.not_eq_false', beq_iff_eq, beq_eq_false_iff_ne, bne_iff_ne, bne_eq_false_iff_eq] at h) <;> (first | (exfalso; first | omega | exact h trivial) | (conv => whnf)))
    | (refine CallX.mk _ _ (by first | exact ixSSC_pc x 62 (fun q => decide (x ∈ q)) L hL (fun q hq => rClr21_pc q (hr q hq) x)) ?_; conv => whnf)
    | (refine CallG.mk _ _ (by first | exact ixSSC_pc x 62 (fun q => decide (x ∈ q)) L hL (fun q hq => rClr21_pc q (hr q hq) x)) ?_; conv => whnf)
    | (refine Ask.mk (by first | omega | (unfold roomOK; simp [cutRows]; done) | (unfold roomOK; simp [cutRows]; omega) | (simp [cutRows]; done) | (simp [cutRows]; omega)) ?_; conv => whnf)
    | (refine AppG.mk (by first | omega | (unfold roomOK; simp [cutRows]; done) | (unfold roomOK; simp [cutRows]; omega) | (simp [cutRows]; done) | (simp [cutRows]; omega)) ?_; conv => whnf)
    | (refine SliceG.fr ?_; conv => whnf)
    | (refine idx_at _ (by with_reducible rfl) (by first | assumption | omega) ?_; conv => whnf)
    | ((with_reducible refine row_map (by first | assumption | omega) ?_); conv => whnf)
    | ((with_reducible refine row_set (by first | assumption | omega | (simp only [List.length_set]; omega) | (simp; omega)) ?_); conv => whnf)
    | fail)
  exact .mk ⟨rfl, rfl⟩
def clrD (s : List Sv) (down : List ByteArray) (L : List (List ByteArray)) : List ByteArray := (elsV s fun k => decide (k ∈ down)).filter fun x => !(L.any fun q => decide (x ∈ q))
set_option maxRecDepth 100000 in
set_option maxHeartbeats 4000000 in
theorem rClr_pc (s : List Sv) (hl : s.length ≤ 500) (hx : ∀ x ∈ s, x.els.length ≤ 1000) (down : List ByteArray) (hd : down.length ≤ 1000000) (L : List (List ByteArray)) (hL : L.length ≤ 1000000) (hr : ∀ q ∈ L, q.length ≤ 1000000) :
    PCp 19 [.c (.lst 3 (s.map encSv)), .c (.lst 1 (down.map encS)), .c (.lst 1 (L.map encLs))] [] (.c (.lst 1 ((clrD s down L).map encS))) [] := by
  refine fn_sound (mt := mts) tab_fits tab_mixed Tryz.func19 (by rfl) (by kernel_rfl) (by kernel_rfl) Tryz.results19 (Nat.le_of_ble_eq_true (by kernel_rfl)) ?_
  conv => whnf
  repeat' (first
    | (refine Split.mk (fun h => ?_) (fun h => ?_) <;> (try simp only [decide_eq_true_eq, decide_eq_false_iff_not, Bool.not_eq_true', Bool.not_eq_false', beq_iff_eq, beq_eq_false_iff_ne, bne_iff_ne, bne_eq_false_iff_eq] at h) <;> (first | (exfalso; first | omega | exact h trivial) | (conv => whnf)))
    | (refine CondG.mk (fun h => ?_) (fun h => ?_) <;> (try simp only [decide_eq_true_eq, decide_eq_false_iff_not, Bool.not_eq_true', Bool.not_eq_false', beq_iff_eq, beq_eq_false_iff_ne, bne_iff_ne, bne_eq_false_iff_eq] at h) <;> (first | (exfalso; first | omega | exact h trivial) | (conv => whnf)))
    | (refine CallX.mk _ _ (by first | exact rElsC_pc (down.map encS) 60 (fun k => decide (k ∈ down)) (fun k => rClr1_pc down hd k) s (by omega) hx | exact delfS1_pc (L.map encLs) 61 (fun x => L.any fun q => decide (x ∈ q)) (elsV s fun k => decide (k ∈ down)) (elsV_len hl hx _) (fun x _ => rClr2_pc L hL hr x)) ?_; conv => whnf)
    | (refine CallG.mk _ _ (by first | exact rElsC_pc (down.map encS) 60 (fun k => decide (k ∈ down)) (fun k => rClr1_pc down hd k) s (by omega) hx | exact delfS1_pc (L.map encLs) 61 (fun x => L.any fun q => decide (x ∈ q)) (elsV s fun k => decide (k ∈ down)) (elsV_len hl hx _) (fun x _ => rClr2_pc L hL hr x)) ?_; conv => whnf)
    | (refine Ask.mk (by first | omega | (unfold roomOK; simp [cutRows]; done) | (unfold roomOK; simp [cutRows]; omega) | (simp [cutRows]; done) | (simp [cutRows]; omega)) ?_; conv => whnf)
    | (refine AppG.mk (by first | omega | (unfold roomOK; simp [cutRows]; done) | (unfold roomOK; simp [cutRows]; omega) | (simp [cutRows]; done) | (simp [cutRows]; omega)) ?_; conv => whnf)
    | (refine SliceG.fr ?_; conv => whnf)
    | (refine idx_at _ (by with_reducible rfl) (by first | assumption | omega) ?_; conv => whnf)
    | ((with_reducible refine row_map (by first | assumption | omega) ?_); conv => whnf)
    | ((with_reducible refine row_set (by first | assumption | omega | (simp only [List.length_set]; omega) | (simp; omega)) ?_); conv => whnf)
    | fail)
  refine .frz 0 _ _ _ rfl (finl (os := []) (t := [.frow 1 _]) (l := 0) rfl rfl (by decide))
end Go.Proofs.YtameoookmgkmfaaGreat

/- The law of repairs. -/
namespace Go.Proofs.YtameoookmgkmfaaGreat
set_option linter.unusedVariables false
set_option linter.unusedSimpArgs false
open Abs

theorem eqSsS (l : List ByteArray) (hl : l.length ≤ 1000000) : PCp 20 [.c (.lst 1 (l.map encS)), .c (.lst 1 (l.map encS))] [] (.c (.bool true)) [] := by
  have := equalS_pc l l hl
  rwa [decide_eq_true rfl] at this
theorem eqSsN : PCp 20 [.c (.lst 1 []), .c .nils] [] (.c (.bool true)) [] := (eqSsS [] (by simp)).wk (P2.cons (.refl _) (P2.cons (.c (.nils 1)) P2.nil))
set_option maxRecDepth 100000 in
set_option maxHeartbeats 4000000 in
theorem blamed_pc : PCp 22 [] [] (.c (.bool true)) [] := by
  have h1 : seenErr [⟨⟨#[115]⟩, [⟨#[97]⟩], 1⟩] [⟨#[115]⟩] [] = 0 := by decide +kernel
  have h2 : susV [⟨⟨#[115]⟩, [⟨#[97]⟩], 1⟩] [⟨#[115]⟩] [] = [⟨#[97]⟩] := by decide +kernel
  have hF := suspectsP_pc [⟨⟨#[115]⟩, [⟨#[97]⟩], 1⟩] (by simp) [⟨#[115]⟩] []
  rw [if_pos h1, h2, h1] at hF
  have hG := hF.wk (gs := [.c (.lst 3 ([⟨⟨#[115]⟩, [⟨#[97]⟩], 1⟩].map encSv)), .c (.lst 1 ([⟨#[115]⟩].map encS)), .c .nils]) (P2.cons (.refl _) (P2.cons (.refl _) (P2.cons (.c (.nils 1)) P2.nil)))
  refine fn_sound (mt := mts) tab_fits tab_mixed Tryz.func22 (by rfl) (by kernel_rfl) (by kernel_rfl) Tryz.results22 (Nat.le_of_ble_eq_true (by kernel_rfl)) ?_
  conv => whnf
  repeat' (first
    | (refine Split.mk (fun h => ?_) (fun h => ?_) <;> (try simp only [decide_eq_true_eq, decide_eq_false_iff_not, Bool.not_eq_true', Bool.not_eq_false', beq_iff_eq, beq_eq_false_iff_ne, bne_iff_ne, bne_eq_false_iff_eq] at h) <;> (first | (exfalso; first | omega | exact h trivial | contradiction | (simp_all [eqRes]; done)) | (conv => whnf)))
    | (refine CondG.mk (fun h => ?_) (fun h => ?_) <;> (try simp only [decide_eq_true_eq, decide_eq_false_iff_not, Bool.not_eq_true', Bool.not_eq_false', beq_iff_eq, beq_eq_false_iff_ne, bne_iff_ne, bne_eq_false_iff_eq] at h) <;> (first | (exfalso; first | omega | exact h trivial | contradiction | (simp_all [eqRes]; done)) | (conv => whnf)))
    | (refine CallX.mk _ _ (by first | exact hG) ?_; conv => whnf)
    | (refine CallG.mk _ _ (by first | exact hG) ?_; conv => whnf)
    | (refine Ask.mk (by first | omega | (unfold roomOK; simp [cutRows]; done) | (unfold roomOK; simp [cutRows]; omega) | (simp [cutRows]; done) | (simp [cutRows]; omega)) ?_; conv => whnf)
    | (refine AppG.mk (by first | omega | (unfold roomOK; simp [cutRows]; done) | (unfold roomOK; simp [cutRows]; omega) | (simp [cutRows]; done) | (simp [cutRows]; omega)) ?_; conv => whnf)
    | (refine SliceG.fr ?_; conv => whnf)
    | (refine idx_at _ (by with_reducible rfl) (by first | assumption | omega) ?_; conv => whnf)
    | ((with_reducible refine row_map (by first | assumption | omega) ?_); conv => whnf)
    | ((with_reducible refine row_set (by first | assumption | omega | (simp only [List.length_set]; omega) | (simp; omega)) ?_); conv => whnf)
    | fail)
  refine idx_map (enc := encS) (l := [⟨#[97]⟩]) 0 (by simp) rfl ?_
  conv => whnf
  repeat' (first
    | (refine Split.mk (fun h => ?_) (fun h => ?_) <;> (try simp only [decide_eq_true_eq, decide_eq_false_iff_not, Bool.not_eq_true', Bool.not_eq_false', beq_iff_eq, beq_eq_false_iff_ne, bne_iff_ne, bne_eq_false_iff_eq] at h) <;> (first | (exfalso; first | omega | exact h trivial | contradiction | (simp_all [eqRes]; done)) | (conv => whnf)))
    | (refine CondG.mk (fun h => ?_) (fun h => ?_) <;> (try simp only [decide_eq_true_eq, decide_eq_false_iff_not, Bool.not_eq_true', Bool.not_eq_false', beq_iff_eq, beq_eq_false_iff_ne, bne_iff_ne, bne_eq_false_iff_eq] at h) <;> (first | (exfalso; first | omega | exact h trivial | contradiction | (simp_all [eqRes]; done)) | (conv => whnf)))
    | (refine Ask.mk (by first | omega | (unfold roomOK; simp [cutRows]; done) | (unfold roomOK; simp [cutRows]; omega) | (simp [cutRows]; done) | (simp [cutRows]; omega)) ?_; conv => whnf)
    | (refine AppG.mk (by first | omega | (unfold roomOK; simp [cutRows]; done) | (unfold roomOK; simp [cutRows]; omega) | (simp [cutRows]; done) | (simp [cutRows]; omega)) ?_; conv => whnf)
    | (refine SliceG.fr ?_; conv => whnf)
    | (refine idx_at _ (by with_reducible rfl) (by first | assumption | omega) ?_; conv => whnf)
    | ((with_reducible refine row_map (by first | assumption | omega) ?_); conv => whnf)
    | ((with_reducible refine row_set (by first | assumption | omega | (simp only [List.length_set]; omega) | (simp; omega)) ?_); conv => whnf)
    | fail)
  all_goals exact finb (by decide +kernel)
end Go.Proofs.YtameoookmgkmfaaGreat

/- Plain: what the document says is what the program says. -/
namespace Go.Proofs.YtameoookmgkmfaaGreat
set_option linter.unusedVariables false
set_option linter.unusedSimpArgs false
open Abs

section
variable {s : List Sv} {down up : List ByteArray}
theorem expM_eq (hs : SvOk s) (hd : StOkL s down) (hu : StOkL s up) (h14 : (susV s down up).length ≤ 14) : expM s down up = bestL s (susV s down up) down ∧ ∃ w, ∀ m ∈ expM s down up, m < 2 ^ (susV s down up).length ∧ popc m = w := by
  have hw : ∃ w, ∀ m ∈ expM s down up, m < 2 ^ (susV s down up).length ∧ popc m = w := by
    unfold expM
    rw [susD_eq hs hd hu]
    exact ⟨_, fun m hm => (bestD_inv _ _ _).1 m hm⟩
  refine ⟨?_, hw⟩
  unfold expM
  rw [susD_eq hs hd hu, unexD_eq hs hd hu]
  exact bestD_eq h14 (fun m _ => gD_good s (susV s down up) down m) _ (Nat.le_refl _)
theorem expDE_eq (hs : SvOk s) (hd : StOkL s down) (hu : StOkL s up) : expDE s down up = explE s (susV s down up) down := by
  unfold expDE explE
  rw [susD_eq hs hd hu]
  by_cases h : 14 < (susV s down up).length
  · rw [if_pos h, if_pos h]
  · rw [if_neg h, if_neg h, (expM_eq hs hd hu (by omega)).1]
theorem expD_eq (hs : SvOk s) (hd : StOkL s down) (hu : StOkL s up) : expD s down up = explV s (susV s down up) down := by
  unfold expD explV
  rw [expDE_eq hs hd hu]
  by_cases h : explE s (susV s down up) down = 0
  · have h14 : (susV s down up).length ≤ 14 := by
      unfold explE at h
      split at h <;> omega
    obtain ⟨h1, w, h2⟩ := expM_eq hs hd hu h14
    rw [if_pos h, if_pos h, susD_eq hs hd hu, ← h1]
    exact (sets_one (susV_rise s down up) h14 h2).symm
  · rw [if_neg h, if_neg h]
theorem explV_sub {l : List ByteArray} {q : List ByteArray} (hq : q ∈ explV s l down) {x : ByteArray} (hx : x ∈ q) : x ∈ l := by
  unfold explV at hq
  split at hq
  · obtain ⟨m, _, rfl⟩ := List.mem_map.1 hq
    rw [pickM_F] at hx
    exact pickF_mem l m hx
  · simp at hq
theorem sureD_eq (hs : SvOk s) (hd : StOkL s down) (hu : StOkL s up) {L : List (List ByteArray)} (hL : L = explV s (susV s down up) down) (h0 : explE s (susV s down up) down = 0) : sureD s down L = sureV L := by
  obtain ⟨k1, _, _, k4⟩ := explV_ok (susV_rise s down up) h0
  rw [← hL] at k1 k4
  have hsub : ∀ q ∈ L, ∀ x ∈ q, x ∈ elsV s fun k => decide (k ∈ down) := by
    intro q hq x hx
    have h1 := explV_sub (by rw [← hL]; exact hq) hx
    rw [← susD_eq hs hd hu] at h1
    exact (List.mem_filter.1 h1).1
  clear hL
  rcases L with _ | ⟨q, r⟩
  · exact (k1 rfl).elim
  refine rise_ext (List.Pairwise.sublist (List.filter_sublist ..) (elsV_rise s _)) (List.Pairwise.sublist (List.filter_sublist ..) (k4 q (by simp)).1) (fun x => ?_)
  unfold sureD sureV
  rw [List.mem_filter, List.mem_filter]
  constructor
  · rintro ⟨h1, h2⟩
    refine ⟨?_, h2⟩
    simp only [List.headD_cons]
    simp only [Bool.not_eq_true', List.any_eq_false] at h2
    simpa using h2 q (by simp)
  · rintro ⟨h1, h2⟩
    exact ⟨hsub q (by simp) x h1, h2⟩
theorem clrD_eq (hs : SvOk s) (hd : StOkL s down) (L : List (List ByteArray)) : clrD s down L = clrV s down L := by
  refine rise_ext (List.Pairwise.sublist (List.filter_sublist ..) (elsV_rise s _)) (clrV_rise s down L) (fun x => ?_)
  unfold clrD
  rw [List.mem_filter, clrV_mem, elsOf_all hs hd, elsV_mem]
  simp only [Bool.not_eq_true', List.any_eq_false, decide_eq_true_eq]
end
set_option maxRecDepth 100000 in
set_option maxHeartbeats 4000000 in
theorem eqFuncSS_pc (L : List (List ByteArray)) (hL : L.length ≤ 1000000) (hq : ∀ q ∈ L, q.length ≤ 1000000) : PCp 21 [.c (.lst 1 (L.map encLs)), .c (.lst 1 (L.map encLs)), .c (.fn 20 [])] [] (.c (.bool true)) [] := by
  have hlm : (L.map encLs).length = L.length := List.length_map ..
  refine fn_sound (mt := mts) tab_fits tab_mixed Tryz.func21 (by rfl) (by kernel_rfl) (by kernel_rfl) Tryz.results21 (Nat.le_of_ble_eq_true (by kernel_rfl)) ?_
  conv => whnf
  repeat' (first
    | (refine Split.mk (fun h => ?_) (fun h => ?_) <;> (try simp only [decide_eq_true_eq, decide_eq_false_iff_not, Bool.not_eq_true', Bool.not_eq_false', beq_iff_eq, beq_eq_false_iff_ne, bne_iff_ne, bne_eq_false_iff_eq] at h) <;> (first | (exfalso; first | omega | exact h trivial | contradiction | (simp_all [eqRes]; done)) | (conv => whnf)))
    | (refine CondG.mk (fun h => ?_) (fun h => ?_) <;> (try simp only [decide_eq_true_eq, decide_eq_false_iff_not, Bool.not_eq_true', Bool.not_eq_false', beq_iff_eq, beq_eq_false_iff_ne, bne_iff_ne, bne_eq_false_iff_eq] at h) <;> (first | (exfalso; first | omega | exact h trivial | contradiction | (simp_all [eqRes]; done)) | (conv => whnf)))
    | (refine Ask.mk (by first | omega | (unfold roomOK; simp [cutRows]; done) | (unfold roomOK; simp [cutRows]; omega) | (simp [cutRows]; done) | (simp [cutRows]; omega)) ?_; conv => whnf)
    | (refine AppG.mk (by first | omega | (unfold roomOK; simp [cutRows]; done) | (unfold roomOK; simp [cutRows]; omega) | (simp [cutRows]; done) | (simp [cutRows]; omega)) ?_; conv => whnf)
    | (refine SliceG.fr ?_; conv => whnf)
    | (refine idx_at _ (by with_reducible rfl) (by first | assumption | omega) ?_; conv => whnf)
    | ((with_reducible refine row_map (by first | assumption | omega) ?_); conv => whnf)
    | ((with_reducible refine row_set (by first | assumption | omega | (simp only [List.length_set]; omega) | (simp; omega)) ?_); conv => whnf)
    | fail)
  refine loop_for (L.length) [] [1, 2, 15, 16, 17] (fun k (_ : Unit) => [(17, .c (.int .i64 (k : Int)))]) (fun k (_ : Unit) => []) (fun k (_ : Unit) => True) (()) ?_
  conv => whnf
  refine ⟨(by first | rfl | (simp; done) | (simp; rfl)), (by trivial), ?_, ?_⟩
  · intro k _ hk _
    have c := eqSsS L[k] (hq _ (List.getElem_mem hk))
    conv => whnf
    repeat' (first
      | (refine Split.mk (fun h => ?_) (fun h => ?_) <;> (try simp only [decide_eq_true_eq, decide_eq_false_iff_not, Bool.not_eq_true', Bool.not_eq_false', beq_iff_eq, beq_eq_false_iff_ne, bne_iff_ne, bne_eq_false_iff_eq] at h) <;> (first | (exfalso; first | omega | exact h trivial | contradiction | (simp_all [eqRes]; done)) | (conv => whnf)))
      | (refine CondG.mk (fun h => ?_) (fun h => ?_) <;> (try simp only [decide_eq_true_eq, decide_eq_false_iff_not, Bool.not_eq_true', Bool.not_eq_false', beq_iff_eq, beq_eq_false_iff_ne, bne_iff_ne, bne_eq_false_iff_eq] at h) <;> (first | (exfalso; first | omega | exact h trivial | contradiction | (simp_all [eqRes]; done)) | (conv => whnf)))
      | (refine CallX.mk _ _ (by first | exact c) ?_; conv => whnf)
      | (refine CallG.mk _ _ (by first | exact c) ?_; conv => whnf)
      | (refine Ask.mk (by first | omega | (unfold roomOK; simp [cutRows]; done) | (unfold roomOK; simp [cutRows]; omega) | (simp [cutRows]; done) | (simp [cutRows]; omega)) ?_; conv => whnf)
      | (refine AppG.mk (by first | omega | (unfold roomOK; simp [cutRows]; done) | (unfold roomOK; simp [cutRows]; omega) | (simp [cutRows]; done) | (simp [cutRows]; omega)) ?_; conv => whnf)
      | (refine SliceG.fr ?_; conv => whnf)
      | (refine idx_at _ (by with_reducible rfl) (by first | assumption | omega) ?_; conv => whnf)
      | ((with_reducible refine row_map (by first | assumption | omega) ?_); conv => whnf)
      | ((with_reducible refine row_set (by first | assumption | omega | (simp only [List.length_set]; omega) | (simp; omega)) ?_); conv => whnf)
      | fail)
    exact count_next () hk (by rw [wrap_succ hk (by omega)]; rfl) trivial
  · intro _ _
    conv => whnf
    repeat' (first
      | (refine Split.mk (fun h => ?_) (fun h => ?_) <;> (try simp only [decide_eq_true_eq, decide_eq_false_iff_not, Bool.not_eq_true', Bool.not_eq_false', beq_iff_eq, beq_eq_false_iff_ne, bne_iff_ne, bne_eq_false_iff_eq] at h) <;> (first | (exfalso; first | omega | exact h trivial) | (conv => whnf)))
      | (refine CondG.mk (fun h => ?_) (fun h => ?_) <;> (try simp only [decide_eq_true_eq, decide_eq_false_iff_not, Bool.not_eq_true', Bool.not_eq_false', beq_iff_eq, beq_eq_false_iff_ne, bne_iff_ne, bne_eq_false_iff_eq] at h) <;> (first | (exfalso; first | omega | exact h trivial) | (conv => whnf)))
      | (refine Ask.mk (by first | omega | (unfold roomOK; simp [cutRows]; done) | (unfold roomOK; simp [cutRows]; omega) | (simp [cutRows]; done) | (simp [cutRows]; omega)) ?_; conv => whnf)
      | (refine AppG.mk (by first | omega | (unfold roomOK; simp [cutRows]; done) | (unfold roomOK; simp [cutRows]; omega) | (simp [cutRows]; done) | (simp [cutRows]; omega)) ?_; conv => whnf)
      | (refine SliceG.fr ?_; conv => whnf)
      | (refine idx_at _ (by with_reducible rfl) (by first | assumption | omega) ?_; conv => whnf)
      | ((with_reducible refine row_map (by first | assumption | omega) ?_); conv => whnf)
      | ((with_reducible refine row_set (by first | assumption | omega | (simp only [List.length_set]; omega) | (simp; omega)) ?_); conv => whnf)
      | fail)
    exact finb rfl
theorem eqFuncSSN : PCp 21 [.c (.lst 1 []), .c .nils, .c (.fn 20 [])] [] (.c (.bool true)) [] := (eqFuncSS_pc [] (by simp) (by simp)).wk (P2.cons (.refl _) (P2.cons (.c (.nils 1)) (P2.cons (.refl _) P2.nil)))
end Go.Proofs.YtameoookmgkmfaaGreat

/- The document: what to ask. -/
namespace Go.Proofs.YtameoookmgkmfaaGreat
set_option linter.unusedVariables false
set_option linter.unusedSimpArgs false
open Abs

end Go.Proofs.YtameoookmgkmfaaGreat

/- The document: the error of services, and of those that are down and up. -/
namespace Go.Proofs.YtameoookmgkmfaaGreat
set_option linter.unusedVariables false
set_option linter.unusedSimpArgs false
open Abs

set_option maxRecDepth 100000 in
set_option maxHeartbeats 4000000 in
theorem rAtN_pc (s : List Sv) (hl : s.length ≤ 1000000) (k : ByteArray) (hk : hasSv s k = false) : PCp 86 [.c (.lst 3 (s.map encSv)), .c (.str k)] [] (.tup [.agg [.str ⟨#[]⟩, .nils, .int .i64 0], .c (.bool false)]) [] := by
  have h2 : idxP (fun x : Sv => decide (x.key = k)) s = -1 := by
    rcases idxP_or (fun x : Sv => decide (x.key = k)) s with ⟨h1, _⟩ | ⟨i, hi, _, h4, _⟩
    · exact h1
    · have h5 : hasSv s k = true := hasSv_iff.2 ⟨s[i], List.getElem_mem hi, by simpa using h4⟩
      rw [h5] at hk; cases hk
  have hc := ixSvK_pc k 107 (fun x : Sv => decide (x.key = k)) s hl (fun x _ => rAt1_pc k x)
  rw [h2] at hc
  refine fn_sound (mt := mts) tab_fits tab_mixed Tryz.func86 (by rfl) (by kernel_rfl) (by kernel_rfl) Tryz.results86 (Nat.le_of_ble_eq_true (by kernel_rfl)) ?_
  conv => whnf
  repeat' (first
    | (refine Split.mk (fun h => ?_) (fun h => ?_) <;> (try simp only [decide_eq_true_eq, decide_eq_false_iff_not, Bool.not_eq_true', Bool.not_eq_false', beq_iff_eq, beq_eq_false_iff_ne, bne_iff_ne, bne_eq_false_iff_eq] at h) <;> (first | (exfalso; first | omega | exact h trivial) | (conv => whnf)))
    | (refine CondG.mk (fun h => ?_) (fun h => ?_) <;> (try simp only [decide_eq_true_eq, decide_eq_false_iff_not, Bool.not_eq_true', Bool.not_eq_false', beq_iff_eq, beq_eq_false_iff_ne, bne_iff_ne, bne_eq_false_iff_eq] at h) <;> (first | (exfalso; first | omega | exact h trivial) | (conv => whnf)))
    | (refine CallX.mk _ _ (by first | exact hc) ?_; conv => whnf)
    | (refine CallG.mk _ _ (by first | exact hc) ?_; conv => whnf)
    | (refine Ask.mk (by first | omega | (unfold roomOK; simp [cutRows]; done) | (unfold roomOK; simp [cutRows]; omega) | (simp [cutRows]; done) | (simp [cutRows]; omega)) ?_; conv => whnf)
    | (refine AppG.mk (by first | omega | (unfold roomOK; simp [cutRows]; done) | (unfold roomOK; simp [cutRows]; omega) | (simp [cutRows]; done) | (simp [cutRows]; omega)) ?_; conv => whnf)
    | (refine SliceG.fr ?_; conv => whnf)
    | (refine idx_at _ (by with_reducible rfl) (by first | assumption | omega) ?_; conv => whnf)
    | ((with_reducible refine row_map (by first | assumption | omega) ?_); conv => whnf)
    | ((with_reducible refine row_set (by first | assumption | omega | (simp only [List.length_set]; omega) | (simp; omega)) ?_); conv => whnf)
    | fail)
  all_goals first | (exfalso; omega) | skip
  exact .mk ⟨rfl, rfl⟩
set_option maxRecDepth 100000 in
set_option maxHeartbeats 4000000 in
theorem rStates_pc (s : List Sv) (hs : SvOk s) (l : List ByteArray) : PCp 43 [.c (.lst 3 (s.map encSv)), .c (.lst 1 (l.map encS))] [] (.c (.int .i64 (stErr s l))) [] := by
  have hlm : (l.map encS).length = l.length := List.length_map ..
  have hsl := hs.len
  refine fn_sound (mt := mts) tab_fits tab_mixed Tryz.func43 (by rfl) (by kernel_rfl) (by kernel_rfl) Tryz.results43 (Nat.le_of_ble_eq_true (by kernel_rfl)) ?_
  conv => whnf
  repeat' (first
    | (refine Split.mk (fun h => ?_) (fun h => ?_) <;> (try simp only [decide_eq_true_eq, decide_eq_false_iff_not, Bool.not_eq_true', Bool.not_eq_false', beq_iff_eq, beq_eq_false_iff_ne, bne_iff_ne, bne_eq_false_iff_eq] at h) <;> (first | (exfalso; first | omega | exact h trivial) | (conv => whnf)))
    | (refine CondG.mk (fun h => ?_) (fun h => ?_) <;> (try simp only [decide_eq_true_eq, decide_eq_false_iff_not, Bool.not_eq_true', Bool.not_eq_false', beq_iff_eq, beq_eq_false_iff_ne, bne_iff_ne, bne_eq_false_iff_eq] at h) <;> (first | (exfalso; first | omega | exact h trivial) | (conv => whnf)))
    | (refine Ask.mk (by first | omega | (unfold roomOK; simp [cutRows]; done) | (unfold roomOK; simp [cutRows]; omega) | (simp [cutRows]; done) | (simp [cutRows]; omega)) ?_; conv => whnf)
    | (refine AppG.mk (by first | omega | (unfold roomOK; simp [cutRows]; done) | (unfold roomOK; simp [cutRows]; omega) | (simp [cutRows]; done) | (simp [cutRows]; omega)) ?_; conv => whnf)
    | (refine SliceG.fr ?_; conv => whnf)
    | (refine idx_at _ (by with_reducible rfl) (by first | assumption | omega) ?_; conv => whnf)
    | ((with_reducible refine row_map (by first | assumption | omega) ?_); conv => whnf)
    | ((with_reducible refine row_set (by first | assumption | omega | (simp only [List.length_set]; omega) | (simp; omega)) ?_); conv => whnf)
    | fail)
  · exact fini (by rw [stErr, if_pos (by omega)])
  have hF : stErr s l = seqErr (keyErr (hasSv s)) id false ⟨#[]⟩ l := by rw [stErr, if_neg (by omega), seqErr_first (keyErrS_first hs)]
  refine loop_for (l.length) [] [0, 5, 13, 14, 15] (fun k (_ : Unit) => [(5, .c (.str (befK id l k))), (15, .c (.int .i64 (k : Int)))]) (fun k (_ : Unit) => []) (fun k (_ : Unit) => seqErr (keyErr (hasSv s)) id false (befK id l k) (l.drop k) = stErr s l) (()) ?_
  conv => whnf
  refine ⟨(by first | rfl | (simp; done) | (simp; rfl)), ?_, ?_, ?_⟩
  · exact hF.symm
  · intro k _ hk hi
    cases hq : hasSv s l[k] with
    | false =>
      conv => whnf
      repeat' (first
        | (refine Split.mk (fun h => ?_) (fun h => ?_) <;> (try simp only [decide_eq_true_eq, decide_eq_false_iff_not, Bool.not_eq_true', Bool.not_eq_false', beq_iff_eq, beq_eq_false_iff_ne, bne_iff_ne, bne_eq_false_iff_eq] at h) <;> (first | (exfalso; first | omega | exact h trivial | contradiction | (simp_all [eqRes]; done)) | (conv => whnf)))
        | (refine CondG.mk (fun h => ?_) (fun h => ?_) <;> (try simp only [decide_eq_true_eq, decide_eq_false_iff_not, Bool.not_eq_true', Bool.not_eq_false', beq_iff_eq, beq_eq_false_iff_ne, bne_iff_ne, bne_eq_false_iff_eq] at h) <;> (first | (exfalso; first | omega | exact h trivial | contradiction | (simp_all [eqRes]; done)) | (conv => whnf)))
        | (refine CallX.mk _ _ (by first | exact rAtN_pc s (by omega) _ hq) ?_; conv => whnf)
        | (refine CallG.mk _ _ (by first | exact rAtN_pc s (by omega) _ hq) ?_; conv => whnf)
        | (refine Ask.mk (by first | omega | (unfold roomOK; simp [cutRows]; done) | (unfold roomOK; simp [cutRows]; omega) | (simp [cutRows]; done) | (simp [cutRows]; omega)) ?_; conv => whnf)
        | (refine AppG.mk (by first | omega | (unfold roomOK; simp [cutRows]; done) | (unfold roomOK; simp [cutRows]; omega) | (simp [cutRows]; done) | (simp [cutRows]; omega)) ?_; conv => whnf)
        | (refine SliceG.fr ?_; conv => whnf)
        | (refine idx_at _ (by with_reducible rfl) (by first | assumption | omega) ?_; conv => whnf)
        | ((with_reducible refine row_map (by first | assumption | omega) ?_); conv => whnf)
        | ((with_reducible refine row_set (by first | assumption | omega | (simp only [List.length_set]; omega) | (simp; omega)) ?_); conv => whnf)
        | fail)
      all_goals try simp only [toList_eq'] at *
      all_goals first
        | (refine fini (seq_hit hk hi ?_ (by decide)); clear hi hF; unfold keyErr; (repeat' split) <;> first | rfl | (exfalso; first | omega | (simp_all [leB, toList_eq']; done) | (simp_all [leB, toList_eq']; omega)))
    | true =>
      conv => whnf
      repeat' (first
        | (refine Split.mk (fun h => ?_) (fun h => ?_) <;> (try simp only [decide_eq_true_eq, decide_eq_false_iff_not, Bool.not_eq_true', Bool.not_eq_false', beq_iff_eq, beq_eq_false_iff_ne, bne_iff_ne, bne_eq_false_iff_eq] at h) <;> (first | (exfalso; first | omega | exact h trivial | contradiction | (simp_all [eqRes]; done)) | (conv => whnf)))
        | (refine CondG.mk (fun h => ?_) (fun h => ?_) <;> (try simp only [decide_eq_true_eq, decide_eq_false_iff_not, Bool.not_eq_true', Bool.not_eq_false', beq_iff_eq, beq_eq_false_iff_ne, bne_iff_ne, bne_eq_false_iff_eq] at h) <;> (first | (exfalso; first | omega | exact h trivial | contradiction | (simp_all [eqRes]; done)) | (conv => whnf)))
        | (refine CallX.mk _ _ (by first | exact rAt_pc s hs _ hq) ?_; conv => whnf)
        | (refine CallG.mk _ _ (by first | exact rAt_pc s hs _ hq) ?_; conv => whnf)
        | (refine Ask.mk (by first | omega | (unfold roomOK; simp [cutRows]; done) | (unfold roomOK; simp [cutRows]; omega) | (simp [cutRows]; done) | (simp [cutRows]; omega)) ?_; conv => whnf)
        | (refine AppG.mk (by first | omega | (unfold roomOK; simp [cutRows]; done) | (unfold roomOK; simp [cutRows]; omega) | (simp [cutRows]; done) | (simp [cutRows]; omega)) ?_; conv => whnf)
        | (refine SliceG.fr ?_; conv => whnf)
        | (refine idx_at _ (by with_reducible rfl) (by first | assumption | omega) ?_; conv => whnf)
        | ((with_reducible refine row_map (by first | assumption | omega) ?_); conv => whnf)
        | ((with_reducible refine row_set (by first | assumption | omega | (simp only [List.length_set]; omega) | (simp; omega)) ?_); conv => whnf)
        | fail)
      all_goals try simp only [toList_eq'] at *
      all_goals first
        | (refine fini (seq_hit hk hi ?_ (by decide)); clear hi hF; unfold keyErr; (repeat' split) <;> first | rfl | (exfalso; first | omega | (simp_all [leB, toList_eq']; done) | (simp_all [leB, toList_eq']; omega)))
        | (refine count_next () hk (by rw [wrap_succ hk (by omega), befK_succ hk]; rfl) (by rw [befK_succ hk]; refine seq_next hk hi ?_; clear hi hF; unfold keyErr; (repeat' split) <;> first | rfl | (exfalso; first | omega | (simp_all [leB, toList_eq']; done) | (simp_all [leB, toList_eq']; omega))))
  · intro _ hi
    conv => whnf
    repeat' (first
      | (refine Split.mk (fun h => ?_) (fun h => ?_) <;> (try simp only [decide_eq_true_eq, decide_eq_false_iff_not, Bool.not_eq_true', Bool.not_eq_false', beq_iff_eq, beq_eq_false_iff_ne, bne_iff_ne, bne_eq_false_iff_eq] at h) <;> (first | (exfalso; first | omega | exact h trivial) | (conv => whnf)))
      | (refine CondG.mk (fun h => ?_) (fun h => ?_) <;> (try simp only [decide_eq_true_eq, decide_eq_false_iff_not, Bool.not_eq_true', Bool.not_eq_false', beq_iff_eq, beq_eq_false_iff_ne, bne_iff_ne, bne_eq_false_iff_eq] at h) <;> (first | (exfalso; first | omega | exact h trivial) | (conv => whnf)))
      | (refine Ask.mk (by first | omega | (unfold roomOK; simp [cutRows]; done) | (unfold roomOK; simp [cutRows]; omega) | (simp [cutRows]; done) | (simp [cutRows]; omega)) ?_; conv => whnf)
      | (refine AppG.mk (by first | omega | (unfold roomOK; simp [cutRows]; done) | (unfold roomOK; simp [cutRows]; omega) | (simp [cutRows]; done) | (simp [cutRows]; omega)) ?_; conv => whnf)
      | (refine SliceG.fr ?_; conv => whnf)
      | (refine idx_at _ (by with_reducible rfl) (by first | assumption | omega) ?_; conv => whnf)
      | ((with_reducible refine row_map (by first | assumption | omega) ?_); conv => whnf)
      | ((with_reducible refine row_set (by first | assumption | omega | (simp only [List.length_set]; omega) | (simp; omega)) ?_); conv => whnf)
      | fail)
    exact fini (seq_end hi).symm
set_option maxRecDepth 100000 in
set_option maxHeartbeats 4000000 in
theorem rSeen1_pc (up : List ByteArray) (hl : up.length ≤ 1000000) (x : ByteArray) : PCp 45 [.c (.str x), .c (.ptr 0 0)] [.box [.lst 1 (up.map encS)]] (.c (.bool (decide (x ∈ up)))) [.box [.lst 1 (up.map encS)]] := by
  refine fn_sound (mt := mts) tab_fits tab_mixed Tryz.func45 (by rfl) (by kernel_rfl) (by kernel_rfl) Tryz.results45 (Nat.le_of_ble_eq_true (by kernel_rfl)) ?_
  conv => whnf
  repeat' (first
    | (refine Split.mk (fun h => ?_) (fun h => ?_) <;> (try simp only [decide_eq_true_eq, decide_eq_false_iff_not, Bool.not_eq_true', Bool.not_eq_false', beq_iff_eq, beq_eq_false_iff_ne, bne_iff_ne, bne_eq_false_iff_eq] at h) <;> (first | (exfalso; first | omega | exact h trivial) | (conv => whnf)))
    | (refine CondG.mk (fun h => ?_) (fun h => ?_) <;> (try simp only [decide_eq_true_eq, decide_eq_false_iff_not, Bool.not_eq_true', Bool.not_eq_false', beq_iff_eq, beq_eq_false_iff_ne, bne_iff_ne, bne_eq_false_iff_eq] at h) <;> (first | (exfalso; first | omega | exact h trivial) | (conv => whnf)))
    | (refine CallX.mk _ _ (by first | exact containsS_pc x up hl) ?_; conv => whnf)
    | (refine CallG.mk _ _ (by first | exact containsS_pc x up hl) ?_; conv => whnf)
    | (refine Ask.mk (by first | omega | (unfold roomOK; simp [cutRows]; done) | (unfold roomOK; simp [cutRows]; omega) | (simp [cutRows]; done) | (simp [cutRows]; omega)) ?_; conv => whnf)
    | (refine AppG.mk (by first | omega | (unfold roomOK; simp [cutRows]; done) | (unfold roomOK; simp [cutRows]; omega) | (simp [cutRows]; done) | (simp [cutRows]; omega)) ?_; conv => whnf)
    | (refine SliceG.fr ?_; conv => whnf)
    | (refine idx_at _ (by with_reducible rfl) (by first | assumption | omega) ?_; conv => whnf)
    | ((with_reducible refine row_map (by first | assumption | omega) ?_); conv => whnf)
    | ((with_reducible refine row_set (by first | assumption | omega | (simp only [List.length_set]; omega) | (simp; omega)) ?_); conv => whnf)
    | fail)
  exact .mk ⟨rfl, rfl⟩
set_option maxRecDepth 100000 in
set_option maxHeartbeats 4000000 in
theorem rSeen_pc (s : List Sv) (hx : ∀ x ∈ s, x.els.length ≤ 1000000) (down up : List ByteArray) : PCp 14 [.c (.lst 3 (s.map encSv)), .c (.lst 1 (down.map encS)), .c (.lst 1 (up.map encS))] [] (.c (.int .i64 (seenErr s down up))) [] := by
  have hdm : (down.map encS).length = down.length := List.length_map ..
  refine fn_sound (mt := mts) tab_fits tab_mixed Tryz.func14 (by rfl) (by kernel_rfl) (by kernel_rfl) Tryz.results14 (Nat.le_of_ble_eq_true (by kernel_rfl)) ?_
  conv => whnf
  repeat' (first
    | (refine Split.mk (fun h => ?_) (fun h => ?_) <;> (try simp only [decide_eq_true_eq, decide_eq_false_iff_not, Bool.not_eq_true', Bool.not_eq_false', beq_iff_eq, beq_eq_false_iff_ne, bne_iff_ne, bne_eq_false_iff_eq] at h) <;> (first | (exfalso; first | omega | exact h trivial) | (conv => whnf)))
    | (refine CondG.mk (fun h => ?_) (fun h => ?_) <;> (try simp only [decide_eq_true_eq, decide_eq_false_iff_not, Bool.not_eq_true', Bool.not_eq_false', beq_iff_eq, beq_eq_false_iff_ne, bne_iff_ne, bne_eq_false_iff_eq] at h) <;> (first | (exfalso; first | omega | exact h trivial) | (conv => whnf)))
    | (refine CallX.mk _ _ (by first | exact rServicesFault_pc s hx) ?_; conv => whnf)
    | (refine CallG.mk _ _ (by first | exact rServicesFault_pc s hx) ?_; conv => whnf)
    | (refine Ask.mk (by first | omega | (unfold roomOK; simp [cutRows]; done) | (unfold roomOK; simp [cutRows]; omega) | (simp [cutRows]; done) | (simp [cutRows]; omega)) ?_; conv => whnf)
    | (refine AppG.mk (by first | omega | (unfold roomOK; simp [cutRows]; done) | (unfold roomOK; simp [cutRows]; omega) | (simp [cutRows]; done) | (simp [cutRows]; omega)) ?_; conv => whnf)
    | (refine SliceG.fr ?_; conv => whnf)
    | (refine idx_at _ (by with_reducible rfl) (by first | assumption | omega) ?_; conv => whnf)
    | ((with_reducible refine row_map (by first | assumption | omega) ?_); conv => whnf)
    | ((with_reducible refine row_set (by first | assumption | omega | (simp only [List.length_set]; omega) | (simp; omega)) ?_); conv => whnf)
    | fail)
  · exact fini (by rw [seenErr, if_pos (by assumption)])
  have hs0 : svFault s = 0 := by simp_all
  have hs := svFault_ok hs0
  have e1 : IntKind.i64.wrap (0 + 1) = 1 := by decide
  have e2 : IntKind.i64.wrap (1 + 1) = 2 := by decide
  refine .un 3 ?_
  conv => whnf
  refine .mk (fun _ => ?_) (fun h => absurd h (by simp [cutRows]))
  conv => whnf
  refine .mk ⟨by decide, by simp [cutRows]⟩ ?_
  conv => whnf
  refine .mk _ (by rfl) ?_
  conv => whnf
  repeat' (first
    | (refine Split.mk (fun h => ?_) (fun h => ?_) <;> (try simp only [decide_eq_true_eq, decide_eq_false_iff_not, Bool.not_eq_true', Bool.not_eq_false', beq_iff_eq, beq_eq_false_iff_ne, bne_iff_ne, bne_eq_false_iff_eq] at h) <;> (first | (exfalso; first | omega | exact h trivial) | (conv => whnf)))
    | (refine CondG.mk (fun h => ?_) (fun h => ?_) <;> (try simp only [decide_eq_true_eq, decide_eq_false_iff_not, Bool.not_eq_true', Bool.not_eq_false', beq_iff_eq, beq_eq_false_iff_ne, bne_iff_ne, bne_eq_false_iff_eq] at h) <;> (first | (exfalso; first | omega | exact h trivial) | (conv => whnf)))
    | (refine CallX.mk _ _ (by first | exact rStates_pc s hs _) ?_; conv => whnf)
    | (refine CallG.mk _ _ (by first | exact rStates_pc s hs _) ?_; conv => whnf)
    | (refine Ask.mk (by first | omega | (unfold roomOK; simp [cutRows]; done) | (unfold roomOK; simp [cutRows]; omega) | (simp [cutRows]; done) | (simp [cutRows]; omega)) ?_; conv => whnf)
    | (refine AppG.mk (by first | omega | (unfold roomOK; simp [cutRows]; done) | (unfold roomOK; simp [cutRows]; omega) | (simp [cutRows]; done) | (simp [cutRows]; omega)) ?_; conv => whnf)
    | (refine SliceG.fr ?_; conv => whnf)
    | (refine idx_at _ (by with_reducible rfl) (by first | assumption | omega) ?_; conv => whnf)
    | ((with_reducible refine row_map (by first | assumption | omega) ?_); conv => whnf)
    | ((with_reducible refine row_set (by first | assumption | omega | (simp only [List.length_set]; omega) | (simp; omega)) ?_); conv => whnf)
    | fail)
  · refine fini ?_
    rw [seenErr, if_neg (by omega), if_pos (by assumption)]
  rotate_left
  · exact absurd (show _ < _ by rw [e1]; simp [cutRows]) h
  have hd0 : stErr s down = 0 := by assumption
  have hd := stErr_ok hd0
  have hdl := hd.len
  refine .mk ⟨by decide, by rw [e1]; simp [cutRows]⟩ ?_
  conv => whnf
  refine .mk _ (by rfl) ?_
  conv => whnf
  repeat' (first
    | (refine Split.mk (fun h => ?_) (fun h => ?_) <;> (try simp only [decide_eq_true_eq, decide_eq_false_iff_not, Bool.not_eq_true', Bool.not_eq_false', beq_iff_eq, beq_eq_false_iff_ne, bne_iff_ne, bne_eq_false_iff_eq] at h) <;> (first | (exfalso; first | omega | exact h trivial) | (conv => whnf)))
    | (refine CondG.mk (fun h => ?_) (fun h => ?_) <;> (try simp only [decide_eq_true_eq, decide_eq_false_iff_not, Bool.not_eq_true', Bool.not_eq_false', beq_iff_eq, beq_eq_false_iff_ne, bne_iff_ne, bne_eq_false_iff_eq] at h) <;> (first | (exfalso; first | omega | exact h trivial) | (conv => whnf)))
    | (refine CallX.mk _ _ (by first | exact rStates_pc s hs _) ?_; conv => whnf)
    | (refine CallG.mk _ _ (by first | exact rStates_pc s hs _) ?_; conv => whnf)
    | (refine Ask.mk (by first | omega | (unfold roomOK; simp [cutRows]; done) | (unfold roomOK; simp [cutRows]; omega) | (simp [cutRows]; done) | (simp [cutRows]; omega)) ?_; conv => whnf)
    | (refine AppG.mk (by first | omega | (unfold roomOK; simp [cutRows]; done) | (unfold roomOK; simp [cutRows]; omega) | (simp [cutRows]; done) | (simp [cutRows]; omega)) ?_; conv => whnf)
    | (refine SliceG.fr ?_; conv => whnf)
    | (refine idx_at _ (by with_reducible rfl) (by first | assumption | omega) ?_; conv => whnf)
    | ((with_reducible refine row_map (by first | assumption | omega) ?_); conv => whnf)
    | ((with_reducible refine row_set (by first | assumption | omega | (simp only [List.length_set]; omega) | (simp; omega)) ?_); conv => whnf)
    | fail)
  · refine fini ?_
    rw [seenErr, if_neg (by omega), if_neg (by omega), if_pos (by assumption)]
  · exact absurd h (by rw [e1, e2]; simp [cutRows])
  have hu0 : stErr s up = 0 := by assumption
  have hu := stErr_ok hu0
  have hul := hu.len
  repeat' (first
    | (refine Split.mk (fun h => ?_) (fun h => ?_) <;> (try simp only [decide_eq_true_eq, decide_eq_false_iff_not, Bool.not_eq_true', Bool.not_eq_false', beq_iff_eq, beq_eq_false_iff_ne, bne_iff_ne, bne_eq_false_iff_eq] at h) <;> (first | (exfalso; first | omega | exact h trivial) | (conv => whnf)))
    | (refine CondG.mk (fun h => ?_) (fun h => ?_) <;> (try simp only [decide_eq_true_eq, decide_eq_false_iff_not, Bool.not_eq_true', Bool.not_eq_false', beq_iff_eq, beq_eq_false_iff_ne, bne_iff_ne, bne_eq_false_iff_eq] at h) <;> (first | (exfalso; first | omega | exact h trivial) | (conv => whnf)))
    | (refine CallX.mk _ _ (by first | exact ixUC_pc (up.map encS) 45 (fun x => decide (x ∈ up)) down (by omega) (fun x _ => rSeen1_pc up (by omega) x)) ?_; conv => whnf)
    | (refine CallG.mk _ _ (by first | exact ixUC_pc (up.map encS) 45 (fun x => decide (x ∈ up)) down (by omega) (fun x _ => rSeen1_pc up (by omega) x)) ?_; conv => whnf)
    | (refine Ask.mk (by first | omega | (unfold roomOK; simp [cutRows]; done) | (unfold roomOK; simp [cutRows]; omega) | (simp [cutRows]; done) | (simp [cutRows]; omega)) ?_; conv => whnf)
    | (refine AppG.mk (by first | omega | (unfold roomOK; simp [cutRows]; done) | (unfold roomOK; simp [cutRows]; omega) | (simp [cutRows]; done) | (simp [cutRows]; omega)) ?_; conv => whnf)
    | (refine SliceG.fr ?_; conv => whnf)
    | (refine idx_at _ (by with_reducible rfl) (by first | assumption | omega) ?_; conv => whnf)
    | ((with_reducible refine row_map (by first | assumption | omega) ?_); conv => whnf)
    | ((with_reducible refine row_set (by first | assumption | omega | (simp only [List.length_set]; omega) | (simp; omega)) ?_); conv => whnf)
    | fail)
  all_goals
    refine fini ?_
    rw [seenErr, if_neg (by simp [hs0]), if_neg (by simp [hd0]), if_neg (by simp [hu0])]
    simp_all
end Go.Proofs.YtameoookmgkmfaaGreat

/- What is down and up, and many services: made. -/
namespace Go.Proofs.YtameoookmgkmfaaGreat
set_option linter.unusedVariables false
set_option linter.unusedSimpArgs false
open Abs

def Few (d u : List ByteArray) : Prop := d.length ≤ 6 ∧ u.length ≤ 6
set_option maxRecDepth 100000 in
set_option maxHeartbeats 4000000 in
theorem rDownUp_pc {L : List Int} {p : Int} (hst : StOk L p) (hp : p ≤ 800000000) (s : List Sv) (hs : s.length ≤ 6) :
    PCq 6 [.c (.ptr 0 0), .c (.lst 3 (s.map encSv))] [stO L p] fun r os => ∃ (down up : List ByteArray) (p' : Int), r = .tup [.c (.lst 1 (down.map encS)), .c (.lst 1 (up.map encS))] ∧ os = [stO L p'] ∧ down.length ≤ 20 ∧ up.length ≤ 20 ∧ p ≤ p' ∧ p' ≤ p + 100 := by
  have hS : ∀ x : Int, p ≤ x → x ≤ p + 100 → StOk L x := fun x h3 h4 => ⟨hst.1, by have := hst.2.1; omega, by omega⟩
  have hsm : (s.map encSv).length = s.length := List.length_map ..
  have hfin : ∀ (d u : List ByteArray) (q : Int), d.length ≤ 20 → u.length ≤ 20 → p ≤ q → q ≤ p + 100 → ∀ (r : S) (os : List Ob), r = .tup [.c (.row 1), .c (.row 2)] → (∃ e1 e2, os = [stO L q, .row e1 1 (d.map encS), .row e2 1 (u.map encS)]) → FinX (fun r os => ∃ (down up : List ByteArray) (p' : Int), r = .tup [.c (.lst 1 (down.map encS)), .c (.lst 1 (up.map encS))] ∧ os = [stO L p'] ∧ down.length ≤ 20 ∧ up.length ≤ 20 ∧ p ≤ p' ∧ p' ≤ p + 100) 1 r os := by
    rintro d u q h1 h2 h3 h4 _ _ rfl ⟨e1, e2, rfl⟩
    refine .mk _ _ ⟨d, u, q, rfl, rfl, h1, h2, h3, h4⟩ (.frz 1 _ _ _ rfl (.frz 2 _ _ _ rfl (.weak [_, _] (.tup _ _ rfl ?_) rfl (Nat.le_refl _))))
    intro i a b ha hb
    match i with
    | 0 => cases ha; cases hb; exact .fro 1 _ _ rfl
    | 1 => cases ha; cases hb; exact .fro 2 _ _ rfl
  refine fn_soundX (mt := mts) tab_fits tab_mixed Tryz.func6 (by rfl) (by kernel_rfl) (by kernel_rfl) Tryz.results6 (Nat.le_of_ble_eq_true (by kernel_rfl)) ?_
  conv => whnf
  refine loop_for3 (s.length) [.sl 6 9 1, .sl 7 9 1] [0, 6, 7, 10, 11, 12] (fun k (q : Int) (d : List ByteArray) (u : List ByteArray) => [(12, .c (.int .i64 (k : Int)))]) (fun k (q : Int) (d : List ByteArray) (u : List ByteArray) => [(0, stO L q), (1, .row 9 1 (d.map encS)), (2, .row 9 1 (u.map encS))]) (fun k (q : Int) (d : List ByteArray) (u : List ByteArray) => d.length ≤ k ∧ u.length ≤ k ∧ q = p + k) (p) ([]) ([]) ?_
  conv => whnf
  refine ⟨(by first | rfl | (simp; done) | (simp; rfl)), ?_, ?_, ?_⟩
  · exact ⟨by simp, by simp, by omega⟩
  · intro k q d u hk ⟨h1, h2, h3⟩
    have hdm : (d.map encS).length = d.length := List.length_map ..
    have hum : (u.map encS).length = u.length := List.length_map ..
    have hQ : ∀ x : Int, q ≤ x → x ≤ q + 14 → StOk L x := fun x h3 h4 => hS x (by omega) (by omega)
    conv => whnf
    repeat' (first
      | (refine Split.mk (fun h => ?_) (fun h => ?_) <;> (try simp only [decide_eq_true_eq, decide_eq_false_iff_not, Bool.not_eq_true', Bool.not_eq_false', beq_iff_eq, beq_eq_false_iff_ne, bne_iff_ne, bne_eq_false_iff_eq] at h) <;> (first | (exfalso; first | omega | exact h trivial | (simp [cutRows] at h; done) | (simp [cutRows] at h; omega)) | (conv => whnf)))
      | (refine CondG.mk (fun h => ?_) (fun h => ?_) <;> (try simp only [decide_eq_true_eq, decide_eq_false_iff_not, Bool.not_eq_true', Bool.not_eq_false', beq_iff_eq, beq_eq_false_iff_ne, bne_iff_ne, bne_eq_false_iff_eq] at h) <;> (first | (exfalso; first | omega | exact h trivial | (simp [cutRows] at h; done) | (simp [cutRows] at h; omega)) | (conv => whnf)))
      | (refine CallX.mk _ _ (by first | exact flip_ok (hQ _ (by omega) (by omega)) _ (by omega) | exact next_ok (hQ _ (by omega) (by omega)) _ (by omega) | exact range_ok (hQ _ (by omega) (by omega)) _ _ (by omega) (small_lit (by omega)) (small_lit (by omega)) | exact odd_ok (hQ _ (by omega) (by omega)) (hQ _ (by omega) (by omega)) _ _ (small_lit (by omega)) (small_lit (by omega)) (by omega) | exact pick_ok (hQ _ (by omega) (by omega)) [_] (by simp) (by simp) | exact pick_ok (hQ _ (by omega) (by omega)) [_, _] (by simp) (by simp) | exact pick_ok (hQ _ (by omega) (by omega)) [_, _, _] (by simp) (by simp) | exact pick_ok (hQ _ (by omega) (by omega)) [_, _, _, _] (by simp) (by simp) | exact pick_ok (hQ _ (by omega) (by omega)) [_, _, _, _, _] (by simp) (by simp) | exact pick_ok (hQ _ (by omega) (by omega)) [_, _, _, _, _, _] (by simp) (by simp) | exact pick_ok (hQ _ (by omega) (by omega)) [_, _, _, _, _, _, _] (by simp) (by simp) | exact pick_ok (hQ _ (by omega) (by omega)) [_, _, _, _, _, _, _, _] (by simp) (by simp) | exact pick_ok (hQ _ (by omega) (by omega)) [_, _, _, _, _, _, _, _, _] (by simp) (by simp) | exact pick_ok (hQ _ (by omega) (by omega)) [_, _, _, _, _, _, _, _, _, _] (by simp) (by simp) | exact some_ok (hQ _ (by omega) (by omega)) [_] (by simp) (by simp) | exact some_ok (hQ _ (by omega) (by omega)) [_, _] (by simp) (by simp) | exact some_ok (hQ _ (by omega) (by omega)) [_, _, _] (by simp) (by simp) | exact some_ok (hQ _ (by omega) (by omega)) [_, _, _, _] (by simp) (by simp) | exact some_ok (hQ _ (by omega) (by omega)) [_, _, _, _, _] (by simp) (by simp) | exact some_ok (hQ _ (by omega) (by omega)) [_, _, _, _, _, _] (by simp) (by simp) | exact some_ok (hQ _ (by omega) (by omega)) [_, _, _, _, _, _, _] (by simp) (by simp) | exact some_ok (hQ _ (by omega) (by omega)) [_, _, _, _, _, _, _, _] (by simp) (by simp)) ?_; conv => whnf)
      | (refine CallG.mk _ _ (by first | exact flip_ok (hQ _ (by omega) (by omega)) _ (by omega) | exact next_ok (hQ _ (by omega) (by omega)) _ (by omega) | exact range_ok (hQ _ (by omega) (by omega)) _ _ (by omega) (small_lit (by omega)) (small_lit (by omega)) | exact odd_ok (hQ _ (by omega) (by omega)) (hQ _ (by omega) (by omega)) _ _ (small_lit (by omega)) (small_lit (by omega)) (by omega) | exact pick_ok (hQ _ (by omega) (by omega)) [_] (by simp) (by simp) | exact pick_ok (hQ _ (by omega) (by omega)) [_, _] (by simp) (by simp) | exact pick_ok (hQ _ (by omega) (by omega)) [_, _, _] (by simp) (by simp) | exact pick_ok (hQ _ (by omega) (by omega)) [_, _, _, _] (by simp) (by simp) | exact pick_ok (hQ _ (by omega) (by omega)) [_, _, _, _, _] (by simp) (by simp) | exact pick_ok (hQ _ (by omega) (by omega)) [_, _, _, _, _, _] (by simp) (by simp) | exact pick_ok (hQ _ (by omega) (by omega)) [_, _, _, _, _, _, _] (by simp) (by simp) | exact pick_ok (hQ _ (by omega) (by omega)) [_, _, _, _, _, _, _, _] (by simp) (by simp) | exact pick_ok (hQ _ (by omega) (by omega)) [_, _, _, _, _, _, _, _, _] (by simp) (by simp) | exact pick_ok (hQ _ (by omega) (by omega)) [_, _, _, _, _, _, _, _, _, _] (by simp) (by simp) | exact some_ok (hQ _ (by omega) (by omega)) [_] (by simp) (by simp) | exact some_ok (hQ _ (by omega) (by omega)) [_, _] (by simp) (by simp) | exact some_ok (hQ _ (by omega) (by omega)) [_, _, _] (by simp) (by simp) | exact some_ok (hQ _ (by omega) (by omega)) [_, _, _, _] (by simp) (by simp) | exact some_ok (hQ _ (by omega) (by omega)) [_, _, _, _, _] (by simp) (by simp) | exact some_ok (hQ _ (by omega) (by omega)) [_, _, _, _, _, _] (by simp) (by simp) | exact some_ok (hQ _ (by omega) (by omega)) [_, _, _, _, _, _, _] (by simp) (by simp) | exact some_ok (hQ _ (by omega) (by omega)) [_, _, _, _, _, _, _, _] (by simp) (by simp)) ?_; conv => whnf)
      | (refine Ask.mk (by first | omega | (unfold roomOK; simp [cutRows]; done) | (unfold roomOK; simp [cutRows]; omega) | (simp [cutRows]; done) | (simp [cutRows]; omega)) ?_; conv => whnf)
      | (refine AppG.mk (by first | omega | (unfold roomOK; simp [cutRows]; done) | (unfold roomOK; simp [cutRows]; omega) | (simp [cutRows]; done) | (simp [cutRows]; omega)) ?_; conv => whnf)
      | (refine SliceG.fr ?_; conv => whnf)
      | (refine idx_at _ (by with_reducible rfl) (by first | assumption | omega) ?_; conv => whnf)
      | ((with_reducible refine row_map (by first | assumption | omega) ?_); conv => whnf)
      | (refine row_str (by rfl) (by first | (simp [cutRows]; done) | (simp [cutRows]; omega)) ?_; intro str; conv => whnf)
      | ((with_reducible refine row_set (by first | assumption | omega | (simp only [List.length_set]; omega) | (simp; omega)) ?_); conv => whnf)
      | fail)
    · exact count_next (q + 1, d ++ [_], u) hk (by rw [wrap_succ hk (by omega), List.map_append]; rfl) ⟨by simp; omega, by simp only; omega, by simp only; omega⟩
    · exact count_next (q + 1, d, u ++ [_]) hk (by rw [wrap_succ hk (by omega), List.map_append]; rfl) ⟨by simp only; omega, by simp; omega, by simp only; omega⟩
    · exact count_next (q + 1, d, u) hk (by rw [wrap_succ hk (by omega)]; rfl) ⟨by simp only; omega, by simp only; omega, by simp only; omega⟩
  · intro q d u ⟨h1, h2, h3⟩
    have hdm : (d.map encS).length = d.length := List.length_map ..
    have hum : (u.map encS).length = u.length := List.length_map ..
    have hQ : ∀ x : Int, q ≤ x → x ≤ q + 14 → StOk L x := fun x h3 h4 => hS x (by omega) (by omega)
    have hb : Few d u := ⟨by omega, by omega⟩
    have hq : p ≤ q ∧ q ≤ p + 10 := by omega
    clear h1 h2 h3
    conv => whnf
    repeat' (first
      | (refine Split.mk (fun h => ?_) (fun h => ?_) <;> (try simp only [decide_eq_true_eq, decide_eq_false_iff_not, Bool.not_eq_true', Bool.not_eq_false', beq_iff_eq, beq_eq_false_iff_ne, bne_iff_ne, bne_eq_false_iff_eq] at h) <;> (first | (exfalso; first | omega | exact h trivial | (simp [cutRows] at h; done) | (simp [cutRows] at h; omega)) | (conv => whnf)))
      | (refine CondG.mk (fun h => ?_) (fun h => ?_) <;> (try simp only [decide_eq_true_eq, decide_eq_false_iff_not, Bool.not_eq_true', Bool.not_eq_false', beq_iff_eq, beq_eq_false_iff_ne, bne_iff_ne, bne_eq_false_iff_eq] at h) <;> (first | (exfalso; first | omega | exact h trivial | (simp [cutRows] at h; done) | (simp [cutRows] at h; omega)) | (conv => whnf)))
      | (refine CallX.mk _ _ (by first | exact flip_ok (hQ _ (by omega) (by omega)) _ (by omega) | exact next_ok (hQ _ (by omega) (by omega)) _ (by omega) | exact range_ok (hQ _ (by omega) (by omega)) _ _ (by omega) (small_lit (by omega)) (small_lit (by omega)) | exact odd_ok (hQ _ (by omega) (by omega)) (hQ _ (by omega) (by omega)) _ _ (small_lit (by omega)) (small_lit (by omega)) (by omega) | exact pick_ok (hQ _ (by omega) (by omega)) [_] (by simp) (by simp) | exact pick_ok (hQ _ (by omega) (by omega)) [_, _] (by simp) (by simp) | exact pick_ok (hQ _ (by omega) (by omega)) [_, _, _] (by simp) (by simp) | exact pick_ok (hQ _ (by omega) (by omega)) [_, _, _, _] (by simp) (by simp) | exact pick_ok (hQ _ (by omega) (by omega)) [_, _, _, _, _] (by simp) (by simp) | exact pick_ok (hQ _ (by omega) (by omega)) [_, _, _, _, _, _] (by simp) (by simp) | exact pick_ok (hQ _ (by omega) (by omega)) [_, _, _, _, _, _, _] (by simp) (by simp) | exact pick_ok (hQ _ (by omega) (by omega)) [_, _, _, _, _, _, _, _] (by simp) (by simp) | exact pick_ok (hQ _ (by omega) (by omega)) [_, _, _, _, _, _, _, _, _] (by simp) (by simp) | exact pick_ok (hQ _ (by omega) (by omega)) [_, _, _, _, _, _, _, _, _, _] (by simp) (by simp) | exact some_ok (hQ _ (by omega) (by omega)) [_] (by simp) (by simp) | exact some_ok (hQ _ (by omega) (by omega)) [_, _] (by simp) (by simp) | exact some_ok (hQ _ (by omega) (by omega)) [_, _, _] (by simp) (by simp) | exact some_ok (hQ _ (by omega) (by omega)) [_, _, _, _] (by simp) (by simp) | exact some_ok (hQ _ (by omega) (by omega)) [_, _, _, _, _] (by simp) (by simp) | exact some_ok (hQ _ (by omega) (by omega)) [_, _, _, _, _, _] (by simp) (by simp) | exact some_ok (hQ _ (by omega) (by omega)) [_, _, _, _, _, _, _] (by simp) (by simp) | exact some_ok (hQ _ (by omega) (by omega)) [_, _, _, _, _, _, _, _] (by simp) (by simp)) ?_; conv => whnf)
      | (refine CallG.mk _ _ (by first | exact flip_ok (hQ _ (by omega) (by omega)) _ (by omega) | exact next_ok (hQ _ (by omega) (by omega)) _ (by omega) | exact range_ok (hQ _ (by omega) (by omega)) _ _ (by omega) (small_lit (by omega)) (small_lit (by omega)) | exact odd_ok (hQ _ (by omega) (by omega)) (hQ _ (by omega) (by omega)) _ _ (small_lit (by omega)) (small_lit (by omega)) (by omega) | exact pick_ok (hQ _ (by omega) (by omega)) [_] (by simp) (by simp) | exact pick_ok (hQ _ (by omega) (by omega)) [_, _] (by simp) (by simp) | exact pick_ok (hQ _ (by omega) (by omega)) [_, _, _] (by simp) (by simp) | exact pick_ok (hQ _ (by omega) (by omega)) [_, _, _, _] (by simp) (by simp) | exact pick_ok (hQ _ (by omega) (by omega)) [_, _, _, _, _] (by simp) (by simp) | exact pick_ok (hQ _ (by omega) (by omega)) [_, _, _, _, _, _] (by simp) (by simp) | exact pick_ok (hQ _ (by omega) (by omega)) [_, _, _, _, _, _, _] (by simp) (by simp) | exact pick_ok (hQ _ (by omega) (by omega)) [_, _, _, _, _, _, _, _] (by simp) (by simp) | exact pick_ok (hQ _ (by omega) (by omega)) [_, _, _, _, _, _, _, _, _] (by simp) (by simp) | exact pick_ok (hQ _ (by omega) (by omega)) [_, _, _, _, _, _, _, _, _, _] (by simp) (by simp) | exact some_ok (hQ _ (by omega) (by omega)) [_] (by simp) (by simp) | exact some_ok (hQ _ (by omega) (by omega)) [_, _] (by simp) (by simp) | exact some_ok (hQ _ (by omega) (by omega)) [_, _, _] (by simp) (by simp) | exact some_ok (hQ _ (by omega) (by omega)) [_, _, _, _] (by simp) (by simp) | exact some_ok (hQ _ (by omega) (by omega)) [_, _, _, _, _] (by simp) (by simp) | exact some_ok (hQ _ (by omega) (by omega)) [_, _, _, _, _, _] (by simp) (by simp) | exact some_ok (hQ _ (by omega) (by omega)) [_, _, _, _, _, _, _] (by simp) (by simp) | exact some_ok (hQ _ (by omega) (by omega)) [_, _, _, _, _, _, _, _] (by simp) (by simp)) ?_; conv => whnf)
      | (refine Ask.mk (by first | omega | (unfold roomOK; simp [cutRows]; done) | (unfold roomOK; simp [cutRows]; omega) | (simp [cutRows]; done) | (simp [cutRows]; omega)) ?_; conv => whnf)
      | (refine AppG.mk (by first | omega | (unfold roomOK; simp [cutRows]; done) | (unfold roomOK; simp [cutRows]; omega) | (simp [cutRows]; done) | (simp [cutRows]; omega)) ?_; conv => whnf)
      | (refine SliceG.fr ?_; conv => whnf)
      | (refine idx_at _ (by with_reducible rfl) (by first | assumption | omega) ?_; conv => whnf)
      | ((with_reducible refine row_map (by first | assumption | omega) ?_); conv => whnf)
      | (refine row_str (by rfl) (by first | (simp [cutRows]; done) | (simp [cutRows]; omega)) ?_; intro str; conv => whnf)
      | ((with_reducible refine row_set (by first | assumption | omega | (simp only [List.length_set]; omega) | (simp; omega)) ?_); conv => whnf)
      | fail)
    all_goals obtain ⟨h1, h2⟩ := hb
    · repeat' (first
        | (refine Split.mk (fun h => ?_) (fun h => ?_) <;> (try simp only [decide_eq_true_eq, decide_eq_false_iff_not, Bool.not_eq_true', Bool.not_eq_false', beq_iff_eq, beq_eq_false_iff_ne, bne_iff_ne, bne_eq_false_iff_eq] at h) <;> (first | (exfalso; first | omega | exact h trivial) | (conv => whnf)))
        | (refine CondG.mk (fun h => ?_) (fun h => ?_) <;> (try simp only [decide_eq_true_eq, decide_eq_false_iff_not, Bool.not_eq_true', Bool.not_eq_false', beq_iff_eq, beq_eq_false_iff_ne, bne_iff_ne, bne_eq_false_iff_eq] at h) <;> (first | (exfalso; first | omega | exact h trivial) | (conv => whnf)))
        | (refine Ask.mk (by first | omega | (unfold roomOK; simp [cutRows]; done) | (unfold roomOK; simp [cutRows]; omega) | (simp [cutRows]; done) | (simp [cutRows]; omega)) ?_; conv => whnf)
        | (refine AppG.mk (by first | omega | (unfold roomOK; simp [cutRows]; done) | (unfold roomOK; simp [cutRows]; omega) | (simp [cutRows]; done) | (simp [cutRows]; omega)) ?_; conv => whnf)
        | (refine SliceG.fr ?_; conv => whnf)
        | (refine idx_at _ (by with_reducible rfl) (by first | assumption | omega) ?_; conv => whnf)
        | ((with_reducible refine row_map (by first | assumption | omega) ?_); conv => whnf)
        | ((with_reducible refine row_set (by first | assumption | omega | (simp only [List.length_set]; omega) | (simp; omega)) ?_); conv => whnf)
        | fail)
      exact hfin (d ++ [_]) u (q + 1 + 1 + 1) (by simp; omega) (by omega) (by omega) (by omega) _ _ rfl ⟨_, _, by rw [List.map_append]; rfl⟩
    · repeat' (first
        | (refine Split.mk (fun h => ?_) (fun h => ?_) <;> (try simp only [decide_eq_true_eq, decide_eq_false_iff_not, Bool.not_eq_true', Bool.not_eq_false', beq_iff_eq, beq_eq_false_iff_ne, bne_iff_ne, bne_eq_false_iff_eq] at h) <;> (first | (exfalso; first | omega | exact h trivial) | (conv => whnf)))
        | (refine CondG.mk (fun h => ?_) (fun h => ?_) <;> (try simp only [decide_eq_true_eq, decide_eq_false_iff_not, Bool.not_eq_true', Bool.not_eq_false', beq_iff_eq, beq_eq_false_iff_ne, bne_iff_ne, bne_eq_false_iff_eq] at h) <;> (first | (exfalso; first | omega | exact h trivial) | (conv => whnf)))
        | (refine Ask.mk (by first | omega | (unfold roomOK; simp [cutRows]; done) | (unfold roomOK; simp [cutRows]; omega) | (simp [cutRows]; done) | (simp [cutRows]; omega)) ?_; conv => whnf)
        | (refine AppG.mk (by first | omega | (unfold roomOK; simp [cutRows]; done) | (unfold roomOK; simp [cutRows]; omega) | (simp [cutRows]; done) | (simp [cutRows]; omega)) ?_; conv => whnf)
        | (refine SliceG.fr ?_; conv => whnf)
        | (refine idx_at _ (by with_reducible rfl) (by first | assumption | omega) ?_; conv => whnf)
        | ((with_reducible refine row_map (by first | assumption | omega) ?_); conv => whnf)
        | ((with_reducible refine row_set (by first | assumption | omega | (simp only [List.length_set]; omega) | (simp; omega)) ?_); conv => whnf)
        | fail)
      exact hfin d (u ++ [_]) (q + 1 + 1 + 1) (by omega) (by simp; omega) (by omega) (by omega) _ _ rfl ⟨_, _, by rw [List.map_append]; rfl⟩
    · refine .fr (by unfold roomOK; simp; omega) ?_
      conv => whnf
      repeat' (first
        | (refine Split.mk (fun h => ?_) (fun h => ?_) <;> (try simp only [decide_eq_true_eq, decide_eq_false_iff_not, Bool.not_eq_true', Bool.not_eq_false', beq_iff_eq, beq_eq_false_iff_ne, bne_iff_ne, bne_eq_false_iff_eq] at h) <;> (first | (exfalso; first | omega | exact h trivial) | (conv => whnf)))
        | (refine CondG.mk (fun h => ?_) (fun h => ?_) <;> (try simp only [decide_eq_true_eq, decide_eq_false_iff_not, Bool.not_eq_true', Bool.not_eq_false', beq_iff_eq, beq_eq_false_iff_ne, bne_iff_ne, bne_eq_false_iff_eq] at h) <;> (first | (exfalso; first | omega | exact h trivial) | (conv => whnf)))
        | (refine Ask.mk (by first | omega | (unfold roomOK; simp [cutRows]; done) | (unfold roomOK; simp [cutRows]; omega) | (simp [cutRows]; done) | (simp [cutRows]; omega)) ?_; conv => whnf)
        | (refine AppG.mk (by first | omega | (unfold roomOK; simp [cutRows]; done) | (unfold roomOK; simp [cutRows]; omega) | (simp [cutRows]; done) | (simp [cutRows]; omega)) ?_; conv => whnf)
        | (refine SliceG.fr ?_; conv => whnf)
        | (refine idx_at _ (by with_reducible rfl) (by first | assumption | omega) ?_; conv => whnf)
        | ((with_reducible refine row_map (by first | assumption | omega) ?_); conv => whnf)
        | ((with_reducible refine row_set (by first | assumption | omega | (simp only [List.length_set]; omega) | (simp; omega)) ?_); conv => whnf)
        | fail)
      refine .mk _ _ ⟨d ++ u, u ++ d, q + 1 + 1, rfl, rfl, by simp; omega, by simp; omega, by omega, by omega⟩ (.frz 2 _ _ _ rfl (.weak [_, _] (.tup _ _ rfl ?_) rfl (Nat.le_refl _)))
      intro i a b ha hb
      match i with
      | 0 => cases ha; cases hb; exact .fro 1 _ _ (by rw [List.map_append]; rfl)
      | 1 => cases ha; cases hb; exact .fro 2 _ _ (by rw [List.map_append]; rfl)
    · exact hfin d u _ (by omega) (by omega) (by omega) (by omega) _ _ rfl ⟨_, _, rfl⟩
theorem pickV_mem (L : List Int) (p : Int) (l : List Int) (h : 1 ≤ l.length) (hl : l.length ≤ 1000000) : pickV L p l ∈ l := by
  have := nextV_lt L p l.length (by omega)
  unfold pickV
  rw [List.getD_eq_getElem?_getD, List.getElem?_eq_getElem (show (nextV L p l.length).toNat < l.length by omega)]
  exact List.getElem_mem _
set_option maxRecDepth 100000 in
set_option maxHeartbeats 4000000 in
theorem rMany_pc {L : List Int} {p : Int} (hst : StOk L p) (hp : p ≤ 800000000) :
    PCq 8 [.c (.ptr 0 0)] [stO L p] fun r os => ∃ (s : List Sv) (down : List ByteArray) (p' : Int), r = .tup [.c (.lst 3 (s.map encSv)), .c (.lst 1 (down.map encS))] ∧ os = [stO L p'] ∧ s.length ≤ 5 ∧ down.length ≤ 5 ∧ (∀ x ∈ s, x.els.length ≤ 5) ∧ p ≤ p' ∧ p' ≤ p + 100 := by
  have hS : ∀ x : Int, p ≤ x → x ≤ p + 100 → StOk L x := fun x h3 h4 => ⟨hst.1, by have := hst.2.1; omega, by omega⟩
  have hn : ∃ n : Nat, pickV L p [2, 3, 4, 5] = (n : Int) ∧ n ≤ 5 := by
    have := pickV_mem L p [2, 3, 4, 5] (by simp) (by simp)
    simp only [List.mem_cons, List.not_mem_nil, or_false] at this
    rcases this with h | h | h | h
    · exact ⟨2, h, by omega⟩
    · exact ⟨3, h, by omega⟩
    · exact ⟨4, h, by omega⟩
    · exact ⟨5, h, by omega⟩
  obtain ⟨n, hn, hn5⟩ := hn
  refine fn_soundX (mt := mts) tab_fits tab_mixed Tryz.func8 (by rfl) (by kernel_rfl) (by kernel_rfl) Tryz.results8 (Nat.le_of_ble_eq_true (by kernel_rfl)) ?_
  conv => whnf
  repeat' (first
    | (refine Split.mk (fun h => ?_) (fun h => ?_) <;> (try simp only [decide_eq_true_eq, decide_eq_false_iff_not, Bool.not_eq_true', Bool.not_eq_false', beq_iff_eq, beq_eq_false_iff_ne, bne_iff_ne, bne_eq_false_iff_eq] at h) <;> (first | (exfalso; first | omega | exact h trivial) | (conv => whnf)))
    | (refine CondG.mk (fun h => ?_) (fun h => ?_) <;> (try simp only [decide_eq_true_eq, decide_eq_false_iff_not, Bool.not_eq_true', Bool.not_eq_false', beq_iff_eq, beq_eq_false_iff_ne, bne_iff_ne, bne_eq_false_iff_eq] at h) <;> (first | (exfalso; first | omega | exact h trivial) | (conv => whnf)))
    | (refine CallX.mk _ _ (by first | exact pick_ok hst [2, 3, 4, 5] (by simp) (by simp)) ?_; conv => whnf)
    | (refine CallG.mk _ _ (by first | exact pick_ok hst [2, 3, 4, 5] (by simp) (by simp)) ?_; conv => whnf)
    | (refine Ask.mk (by first | omega | (unfold roomOK; simp [cutRows]; done) | (unfold roomOK; simp [cutRows]; omega) | (simp [cutRows]; done) | (simp [cutRows]; omega)) ?_; conv => whnf)
    | (refine AppG.mk (by first | omega | (unfold roomOK; simp [cutRows]; done) | (unfold roomOK; simp [cutRows]; omega) | (simp [cutRows]; done) | (simp [cutRows]; omega)) ?_; conv => whnf)
    | (refine SliceG.fr ?_; conv => whnf)
    | (refine idx_at _ (by with_reducible rfl) (by first | assumption | omega) ?_; conv => whnf)
    | ((with_reducible refine row_map (by first | assumption | omega) ?_); conv => whnf)
    | ((with_reducible refine row_set (by first | assumption | omega | (simp only [List.length_set]; omega) | (simp; omega)) ?_); conv => whnf)
    | fail)
  rw [hn]
  refine loop_for3 (n) [.sl 4 53 3, .sl 5 9 1] [0, 4, 5, 14, 15] (fun k (q : Int) (l : List Sv) (d : List ByteArray) => [(15, .c (.int .i64 (k : Int)))]) (fun k (q : Int) (l : List Sv) (d : List ByteArray) => [(0, stO L q), (1, .row 53 3 (l.map encSv)), (2, .row 9 1 (d.map encS))]) (fun k (q : Int) (l : List Sv) (d : List ByteArray) => l.length = k ∧ d.length = k ∧ (∀ x ∈ l, x.els.length ≤ 5) ∧ q = p + 1 + k) (p + 1) ([]) ([]) ?_
  conv => whnf
  refine ⟨(by first | rfl | (simp; done) | (simp; rfl)), ?_, ?_, ?_⟩
  · exact ⟨by simp, by simp, by simp, by omega⟩
  · intro k q l d hk ⟨h1, h2, h3, h4⟩
    as_aux_lemma =>
     have hlm : (l.map encSv).length = l.length := List.length_map ..
     have hdm : (d.map encS).length = d.length := List.length_map ..
     have hQ : ∀ x : Int, q ≤ x → x ≤ q + 14 → StOk L x := fun x h3 h4 => hS x (by omega) (by omega)
     have hm : ∃ m : Nat, pickV L q [3, 4, 5] = (m : Int) ∧ m ≤ 5 := by
       have := pickV_mem L q [3, 4, 5] (by simp) (by simp)
       simp only [List.mem_cons, List.not_mem_nil, or_false] at this
       rcases this with h | h | h
       · exact ⟨3, h, by omega⟩
       · exact ⟨4, h, by omega⟩
       · exact ⟨5, h, by omega⟩
     obtain ⟨m, hm, hm5⟩ := hm
     conv => whnf
     repeat' (first
       | (refine Split.mk (fun h => ?_) (fun h => ?_) <;> (try simp only [decide_eq_true_eq, decide_eq_false_iff_not, Bool.not_eq_true', Bool.not_eq_false', beq_iff_eq, beq_eq_false_iff_ne, bne_iff_ne, bne_eq_false_iff_eq] at h) <;> (first | (exfalso; first | omega | exact h trivial) | (conv => whnf)))
       | (refine CondG.mk (fun h => ?_) (fun h => ?_) <;> (try simp only [decide_eq_true_eq, decide_eq_false_iff_not, Bool.not_eq_true', Bool.not_eq_false', beq_iff_eq, beq_eq_false_iff_ne, bne_iff_ne, bne_eq_false_iff_eq] at h) <;> (first | (exfalso; first | omega | exact h trivial) | (conv => whnf)))
       | (refine CallX.mk _ _ (by first | exact pick_ok (hQ _ (by omega) (by omega)) [3, 4, 5] (by simp) (by simp)) ?_; conv => whnf)
       | (refine CallG.mk _ _ (by first | exact pick_ok (hQ _ (by omega) (by omega)) [3, 4, 5] (by simp) (by simp)) ?_; conv => whnf)
       | (refine Ask.mk (by first | omega | (unfold roomOK; simp [cutRows]; done) | (unfold roomOK; simp [cutRows]; omega) | (simp [cutRows]; done) | (simp [cutRows]; omega)) ?_; conv => whnf)
       | (refine AppG.mk (by first | omega | (unfold roomOK; simp [cutRows]; done) | (unfold roomOK; simp [cutRows]; omega) | (simp [cutRows]; done) | (simp [cutRows]; omega)) ?_; conv => whnf)
       | (refine SliceG.fr ?_; conv => whnf)
       | (refine idx_at _ (by with_reducible rfl) (by first | assumption | omega) ?_; conv => whnf)
       | ((with_reducible refine row_map (by first | assumption | omega) ?_); conv => whnf)
       | ((with_reducible refine row_set (by first | assumption | omega | (simp only [List.length_set]; omega) | (simp; omega)) ?_); conv => whnf)
       | ((refine .mk (lab_ok _ _ (by decide)) ?_); conv => whnf)
       | fail)
     rw [hm]
     have hks : ∀ j : Int, ((⟨#[115]⟩ : ByteArray) ++ Utf8.encode j).size ≤ 100 := by
       intro j
       have := enc_size j
       rw [ByteArray.size_append]
       have h1 : (⟨#[115]⟩ : ByteArray).size = 1 := rfl
       omega
     refine loop_for (m) [.bx 9 1 9 1] [0, 4, 5, 8, 9, 14, 15, 27, 28] (fun j (es : List ByteArray) => [(28, .c (.int .i64 (j : Int)))]) (fun j (es : List ByteArray) => [(4, .row 9 1 (es.map encS))]) (fun j (es : List ByteArray) => es.length = j) ([]) ?_
     conv => whnf
     refine ⟨(by first | rfl | (simp; done) | (simp; rfl)), ?_, ?_, ?_⟩
     · rfl
     · intro j es hj g1
       have hem : (es.map encS).length = es.length := List.length_map ..
       conv => whnf
       repeat' (first
         | (refine Split.mk (fun h => ?_) (fun h => ?_) <;> (try simp only [decide_eq_true_eq, decide_eq_false_iff_not, Bool.not_eq_true', Bool.not_eq_false', beq_iff_eq, beq_eq_false_iff_ne, bne_iff_ne, bne_eq_false_iff_eq] at h) <;> (first | (exfalso; first | omega | exact h trivial) | (conv => whnf)))
         | (refine CondG.mk (fun h => ?_) (fun h => ?_) <;> (try simp only [decide_eq_true_eq, decide_eq_false_iff_not, Bool.not_eq_true', Bool.not_eq_false', beq_iff_eq, beq_eq_false_iff_ne, bne_iff_ne, bne_eq_false_iff_eq] at h) <;> (first | (exfalso; first | omega | exact h trivial) | (conv => whnf)))
         | (refine Ask.mk (by first | omega | (unfold roomOK; simp [cutRows]; done) | (unfold roomOK; simp [cutRows]; omega) | (simp [cutRows]; done) | (simp [cutRows]; omega)) ?_; conv => whnf)
         | (refine AppG.mk (by first | omega | (unfold roomOK; simp [cutRows]; done) | (unfold roomOK; simp [cutRows]; omega) | (simp [cutRows]; done) | (simp [cutRows]; omega)) ?_; conv => whnf)
         | (refine SliceG.fr ?_; conv => whnf)
         | (refine idx_at _ (by with_reducible rfl) (by first | assumption | omega) ?_; conv => whnf)
         | ((with_reducible refine row_map (by first | assumption | omega) ?_); conv => whnf)
         | ((with_reducible refine row_set (by first | assumption | omega | (simp only [List.length_set]; omega) | (simp; omega)) ?_); conv => whnf)
         | ((refine .mk (lab_ok _ _ (hks _)) ?_); conv => whnf)
         | fail)
       refine count_next (es ++ [_]) hj (by rw [wrap_succ hj (by omega), List.map_append]; rfl) (by simp [g1])
     · intro es g1
       conv => whnf
       repeat' (first
         | (refine Split.mk (fun h => ?_) (fun h => ?_) <;> (try simp only [decide_eq_true_eq, decide_eq_false_iff_not, Bool.not_eq_true', Bool.not_eq_false', beq_iff_eq, beq_eq_false_iff_ne, bne_iff_ne, bne_eq_false_iff_eq] at h) <;> (first | (exfalso; first | omega | exact h trivial) | (conv => whnf)))
         | (refine CondG.mk (fun h => ?_) (fun h => ?_) <;> (try simp only [decide_eq_true_eq, decide_eq_false_iff_not, Bool.not_eq_true', Bool.not_eq_false', beq_iff_eq, beq_eq_false_iff_ne, bne_iff_ne, bne_eq_false_iff_eq] at h) <;> (first | (exfalso; first | omega | exact h trivial) | (conv => whnf)))
         | (refine Ask.mk (by first | omega | (unfold roomOK; simp [cutRows]; done) | (unfold roomOK; simp [cutRows]; omega) | (simp [cutRows]; done) | (simp [cutRows]; omega)) ?_; conv => whnf)
         | (refine AppG.mk (by first | omega | (unfold roomOK; simp [cutRows]; done) | (unfold roomOK; simp [cutRows]; omega) | (simp [cutRows]; done) | (simp [cutRows]; omega)) ?_; conv => whnf)
         | (refine SliceG.fr ?_; conv => whnf)
         | (refine idx_at _ (by with_reducible rfl) (by first | assumption | omega) ?_; conv => whnf)
         | ((with_reducible refine row_map (by first | assumption | omega) ?_); conv => whnf)
         | ((with_reducible refine row_set (by first | assumption | omega | (simp only [List.length_set]; omega) | (simp; omega)) ?_); conv => whnf)
         | fail)
       refine count_next (q + 1, l ++ [(⟨_, es, 1⟩ : Sv)], d ++ [_]) hk (by rw [wrap_succ hk (by omega), List.map_append, List.map_append]; rfl) ⟨by simp [h1], by simp [h2], ?_, by simp only; omega⟩
       intro x hx
       rcases List.mem_append.1 hx with hx | hx
       · exact h3 x hx
       · simp at hx; subst hx; simp only; omega
  · intro q l d ⟨h1, h2, h3, h4⟩
    conv => whnf
    repeat' (first
      | (refine Split.mk (fun h => ?_) (fun h => ?_) <;> (try simp only [decide_eq_true_eq, decide_eq_false_iff_not, Bool.not_eq_true', Bool.not_eq_false', beq_iff_eq, beq_eq_false_iff_ne, bne_iff_ne, bne_eq_false_iff_eq] at h) <;> (first | (exfalso; first | omega | exact h trivial) | (conv => whnf)))
      | (refine CondG.mk (fun h => ?_) (fun h => ?_) <;> (try simp only [decide_eq_true_eq, decide_eq_false_iff_not, Bool.not_eq_true', Bool.not_eq_false', beq_iff_eq, beq_eq_false_iff_ne, bne_iff_ne, bne_eq_false_iff_eq] at h) <;> (first | (exfalso; first | omega | exact h trivial) | (conv => whnf)))
      | (refine Ask.mk (by first | omega | (unfold roomOK; simp [cutRows]; done) | (unfold roomOK; simp [cutRows]; omega) | (simp [cutRows]; done) | (simp [cutRows]; omega)) ?_; conv => whnf)
      | (refine AppG.mk (by first | omega | (unfold roomOK; simp [cutRows]; done) | (unfold roomOK; simp [cutRows]; omega) | (simp [cutRows]; done) | (simp [cutRows]; omega)) ?_; conv => whnf)
      | (refine SliceG.fr ?_; conv => whnf)
      | (refine idx_at _ (by with_reducible rfl) (by first | assumption | omega) ?_; conv => whnf)
      | ((with_reducible refine row_map (by first | assumption | omega) ?_); conv => whnf)
      | ((with_reducible refine row_set (by first | assumption | omega | (simp only [List.length_set]; omega) | (simp; omega)) ?_); conv => whnf)
      | fail)
    refine .mk _ _ ⟨l, d, q, rfl, rfl, by omega, by omega, h3, by omega, by omega⟩ (.frz 1 _ _ _ rfl (.frz 2 _ _ _ rfl (.weak [_, _] (.tup _ _ rfl ?_) rfl (Nat.le_refl _))))
    intro i a b ha hb
    match i with
    | 0 => cases ha; cases hb; exact .fro 1 _ _ rfl
    | 1 => cases ha; cases hb; exact .fro 2 _ _ rfl
end Go.Proofs.YtameoookmgkmfaaGreat

/- All that the laws of faults ask of the program and of the document. -/
namespace Go.Proofs.YtameoookmgkmfaaGreat
set_option linter.unusedVariables false
set_option linter.unusedSimpArgs false
open Abs

structure SuspC (s : List Sv) (down : List ByteArray) (uv : V) (seen E : Int) (A B D K : List ByteArray) (L : List (List ByteArray)) : Prop where
  c1 : PCp 9 [.c (.lst 3 (s.map encSv)), .c (.lst 1 (down.map encS)), .c uv] [] (.tup [.c (.lst 1 (A.map encS)), .c (.int .i64 seen)]) []
  c2 : PCp 10 [.c (.lst 3 (s.map encSv)), .c (.lst 1 (down.map encS)), .c uv] [] (.tup [.c (.lst 1 (B.map encS)), .c (.int .i64 seen)]) []
  c3 : PCp 11 [.c (.lst 3 (s.map encSv)), .c (.lst 1 (down.map encS)), .c uv] [] (.tup [.c (.lst 1 (L.map encLs)), .c (.int .i64 E)]) []
  c4 : PCp 12 [.c (.lst 3 (s.map encSv)), .c (.lst 1 (down.map encS)), .c uv] [] (.tup [.c (.lst 1 (D.map encS)), .c (.int .i64 E)]) []
  c5 : PCp 13 [.c (.lst 3 (s.map encSv)), .c (.lst 1 (down.map encS)), .c uv] [] (.tup [.c (.lst 1 (K.map encS)), .c (.int .i64 E)]) []
  c6 : PCp 14 [.c (.lst 3 (s.map encSv)), .c (.lst 1 (down.map encS)), .c uv] [] (.c (.int .i64 seen)) []
  c7 : seen = 0 → PCp 15 [.c (.lst 3 (s.map encSv)), .c (.lst 1 (down.map encS)), .c uv] [] (.c (.lst 1 (A.map encS))) []
  c8 : seen = 0 → PCp 16 [.c (.lst 3 (s.map encSv)), .c (.lst 1 (down.map encS)), .c uv] [] (.c (.lst 1 (B.map encS))) []
  c9 : seen = 0 → PCp 17 [.c (.lst 3 (s.map encSv)), .c (.lst 1 (down.map encS)), .c uv] [] (.tup [.c (.lst 1 (L.map encLs)), .c (.int .i64 E)]) []
  c10 : E = 0 → PCp 18 [.c (.lst 3 (s.map encSv)), .c (.lst 1 (down.map encS)), .c (.lst 1 (L.map encLs))] [] (.c (.lst 1 (D.map encS))) []
  c11 : E = 0 → PCp 19 [.c (.lst 3 (s.map encSv)), .c (.lst 1 (down.map encS)), .c (.lst 1 (L.map encLs))] [] (.c (.lst 1 (K.map encS))) []
  z1 : seen ≠ 0 → A = [] ∧ B = [] ∧ E = seen
  z2 : E ≠ 0 → L = [] ∧ D = [] ∧ K = []
  eA : PCp 20 [.c (.lst 1 (A.map encS)), .c (.lst 1 (A.map encS))] [] (.c (.bool true)) []
  eB : PCp 20 [.c (.lst 1 (B.map encS)), .c (.lst 1 (B.map encS))] [] (.c (.bool true)) []
  eD : PCp 20 [.c (.lst 1 (D.map encS)), .c (.lst 1 (D.map encS))] [] (.c (.bool true)) []
  eK : PCp 20 [.c (.lst 1 (K.map encS)), .c (.lst 1 (K.map encS))] [] (.c (.bool true)) []
  eL : PCp 21 [.c (.lst 1 (L.map encLs)), .c (.lst 1 (L.map encLs)), .c (.fn 20 [])] [] (.c (.bool true)) []
theorem wk3 {f : Nat} {a b : S} {u v : V} {os : List Ob} {Q : S → List Ob → Prop} (h : PCq f [a, b, .c v] os Q) (hw : WkV u v) : PCq f [a, b, .c u] os Q :=
  h.wk (P2.cons (.refl _) (P2.cons (.refl _) (P2.cons (.c hw) P2.nil)))
theorem suspC (s : List Sv) (hx : ∀ x ∈ s, x.els.length ≤ 1000) (down up : List ByteArray) (uv : V) (hw : WkV uv (.lst 1 (up.map encS))) : ∃ seen E A B D K L, SuspC s down uv seen E A B D K L := by
  have hx6 : ∀ x ∈ s, x.els.length ≤ 1000000 := fun x hm => Nat.le_trans (hx x hm) (by decide)
  have c1 := wk3 (suspectsP_pc s hx6 down up) hw
  have c2 := wk3 (fUnex_pc s hx6 down up) hw
  have c3 := wk3 (fExpls_pc s hx6 down up) hw
  have c4 := wk3 (fSure_pc s hx6 down up _ _ rfl rfl) hw
  have c5 := wk3 (fClr_pc s hx6 down up _ _ rfl rfl) hw
  have c6 := wk3 (rSeen_pc s hx6 down up) hw
  by_cases h0 : seenErr s down up = 0
  · obtain ⟨hs, hd, hu⟩ := seen_ok h0
    have hdl := hd.len
    have hul := hu.len
    simp only [if_pos h0] at c1 c2 c3 c4 c5
    rw [h0] at c1 c2 c6
    have c7 := wk3 (rSus_pc s hs.len hx down up (by omega) (by omega)) hw
    have c8 := wk3 (rUnex_pc s hs down up hd hu) hw
    have c9 := wk3 (rExpls_pc s hs down up hd hu) hw
    rw [susD_eq hs hd hu] at c7
    rw [unexD_eq hs hd hu] at c8
    rw [expD_eq hs hd hu, expDE_eq hs hd hu] at c9
    have eA := eqSsS (susV s down up) (Nat.le_trans (susV_len hs hd up) (by decide))
    have eB := eqSsS (unexV s (susV s down up) down) (by have : (unexV s (susV s down up) down).length ≤ down.length := List.length_filter_le ..; omega)
    by_cases h1 : explE s (susV s down up) down = 0
    · simp only [if_pos h1] at c4 c5
      obtain ⟨k1, k2, k3, k4⟩ := explV_ok (susV_rise s down up) h1
      have c10 := rSure_pc s hs.len hx down (by omega) (explV s (susV s down up) down) (by omega) (fun q hq => (k4 q hq).2)
      have c11 := rClr_pc s hs.len hx down (by omega) (explV s (susV s down up) down) (by omega) (fun q hq => (k4 q hq).2)
      have eD : (sureD s down (explV s (susV s down up) down)).length ≤ 1000000 := Nat.le_trans (List.length_filter_le ..) (elsV_len hs.len hx _)
      have eK : (clrD s down (explV s (susV s down up) down)).length ≤ 1000000 := Nat.le_trans (List.length_filter_le ..) (elsV_len hs.len hx _)
      rw [sureD_eq hs hd hu rfl h1] at c10 eD
      rw [clrD_eq hs hd] at c11 eK
      exact ⟨0, _, _, _, _, _, _, ⟨c1, c2, c3, c4, c5, c6, fun _ => c7, fun _ => c8, fun _ => c9, fun _ => c10, fun _ => c11, fun h => (h rfl).elim, fun h => (h h1).elim, eA, eB, eqSsS _ eD, eqSsS _ eK, eqFuncSS_pc _ (by omega) (fun q hq => (k4 q hq).2)⟩⟩
    · simp only [if_neg h1] at c4 c5
      have hL : explV s (susV s down up) down = [] := by unfold explV; rw [if_neg h1]
      rw [hL] at c3 c9
      exact ⟨0, _, _, _, [], [], [], ⟨c1, c2, c3, c4, c5, c6, fun _ => c7, fun _ => c8, fun _ => c9, fun h => (h1 h).elim, fun h => (h1 h).elim, fun h => (h rfl).elim, fun _ => ⟨rfl, rfl, rfl⟩, eA, eB, eqSsS [] (by simp), eqSsS [] (by simp), eqFuncSS_pc [] (by simp) (by simp)⟩⟩
  · simp only [if_neg h0] at c1 c2 c3 c4 c5
    exact ⟨_, _, [], [], [], [], [], ⟨c1, c2, c3, c4, c5, c6, fun h => (h0 h).elim, fun h => (h0 h).elim, fun h => (h0 h).elim, fun h => (h0 h).elim, fun h => (h0 h).elim, fun _ => ⟨rfl, rfl, rfl⟩, fun _ => ⟨rfl, rfl, rfl⟩, eqSsS [] (by simp), eqSsS [] (by simp), eqSsS [] (by simp), eqSsS [] (by simp), eqFuncSS_pc [] (by simp) (by simp)⟩⟩
end Go.Proofs.YtameoookmgkmfaaGreat

/- The law of suspects. -/
namespace Go.Proofs.YtameoookmgkmfaaGreat
set_option linter.unusedVariables false
set_option linter.unusedSimpArgs false
open Abs

set_option maxRecDepth 100000 in
set_option maxHeartbeats 4000000 in
theorem suspectsFound_pc (L : List Int) (hL : L.length ≤ 9223372036854775807) : PCp 3 [.c (.lst 1 (L.map encI))] [] (.c (.bool true)) [] := by
  have st0 : StOk L 0 := ⟨hL, by omega, by omega⟩
  refine fn_sound (mt := mts) tab_fits tab_mixed Tryz.func3 (by rfl) (by kernel_rfl) (by kernel_rfl) Tryz.results3 (Nat.le_of_ble_eq_true (by kernel_rfl)) ?_
  conv => whnf
  repeat' (first
    | (refine Split.mk (fun h => ?_) (fun h => ?_) <;> (try simp only [decide_eq_true_eq, decide_eq_false_iff_not, Bool.not_eq_true', Bool.not_eq_false', beq_iff_eq, beq_eq_false_iff_ne, bne_iff_ne, bne_eq_false_iff_eq] at h) <;> (first | (exfalso; first | omega | exact h trivial) | (conv => whnf)))
    | (refine CondG.mk (fun h => ?_) (fun h => ?_) <;> (try simp only [decide_eq_true_eq, decide_eq_false_iff_not, Bool.not_eq_true', Bool.not_eq_false', beq_iff_eq, beq_eq_false_iff_ne, bne_iff_ne, bne_eq_false_iff_eq] at h) <;> (first | (exfalso; first | omega | exact h trivial) | (conv => whnf)))
    | (refine Ask.mk (by first | omega | (unfold roomOK; simp [cutRows]; done) | (unfold roomOK; simp [cutRows]; omega) | (simp [cutRows]; done) | (simp [cutRows]; omega)) ?_; conv => whnf)
    | (refine AppG.mk (by first | omega | (unfold roomOK; simp [cutRows]; done) | (unfold roomOK; simp [cutRows]; omega) | (simp [cutRows]; done) | (simp [cutRows]; omega)) ?_; conv => whnf)
    | (refine SliceG.fr ?_; conv => whnf)
    | (refine idx_at _ (by with_reducible rfl) (by first | assumption | omega) ?_; conv => whnf)
    | ((with_reducible refine row_map (by first | assumption | omega) ?_); conv => whnf)
    | ((with_reducible refine row_set (by first | assumption | omega | (simp only [List.length_set]; omega) | (simp; omega)) ?_); conv => whnf)
    | fail)
  refine .ex _ (rServices_pc st0 (by omega)) ?_
  rintro _ _ ⟨s, p, rfl, rfl, h1, h2, h3, h4⟩
  conv => whnf
  refine .ex _ (rDownUp_pc (L := L) (p := p) ⟨hL, by omega, by omega⟩ (by omega) s h1) ?_
  rintro _ _ ⟨d, u, p2, rfl, rfl, h5, h6, h7, h8⟩
  conv => whnf
  repeat' (first
    | (refine Split.mk (fun h => ?_) (fun h => ?_) <;> (try simp only [decide_eq_true_eq, decide_eq_false_iff_not, Bool.not_eq_true', Bool.not_eq_false', beq_iff_eq, beq_eq_false_iff_ne, bne_iff_ne, bne_eq_false_iff_eq] at h) <;> (first | (exfalso; first | omega | exact h trivial) | (conv => whnf)))
    | (refine CondG.mk (fun h => ?_) (fun h => ?_) <;> (try simp only [decide_eq_true_eq, decide_eq_false_iff_not, Bool.not_eq_true', Bool.not_eq_false', beq_iff_eq, beq_eq_false_iff_ne, bne_iff_ne, bne_eq_false_iff_eq] at h) <;> (first | (exfalso; first | omega | exact h trivial) | (conv => whnf)))
    | (refine CallX.mk _ _ (by first | exact flip_ok (L := L) (p := p2) ⟨hL, by omega, by omega⟩ _ (by omega)) ?_; conv => whnf)
    | (refine CallG.mk _ _ (by first | exact flip_ok (L := L) (p := p2) ⟨hL, by omega, by omega⟩ _ (by omega)) ?_; conv => whnf)
    | (refine Ask.mk (by first | omega | (unfold roomOK; simp [cutRows]; done) | (unfold roomOK; simp [cutRows]; omega) | (simp [cutRows]; done) | (simp [cutRows]; omega)) ?_; conv => whnf)
    | (refine AppG.mk (by first | omega | (unfold roomOK; simp [cutRows]; done) | (unfold roomOK; simp [cutRows]; omega) | (simp [cutRows]; done) | (simp [cutRows]; omega)) ?_; conv => whnf)
    | (refine SliceG.fr ?_; conv => whnf)
    | (refine idx_at _ (by with_reducible rfl) (by first | assumption | omega) ?_; conv => whnf)
    | ((with_reducible refine row_map (by first | assumption | omega) ?_); conv => whnf)
    | ((with_reducible refine row_set (by first | assumption | omega | (simp only [List.length_set]; omega) | (simp; omega)) ?_); conv => whnf)
    | fail)
  · refine .ex _ (rMany_pc (L := L) (p := p2 + 1) ⟨hL, by omega, by omega⟩ (by omega)) ?_
    rintro _ _ ⟨s', d', p3, rfl, rfl, g1, g2, g3, g4, g5⟩
    conv => whnf
    obtain ⟨seen, E, A, B, D, K, LL, hC⟩ := suspC s' (fun x hm => Nat.le_trans (g3 x hm) (by decide)) d' [] .nils (.nils 1)
    obtain ⟨c1, c2, c3, c4, c5, c6, c7, c8, c9, c10, c11, z1, z2, eA, eB, eD, eK, eL⟩ := hC
    by_cases h0 : seen = 0
    · replace c7 := c7 h0
      replace c8 := c8 h0
      replace c9 := c9 h0
      subst h0
      clear z1
      by_cases h1 : E = 0
      · replace c10 := c10 h1
        replace c11 := c11 h1
        subst h1
        clear z2
        as_aux_lemma =>
         repeat' (first
           | (refine Split.mk (fun h => ?_) (fun h => ?_) <;> (try simp only [decide_eq_true_eq, decide_eq_false_iff_not, Bool.not_eq_true', Bool.not_eq_false', beq_iff_eq, beq_eq_false_iff_ne, bne_iff_ne, bne_eq_false_iff_eq] at h) <;> (first | (exfalso; first | omega | exact h trivial | contradiction | (simp_all [eqRes]; done)) | (conv => whnf)))
           | (refine CondG.mk (fun h => ?_) (fun h => ?_) <;> (try simp only [decide_eq_true_eq, decide_eq_false_iff_not, Bool.not_eq_true', Bool.not_eq_false', beq_iff_eq, beq_eq_false_iff_ne, bne_iff_ne, bne_eq_false_iff_eq] at h) <;> (first | (exfalso; first | omega | exact h trivial | contradiction | (simp_all [eqRes]; done)) | (conv => whnf)))
           | (refine CallX.mk _ _ (by first | exact c1 | exact c2 | exact c3 | exact c4 | exact c5 | exact c6 | exact c7 | exact c8 | exact c9 | exact c10 | exact c11 | exact eA | exact eB | exact eD | exact eK | exact eL | exact blamed_pc) ?_; conv => whnf)
           | (refine CallG.mk _ _ (by first | exact c1 | exact c2 | exact c3 | exact c4 | exact c5 | exact c6 | exact c7 | exact c8 | exact c9 | exact c10 | exact c11 | exact eA | exact eB | exact eD | exact eK | exact eL | exact blamed_pc) ?_; conv => whnf)
           | (refine Ask.mk (by first | omega | (unfold roomOK; simp [cutRows]; done) | (unfold roomOK; simp [cutRows]; omega) | (simp [cutRows]; done) | (simp [cutRows]; omega)) ?_; conv => whnf)
           | (refine AppG.mk (by first | omega | (unfold roomOK; simp [cutRows]; done) | (unfold roomOK; simp [cutRows]; omega) | (simp [cutRows]; done) | (simp [cutRows]; omega)) ?_; conv => whnf)
           | (refine SliceG.fr ?_; conv => whnf)
           | (refine idx_at _ (by with_reducible rfl) (by first | assumption | omega) ?_; conv => whnf)
           | ((with_reducible refine row_map (by first | assumption | omega) ?_); conv => whnf)
           | ((with_reducible refine row_set (by first | assumption | omega | (simp only [List.length_set]; omega) | (simp; omega)) ?_); conv => whnf)
           | fail)
         all_goals first | exact finb rfl | contradiction | (rename_i h; simp at h; done)
      · obtain ⟨rfl, rfl, rfl⟩ := z2 h1
        as_aux_lemma =>
         repeat' (first
           | (refine Split.mk (fun h => ?_) (fun h => ?_) <;> (try simp only [decide_eq_true_eq, decide_eq_false_iff_not, Bool.not_eq_true', Bool.not_eq_false', beq_iff_eq, beq_eq_false_iff_ne, bne_iff_ne, bne_eq_false_iff_eq] at h) <;> (first | (exfalso; first | omega | exact h trivial | contradiction | (simp_all [eqRes]; done)) | (conv => whnf)))
           | (refine CondG.mk (fun h => ?_) (fun h => ?_) <;> (try simp only [decide_eq_true_eq, decide_eq_false_iff_not, Bool.not_eq_true', Bool.not_eq_false', beq_iff_eq, beq_eq_false_iff_ne, bne_iff_ne, bne_eq_false_iff_eq] at h) <;> (first | (exfalso; first | omega | exact h trivial | contradiction | (simp_all [eqRes]; done)) | (conv => whnf)))
           | (refine CallX.mk _ _ (by first | exact c1 | exact c2 | exact c3 | exact c4 | exact c5 | exact c6 | exact c7 | exact c8 | exact c9 | exact eA | exact eB | exact eqSsN | exact eqFuncSSN | exact eL | exact blamed_pc) ?_; conv => whnf)
           | (refine CallG.mk _ _ (by first | exact c1 | exact c2 | exact c3 | exact c4 | exact c5 | exact c6 | exact c7 | exact c8 | exact c9 | exact eA | exact eB | exact eqSsN | exact eqFuncSSN | exact eL | exact blamed_pc) ?_; conv => whnf)
           | (refine Ask.mk (by first | omega | (unfold roomOK; simp [cutRows]; done) | (unfold roomOK; simp [cutRows]; omega) | (simp [cutRows]; done) | (simp [cutRows]; omega)) ?_; conv => whnf)
           | (refine AppG.mk (by first | omega | (unfold roomOK; simp [cutRows]; done) | (unfold roomOK; simp [cutRows]; omega) | (simp [cutRows]; done) | (simp [cutRows]; omega)) ?_; conv => whnf)
           | (refine SliceG.fr ?_; conv => whnf)
           | (refine idx_at _ (by with_reducible rfl) (by first | assumption | omega) ?_; conv => whnf)
           | ((with_reducible refine row_map (by first | assumption | omega) ?_); conv => whnf)
           | ((with_reducible refine row_set (by first | assumption | omega | (simp only [List.length_set]; omega) | (simp; omega)) ?_); conv => whnf)
           | fail)
         all_goals first | exact finb rfl | contradiction | (rename_i h; simp at h; done)
    · obtain ⟨rfl, rfl, rfl⟩ := z1 h0
      obtain ⟨rfl, rfl, rfl⟩ := z2 h0
      as_aux_lemma =>
       repeat' (first
         | (refine Split.mk (fun h => ?_) (fun h => ?_) <;> (try simp only [decide_eq_true_eq, decide_eq_false_iff_not, Bool.not_eq_true', Bool.not_eq_false', beq_iff_eq, beq_eq_false_iff_ne, bne_iff_ne, bne_eq_false_iff_eq] at h) <;> (first | (exfalso; first | omega | exact h trivial | contradiction | (simp_all [eqRes]; done)) | (conv => whnf)))
         | (refine CondG.mk (fun h => ?_) (fun h => ?_) <;> (try simp only [decide_eq_true_eq, decide_eq_false_iff_not, Bool.not_eq_true', Bool.not_eq_false', beq_iff_eq, beq_eq_false_iff_ne, bne_iff_ne, bne_eq_false_iff_eq] at h) <;> (first | (exfalso; first | omega | exact h trivial | contradiction | (simp_all [eqRes]; done)) | (conv => whnf)))
         | (refine CallX.mk _ _ (by first | exact c1 | exact c2 | exact c3 | exact c4 | exact c5 | exact c6 | exact eqSsN | exact eqFuncSSN | exact blamed_pc) ?_; conv => whnf)
         | (refine CallG.mk _ _ (by first | exact c1 | exact c2 | exact c3 | exact c4 | exact c5 | exact c6 | exact eqSsN | exact eqFuncSSN | exact blamed_pc) ?_; conv => whnf)
         | (refine Ask.mk (by first | omega | (unfold roomOK; simp [cutRows]; done) | (unfold roomOK; simp [cutRows]; omega) | (simp [cutRows]; done) | (simp [cutRows]; omega)) ?_; conv => whnf)
         | (refine AppG.mk (by first | omega | (unfold roomOK; simp [cutRows]; done) | (unfold roomOK; simp [cutRows]; omega) | (simp [cutRows]; done) | (simp [cutRows]; omega)) ?_; conv => whnf)
         | (refine SliceG.fr ?_; conv => whnf)
         | (refine idx_at _ (by with_reducible rfl) (by first | assumption | omega) ?_; conv => whnf)
         | ((with_reducible refine row_map (by first | assumption | omega) ?_); conv => whnf)
         | ((with_reducible refine row_set (by first | assumption | omega | (simp only [List.length_set]; omega) | (simp; omega)) ?_); conv => whnf)
         | fail)
       all_goals first | exact finb rfl | contradiction | (rename_i h; simp at h; done)
  · clear h
    obtain ⟨seen, E, A, B, D, K, LL, hC⟩ := suspC s (fun x hm => Nat.le_trans (h2 x hm).1 (by decide)) d u (.lst 1 (u.map encS)) (.refl _)
    obtain ⟨c1, c2, c3, c4, c5, c6, c7, c8, c9, c10, c11, z1, z2, eA, eB, eD, eK, eL⟩ := hC
    by_cases h0 : seen = 0
    · replace c7 := c7 h0
      replace c8 := c8 h0
      replace c9 := c9 h0
      subst h0
      clear z1
      by_cases h1 : E = 0
      · replace c10 := c10 h1
        replace c11 := c11 h1
        subst h1
        clear z2
        as_aux_lemma =>
         repeat' (first
           | (refine Split.mk (fun h => ?_) (fun h => ?_) <;> (try simp only [decide_eq_true_eq, decide_eq_false_iff_not, Bool.not_eq_true', Bool.not_eq_false', beq_iff_eq, beq_eq_false_iff_ne, bne_iff_ne, bne_eq_false_iff_eq] at h) <;> (first | (exfalso; first | omega | exact h trivial | contradiction | (simp_all [eqRes]; done)) | (conv => whnf)))
           | (refine CondG.mk (fun h => ?_) (fun h => ?_) <;> (try simp only [decide_eq_true_eq, decide_eq_false_iff_not, Bool.not_eq_true', Bool.not_eq_false', beq_iff_eq, beq_eq_false_iff_ne, bne_iff_ne, bne_eq_false_iff_eq] at h) <;> (first | (exfalso; first | omega | exact h trivial | contradiction | (simp_all [eqRes]; done)) | (conv => whnf)))
           | (refine CallX.mk _ _ (by first | exact c1 | exact c2 | exact c3 | exact c4 | exact c5 | exact c6 | exact c7 | exact c8 | exact c9 | exact c10 | exact c11 | exact eA | exact eB | exact eD | exact eK | exact eL | exact blamed_pc) ?_; conv => whnf)
           | (refine CallG.mk _ _ (by first | exact c1 | exact c2 | exact c3 | exact c4 | exact c5 | exact c6 | exact c7 | exact c8 | exact c9 | exact c10 | exact c11 | exact eA | exact eB | exact eD | exact eK | exact eL | exact blamed_pc) ?_; conv => whnf)
           | (refine Ask.mk (by first | omega | (unfold roomOK; simp [cutRows]; done) | (unfold roomOK; simp [cutRows]; omega) | (simp [cutRows]; done) | (simp [cutRows]; omega)) ?_; conv => whnf)
           | (refine AppG.mk (by first | omega | (unfold roomOK; simp [cutRows]; done) | (unfold roomOK; simp [cutRows]; omega) | (simp [cutRows]; done) | (simp [cutRows]; omega)) ?_; conv => whnf)
           | (refine SliceG.fr ?_; conv => whnf)
           | (refine idx_at _ (by with_reducible rfl) (by first | assumption | omega) ?_; conv => whnf)
           | ((with_reducible refine row_map (by first | assumption | omega) ?_); conv => whnf)
           | ((with_reducible refine row_set (by first | assumption | omega | (simp only [List.length_set]; omega) | (simp; omega)) ?_); conv => whnf)
           | fail)
         all_goals first | exact finb rfl | contradiction | (rename_i h; simp at h; done)
      · obtain ⟨rfl, rfl, rfl⟩ := z2 h1
        as_aux_lemma =>
         repeat' (first
           | (refine Split.mk (fun h => ?_) (fun h => ?_) <;> (try simp only [decide_eq_true_eq, decide_eq_false_iff_not, Bool.not_eq_true', Bool.not_eq_false', beq_iff_eq, beq_eq_false_iff_ne, bne_iff_ne, bne_eq_false_iff_eq] at h) <;> (first | (exfalso; first | omega | exact h trivial | contradiction | (simp_all [eqRes]; done)) | (conv => whnf)))
           | (refine CondG.mk (fun h => ?_) (fun h => ?_) <;> (try simp only [decide_eq_true_eq, decide_eq_false_iff_not, Bool.not_eq_true', Bool.not_eq_false', beq_iff_eq, beq_eq_false_iff_ne, bne_iff_ne, bne_eq_false_iff_eq] at h) <;> (first | (exfalso; first | omega | exact h trivial | contradiction | (simp_all [eqRes]; done)) | (conv => whnf)))
           | (refine CallX.mk _ _ (by first | exact c1 | exact c2 | exact c3 | exact c4 | exact c5 | exact c6 | exact c7 | exact c8 | exact c9 | exact eA | exact eB | exact eqSsN | exact eqFuncSSN | exact eL | exact blamed_pc) ?_; conv => whnf)
           | (refine CallG.mk _ _ (by first | exact c1 | exact c2 | exact c3 | exact c4 | exact c5 | exact c6 | exact c7 | exact c8 | exact c9 | exact eA | exact eB | exact eqSsN | exact eqFuncSSN | exact eL | exact blamed_pc) ?_; conv => whnf)
           | (refine Ask.mk (by first | omega | (unfold roomOK; simp [cutRows]; done) | (unfold roomOK; simp [cutRows]; omega) | (simp [cutRows]; done) | (simp [cutRows]; omega)) ?_; conv => whnf)
           | (refine AppG.mk (by first | omega | (unfold roomOK; simp [cutRows]; done) | (unfold roomOK; simp [cutRows]; omega) | (simp [cutRows]; done) | (simp [cutRows]; omega)) ?_; conv => whnf)
           | (refine SliceG.fr ?_; conv => whnf)
           | (refine idx_at _ (by with_reducible rfl) (by first | assumption | omega) ?_; conv => whnf)
           | ((with_reducible refine row_map (by first | assumption | omega) ?_); conv => whnf)
           | ((with_reducible refine row_set (by first | assumption | omega | (simp only [List.length_set]; omega) | (simp; omega)) ?_); conv => whnf)
           | fail)
         all_goals first | exact finb rfl | contradiction | (rename_i h; simp at h; done)
    · obtain ⟨rfl, rfl, rfl⟩ := z1 h0
      obtain ⟨rfl, rfl, rfl⟩ := z2 h0
      as_aux_lemma =>
       repeat' (first
         | (refine Split.mk (fun h => ?_) (fun h => ?_) <;> (try simp only [decide_eq_true_eq, decide_eq_false_iff_not, Bool.not_eq_true', Bool.not_eq_false', beq_iff_eq, beq_eq_false_iff_ne, bne_iff_ne, bne_eq_false_iff_eq] at h) <;> (first | (exfalso; first | omega | exact h trivial | contradiction | (simp_all [eqRes]; done)) | (conv => whnf)))
         | (refine CondG.mk (fun h => ?_) (fun h => ?_) <;> (try simp only [decide_eq_true_eq, decide_eq_false_iff_not, Bool.not_eq_true', Bool.not_eq_false', beq_iff_eq, beq_eq_false_iff_ne, bne_iff_ne, bne_eq_false_iff_eq] at h) <;> (first | (exfalso; first | omega | exact h trivial | contradiction | (simp_all [eqRes]; done)) | (conv => whnf)))
         | (refine CallX.mk _ _ (by first | exact c1 | exact c2 | exact c3 | exact c4 | exact c5 | exact c6 | exact eqSsN | exact eqFuncSSN | exact blamed_pc) ?_; conv => whnf)
         | (refine CallG.mk _ _ (by first | exact c1 | exact c2 | exact c3 | exact c4 | exact c5 | exact c6 | exact eqSsN | exact eqFuncSSN | exact blamed_pc) ?_; conv => whnf)
         | (refine Ask.mk (by first | omega | (unfold roomOK; simp [cutRows]; done) | (unfold roomOK; simp [cutRows]; omega) | (simp [cutRows]; done) | (simp [cutRows]; omega)) ?_; conv => whnf)
         | (refine AppG.mk (by first | omega | (unfold roomOK; simp [cutRows]; done) | (unfold roomOK; simp [cutRows]; omega) | (simp [cutRows]; done) | (simp [cutRows]; omega)) ?_; conv => whnf)
         | (refine SliceG.fr ?_; conv => whnf)
         | (refine idx_at _ (by with_reducible rfl) (by first | assumption | omega) ?_; conv => whnf)
         | ((with_reducible refine row_map (by first | assumption | omega) ?_); conv => whnf)
         | ((with_reducible refine row_set (by first | assumption | omega | (simp only [List.length_set]; omega) | (simp; omega)) ?_); conv => whnf)
         | fail)
       all_goals first | exact finb rfl | contradiction | (rename_i h; simp at h; done)
end Go.Proofs.YtameoookmgkmfaaGreat
