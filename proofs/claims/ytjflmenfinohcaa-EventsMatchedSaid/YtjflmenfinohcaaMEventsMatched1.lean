/- Parts of the proof, in order. -/
import Derived.Test.YtjflmenfinohcaaLib

/- Plain law: the runs of an excess, and the best of each run. No program in sight. -/
namespace Go.Proofs.Ytjflmenfinohcaa.Hd
set_option linter.unusedVariables false
set_option linter.unusedSimpArgs false

section
variable (R : List Int) (T : Int)
/-- index i belongs to a run -/
def isN (i : Nat) : Bool := decide (i < R.length) && decide (T ≤ R.getD i 0)
def lft (x : Int) : Nat → Bool
  | 0 => true
  | k + 1 => if isN R T k then decide (R.getD k 0 < x) && lft x k else true
def rgt (x : Int) : Nat → Nat → Bool
  | 0, _ => true
  | m + 1, k => if isN R T k then decide (R.getD k 0 ≤ x) && rgt x m (k + 1) else true
def bestB (i : Nat) : Bool := isN R T i && (lft R T (R.getD i 0) i && rgt R T (R.getD i 0) (R.length - (i + 1)) (i + 1))
def bestL : List Nat := (List.range R.length).filter (bestB R T)

theorem isN_lt {i : Nat} (h : isN R T i = true) : i < R.length := by simp [isN] at h; exact h.1
theorem isN_mk {i : Nat} (h1 : i < R.length) (h2 : T ≤ R.getD i 0) : isN R T i = true := by simp only [isN, Bool.and_eq_true, decide_eq_true_eq]; exact ⟨h1, h2⟩

theorem lft_iff (x : Int) : ∀ n, lft R T x n = true ↔ ∀ k, k < n → (∀ j, k ≤ j → j < n → isN R T j = true) → R.getD k 0 < x := by
  intro n
  induction n with
  | zero => simp [lft]
  | succ n ih =>
    unfold lft
    by_cases h : isN R T n = true
    · rw [if_pos h, Bool.and_eq_true, decide_eq_true_eq, ih]
      constructor
      · rintro ⟨h1, h2⟩ k hk hj
        by_cases hkn : k = n
        · subst hkn; exact h1
        · exact h2 k (by omega) (fun j h3 h4 => hj j h3 (by omega))
      · intro hh
        refine ⟨hh n (by omega) (fun j h3 h4 => by rw [show j = n by omega]; exact h), fun k hk hj => hh k (by omega) (fun j h3 h4 => ?_)⟩
        by_cases hjn : j = n
        · rw [hjn]; exact h
        · exact hj j h3 (by omega)
    · rw [if_neg h]
      constructor
      · intro _ k hk hj
        exact absurd (hj n (by omega) (by omega)) h
      · intro _; rfl

theorem rgt_iff (x : Int) : ∀ m s, rgt R T x m s = true ↔ ∀ k, s ≤ k → k < s + m → (∀ j, s ≤ j → j ≤ k → isN R T j = true) → R.getD k 0 ≤ x := by
  intro m
  induction m with
  | zero => intro s; simp [rgt]; intro k h1 h2; omega
  | succ m ih =>
    intro s
    unfold rgt
    by_cases h : isN R T s = true
    · rw [if_pos h, Bool.and_eq_true, decide_eq_true_eq, ih]
      constructor
      · rintro ⟨h1, h2⟩ k hk hk2 hj
        by_cases hks : k = s
        · subst hks; exact h1
        · exact h2 k (by omega) (by omega) (fun j h3 h4 => hj j (by omega) h4)
      · intro hh
        refine ⟨hh s (by omega) (by omega) (fun j h3 h4 => by rw [show j = s by omega]; exact h), fun k hk hk2 hj => hh k (by omega) (by omega) (fun j h3 h4 => ?_)⟩
        by_cases hjs : j = s
        · rw [hjs]; exact h
        · exact hj j (by omega) h4
    · rw [if_neg h]
      constructor
      · intro _ k hk hk2 hj
        exact absurd (hj s (by omega) (by omega)) h
      · intro _; rfl

theorem bestB_iff (i : Nat) : bestB R T i = true ↔ isN R T i = true ∧ (∀ k, k < i → (∀ j, k ≤ j → j < i → isN R T j = true) → R.getD k 0 < R.getD i 0) ∧
    (∀ k, i < k → (∀ j, i < j → j ≤ k → isN R T j = true) → R.getD k 0 ≤ R.getD i 0) := by
  unfold bestB
  rw [Bool.and_eq_true, Bool.and_eq_true, lft_iff, rgt_iff]
  constructor
  · rintro ⟨h1, h2, h3⟩
    refine ⟨h1, h2, fun k hk hj => ?_⟩
    have := isN_lt R T (hj k hk (Nat.le_refl _))
    exact h3 k (by omega) (by omega) (fun j h4 h5 => hj j (by omega) h5)
  · rintro ⟨h1, h2, h3⟩
    exact ⟨h1, h2, fun k hk _ hj => h3 k (by omega) (fun j h4 h5 => hj j (by omega) h5)⟩

/-! the machine of the program -/
def flushO (s : Option Nat × List Nat) : List Nat := match s.1 with | some b => s.2 ++ [b] | none => s.2
def pst : Nat → Option Nat × List Nat
  | 0 => (none, [])
  | k + 1 =>
    if R.getD k 0 < T then (none, flushO (pst k))
    else match (pst k).1 with
      | none => (some k, (pst k).2)
      | some b => if R.getD b 0 < R.getD k 0 then (some k, (pst k).2) else pst k

def PInv (k : Nat) (s : Option Nat × List Nat) : Prop :=
  ∃ st, st ≤ k ∧ (st = 0 ∨ isN R T (st - 1) = false) ∧ (∀ j, st ≤ j → j < k → isN R T j = true) ∧ s.2 = (List.range st).filter (bestB R T) ∧
    ((s.1 = none ∧ st = k) ∨ ∃ b, s.1 = some b ∧ st ≤ b ∧ b < k ∧ (∀ j, st ≤ j → j < b → R.getD j 0 < R.getD b 0) ∧ (∀ j, b < j → j < k → R.getD j 0 ≤ R.getD b 0))

theorem filter_single (p : Nat → Bool) (st b k : Nat) (h1 : st ≤ b) (h2 : b < k) (h : ∀ j, st ≤ j → j < k → (p j = true ↔ j = b)) : (List.range k).filter p = (List.range st).filter p ++ [b] := by
  have low : ∀ m, st ≤ m → m ≤ b → (List.range m).filter p = (List.range st).filter p := by
    intro m hm hb
    induction m with
    | zero => rw [show st = 0 by omega]
    | succ m ih =>
      by_cases hs : st = m + 1
      · rw [hs]
      · rw [List.range_succ, List.filter_append, ih (by omega) (by omega)]
        have : p m = false := by
          cases hp : p m with
          | false => rfl
          | true => have := (h m (by omega) (by omega)).1 hp; omega
        simp [this]
  have hb : (List.range (b + 1)).filter p = (List.range st).filter p ++ [b] := by
    rw [List.range_succ, List.filter_append, low b h1 (Nat.le_refl _)]
    simp [(h b h1 h2).2 rfl]
  have high : ∀ m, b + 1 ≤ m → m ≤ k → (List.range m).filter p = (List.range st).filter p ++ [b] := by
    intro m hm hk
    induction m with
    | zero => omega
    | succ m ih =>
      by_cases hs : b = m
      · rw [← hs]; exact hb
      · rw [List.range_succ, List.filter_append, ih (by omega) (by omega)]
        have : p m = false := by
          cases hp : p m with
          | false => rfl
          | true => have := (h m (by omega) (by omega)).1 hp; omega
        simp [this]
  exact high k h2 (Nat.le_refl _)

theorem close_run {k st b : Nat} (hs0 : st = 0 ∨ isN R T (st - 1) = false) (hall : ∀ j, st ≤ j → j < k → isN R T j = true) (hend : isN R T k = false) (h1 : st ≤ b) (h2 : b < k)
    (hl : ∀ j, st ≤ j → j < b → R.getD j 0 < R.getD b 0) (hr : ∀ j, b < j → j < k → R.getD j 0 ≤ R.getD b 0) :
    (List.range k).filter (bestB R T) = (List.range st).filter (bestB R T) ++ [b] := by
  refine filter_single _ st b k h1 h2 fun j hj hjk => ?_
  rw [bestB_iff]
  constructor
  · rintro ⟨h3, h4, h5⟩
    rcases Nat.lt_trichotomy j b with h | h | h
    · have := h5 b h (fun i hi hib => hall i (by omega) (by omega))
      have := hl j hj h
      omega
    · exact h
    · have := h4 b h (fun i hi hij => hall i (by omega) (by omega))
      have := hr j h hjk
      omega
  · rintro rfl
    refine ⟨hall j hj hjk, fun i hi hin => ?_, fun i hi hin => ?_⟩
    · refine hl i ?_ hi
      rcases hs0 with h0 | h0
      · omega
      · rcases Nat.lt_or_ge i st with h | h
        · have := hin (st - 1) (by omega) (by omega); rw [h0] at this; cases this
        · exact h
    · refine hr i hi ?_
      rcases Nat.lt_or_ge i k with h | h
      · exact h
      · have := hin k (by omega) h; rw [hend] at this; cases this

theorem PInv_flush {k : Nat} {s : Option Nat × List Nat} (h : PInv R T k s) (hend : isN R T k = false) : flushO s = (List.range k).filter (bestB R T) := by
  obtain ⟨st, hk, hs0, hall, ho, hb⟩ := h
  rcases hb with ⟨h1, h2⟩ | ⟨b, h1, h2, h3, h4, h5⟩
  · simp [flushO, h1, ho, h2]
  · rw [close_run R T hs0 hall hend h2 h3 h4 h5]
    simp [flushO, h1, ho]

theorem pst_inv : ∀ k, k ≤ R.length → PInv R T k (pst R T k) := by
  intro k
  induction k with
  | zero => intro _; exact ⟨0, Nat.le_refl _, .inl rfl, fun j h1 h2 => by omega, rfl, .inl ⟨rfl, rfl⟩⟩
  | succ k ih =>
    intro hk
    have hi := ih (by omega)
    unfold pst
    by_cases ht : R.getD k 0 < T
    · rw [if_pos ht]
      have hn : isN R T k = false := by simp only [isN, Bool.and_eq_false_iff, decide_eq_false_iff_not]; right; omega
      refine ⟨k + 1, Nat.le_refl _, .inr hn, fun j h1 h2 => by omega, ?_, .inl ⟨rfl, rfl⟩⟩
      rw [PInv_flush R T hi hn, List.range_succ, List.filter_append]
      have : bestB R T k = false := by simp [bestB, hn]
      simp [this]
    · rw [if_neg ht]
      have hn : isN R T k = true := isN_mk R T (by omega) (by omega)
      obtain ⟨st, h1, hs0, hall, ho, hb⟩ := hi
      have hall' : ∀ j, st ≤ j → j < k + 1 → isN R T j = true := fun j h3 h4 => by
        by_cases hjk : j = k
        · rw [hjk]; exact hn
        · exact hall j h3 (by omega)
      rcases hb with ⟨hb1, hb2⟩ | ⟨b, hb1, hb2, hb3, hb4, hb5⟩
      · rw [hb1]
        exact ⟨st, by omega, hs0, hall', ho, .inr ⟨k, rfl, by omega, by omega, fun j h3 h4 => by omega, fun j h3 h4 => by omega⟩⟩
      · rw [hb1]
        simp only
        by_cases hc : R.getD b 0 < R.getD k 0
        · rw [if_pos hc]
          refine ⟨st, by omega, hs0, hall', ho, .inr ⟨k, rfl, by omega, by omega, fun j h3 h4 => ?_, fun j h3 h4 => by omega⟩⟩
          rcases Nat.lt_trichotomy j b with h | h | h
          · have := hb4 j h3 h; omega
          · rw [h]; exact hc
          · have := hb5 j h h4; omega
        · rw [if_neg hc]
          refine ⟨st, by omega, hs0, hall', ho, .inr ⟨b, hb1, hb2, by omega, hb4, fun j h3 h4 => ?_⟩⟩
          by_cases hjk : j = k
          · rw [hjk]; omega
          · exact hb5 j h3 (by omega)

/-- **the machine finds the best of each run** -/
theorem flush_pst : flushO (pst R T R.length) = bestL R T :=
  PInv_flush R T (pst_inv R T R.length (Nat.le_refl _)) (by simp [isN])

theorem pst_lt : ∀ k b, (pst R T k).1 = some b → b < k := by
  intro k
  induction k with
  | zero => intro b h; simp [pst] at h
  | succ k ih =>
    intro b h
    unfold pst at h
    split at h
    · simp at h
    · split at h
      · simp at h; omega
      · rename_i b' hb'
        split at h
        · simp at h; omega
        · have := ih b h; omega
theorem pst_len : ∀ k, (flushO (pst R T k)).length ≤ k := by
  have key : ∀ k, (pst R T k).2.length + (if (pst R T k).1.isSome then 1 else 0) ≤ k := by
    intro k
    induction k with
    | zero => simp [pst]
    | succ k ih =>
      unfold pst
      split
      · unfold flushO; cases h : (pst R T k).1 <;> simp [h] at ih ⊢ <;> omega
      · cases h : (pst R T k).1 with
        | none => simp [h] at ih ⊢; omega
        | some b => simp only; split <;> simp [h] at ih ⊢ <;> omega
  intro k
  have := key k
  unfold flushO; cases h : (pst R T k).1 <;> simp [h] at this ⊢ <;> omega
end
end Go.Proofs.Ytjflmenfinohcaa.Hd

/- Plain law: the best matching of two lists, by scores alone and by whole matchings. -/
namespace Go.Proofs.Ytjflmenfinohcaa.Hd.Mat
set_option linter.unusedVariables false
set_option linter.unusedSimpArgs false
/-- a matching: its pairs, the sum of differences -/
abbrev Pr := List (Nat × Nat) × Int

def lexlt : List (Nat × Nat) → List (Nat × Nat) → Bool
  | _, [] => false
  | [], _ :: _ => true
  | x :: r, y :: t => if x.1 = y.1 then if x.2 = y.2 then lexlt r t else decide (x.2 < y.2) else decide (x.1 < y.1)

def bet (x y : Pr) : Bool := if x.1.length = y.1.length then if x.2 = y.2 then lexlt x.1 y.1 else decide (x.2 < y.2) else decide (y.1.length < x.1.length)

theorem lexlt_trans : ∀ x y z, lexlt y x = false → lexlt z y = false → lexlt z x = false
  | [], _, z, _, _ => by cases z <;> simp [lexlt]
  | x :: r, [], z, h, _ => by simp [lexlt] at h
  | x :: r, y :: t, [], h1, h2 => by simp [lexlt] at h2
  | x :: r, y :: t, z :: u, h1, h2 => by
    have ih := lexlt_trans r t u
    simp only [lexlt] at *
    repeat' split at h1
    all_goals repeat' split at h2
    all_goals repeat' split
    all_goals try simp only [decide_eq_false_iff_not] at *
    all_goals first | omega | exact ih h1 h2
theorem lexlt_irrefl : ∀ x, lexlt x x = false
  | [] => rfl
  | x :: r => by simp [lexlt, lexlt_irrefl r]

theorem bet_trans (x y z : Pr) (h1 : bet y x = false) (h2 : bet z y = false) : bet z x = false := by
  have ih := lexlt_trans x.1 y.1 z.1
  simp only [bet] at *
  repeat' split at h1
  all_goals repeat' split at h2
  all_goals repeat' split
  all_goals try simp only [decide_eq_false_iff_not] at *
  all_goals first | omega | exact ih h1 h2
theorem lexlt_asymm : ∀ x y, lexlt x y = true → lexlt y x = false
  | _, [], h => by simp [lexlt] at h
  | [], y :: t, _ => by simp [lexlt]
  | x :: r, y :: t, h => by
    have ih := lexlt_asymm r t
    simp only [lexlt] at *
    repeat' split at h
    all_goals repeat' split
    all_goals try simp only [decide_eq_false_iff_not, decide_eq_true_eq] at *
    all_goals first | omega | exact ih h
theorem bet_asymm (x y : Pr) (h : bet x y = true) : bet y x = false := by
  have ih := lexlt_asymm x.1 y.1
  simp only [bet] at *
  repeat' split at h
  all_goals repeat' split
  all_goals try simp only [decide_eq_false_iff_not, decide_eq_true_eq] at *
  all_goals first | omega | exact ih h
theorem bet_irrefl (x : Pr) : bet x x = false := by simp [bet, lexlt_irrefl]

/-- the better one, the first where both are as good -/
def pick (y x : Pr) : Pr := if bet y x then y else x
theorem pick_ge1 (y x : Pr) : bet y (pick y x) = false := by
  unfold pick; split
  · exact bet_irrefl _
  · simp_all
theorem pick_ge2 (y x : Pr) : bet x (pick y x) = false := by
  unfold pick; split
  · rename_i h; exact bet_asymm _ _ h
  · exact bet_irrefl _

section
variable (near : Nat → Nat → Bool) (f : Nat → Nat → Int) (n m : Nat)

def best (i k : Nat) : Pr :=
  let x0 : Pr := if i < n then best (i + 1) k else ([], 0)
  let x1 : Pr := if k < m then pick (best i (k + 1)) x0 else x0
  if i < n ∧ k < m ∧ near i k = true then pick ((i, k) :: (best (i + 1) (k + 1)).1, (best (i + 1) (k + 1)).2 + f i k) x1 else x1
termination_by (n - i) + (m - k)
decreasing_by all_goals omega

def cand (i k : Nat) : Pr := ((i, k) :: (best near f n m (i + 1) (k + 1)).1, (best near f n m (i + 1) (k + 1)).2 + f i k)

theorem best_end1 (k : Nat) : best near f n m n k = ([], 0) := by
  rw [best]
  simp only [Nat.lt_irrefl, false_and, if_false]
  split
  · have := best_end1 (k + 1)
    rw [this]; rfl
  · rfl
termination_by m - k
theorem best_end2 (i : Nat) : best near f n m i m = ([], 0) := by
  rw [best]
  simp only [Nat.lt_irrefl, false_and, and_false, if_false]
  split
  · exact best_end2 (i + 1)
  · rfl
termination_by n - i

theorem best_in (i k : Nat) (hi : i < n) (hk : k < m) : best near f n m i k =
    if near i k = true then pick (cand near f n m i k) (pick (best near f n m i (k + 1)) (best near f n m (i + 1) k)) else pick (best near f n m i (k + 1)) (best near f n m (i + 1) k) := by
  rw [best]; simp only [hi, hk, if_true, true_and, cand]

/-- what is best is nothing or starts with a pair; nothing that starts with a pair is better -/
theorem best_opt : ∀ (s i k : Nat), s = (n - i) + (m - k) → i ≤ n → k ≤ m →
    (best near f n m i k = ([], 0) ∨ ∃ a b, i ≤ a ∧ a < n ∧ k ≤ b ∧ b < m ∧ near a b = true ∧ best near f n m i k = cand near f n m a b) ∧
    (∀ a b, i ≤ a → a < n → k ≤ b → b < m → near a b = true → bet (cand near f n m a b) (best near f n m i k) = false) := by
  intro s
  induction s using Nat.strongRecOn with
  | ind s ih =>
    intro i k hs hi hk
    rcases Nat.lt_or_ge i n with h1 | h1
    · rcases Nat.lt_or_ge k m with h2 | h2
      · have hb := best_in near f n m i k h1 h2
        obtain ⟨p1, q1⟩ := ih _ (by omega) (i + 1) k rfl (by omega) hk
        obtain ⟨p2, q2⟩ := ih _ (by omega) i (k + 1) rfl hi (by omega)
        generalize hx : best near f n m i k = x at *
        generalize hy : best near f n m (i + 1) k = y at *
        generalize hz : best near f n m i (k + 1) = z at *
        have hzy : (pick z y = ([], 0) ∨ ∃ a b, i ≤ a ∧ a < n ∧ k ≤ b ∧ b < m ∧ near a b = true ∧ pick z y = cand near f n m a b) := by
          unfold pick
          split
          · rcases p2 with h | ⟨a, b, r1, r2, r3, r4, r5, r6⟩
            · exact .inl h
            · exact .inr ⟨a, b, r1, r2, by omega, r4, r5, r6⟩
          · rcases p1 with h | ⟨a, b, r1, r2, r3, r4, r5, r6⟩
            · exact .inl h
            · exact .inr ⟨a, b, by omega, r2, r3, r4, r5, r6⟩
        constructor
        · rw [hb]
          split
          · rename_i hn
            generalize pick z y = v at hzy
            unfold pick
            split
            · exact .inr ⟨i, k, Nat.le_refl _, h1, Nat.le_refl _, h2, hn, rfl⟩
            · exact hzy
          · exact hzy
        · intro a b r1 r2 r3 r4 r5
          have g1 : bet (pick z y) x = false := by
            rw [hb]; split
            · exact pick_ge2 _ _
            · exact bet_irrefl _
          by_cases e1 : a = i
          · by_cases e2 : b = k
            · subst e1 e2
              rw [hb, if_pos r5]
              exact pick_ge1 _ _
            · exact bet_trans _ _ _ (bet_trans _ _ _ g1 (pick_ge1 z y)) (q2 a b r1 r2 (by omega) r4 r5)
          · exact bet_trans _ _ _ (bet_trans _ _ _ g1 (pick_ge2 z y)) (q1 a b (by omega) r2 r3 r4 r5)
      · obtain rfl : k = m := by omega
        rw [best_end2]
        exact ⟨.inl rfl, fun a b _ _ h3 h4 => by omega⟩
    · obtain rfl : i = n := by omega
      rw [best_end1]
      exact ⟨.inl rfl, fun a b h3 h4 => by omega⟩

/-- how good: the number of pairs, the sum -/
def sco (x : Pr) : Nat × Int := (x.1.length, x.2)
def bsc (s t : Nat × Int) : Bool := decide (t.1 < s.1) || decide (s.1 = t.1) && decide (s.2 < t.2)
theorem sco_pick (y x : Pr) : sco (pick y x) = if bsc (sco y) (sco x) then sco y else sco x := by
  have e : bsc (sco y) (sco x) = (decide (x.1.length < y.1.length) || decide (y.1.length = x.1.length) && decide (y.2 < x.2)) := rfl
  have e2 : ∀ z : Pr, sco z = (z.1.length, z.2) := fun _ => rfl
  rw [e, e2, e2, e2]
  unfold pick
  by_cases h1 : y.1.length = x.1.length
  · by_cases h2 : y.2 = x.2
    · split <;> split <;> simp [h1, h2]
    · have hb : bet y x = decide (y.2 < x.2) := by unfold bet; rw [if_pos h1, if_neg h2]
      rw [hb]
      by_cases h3 : y.2 < x.2
      · simp [h1, h3]
      · simp [h1, h3]
  · have hb : bet y x = decide (x.1.length < y.1.length) := by unfold bet; rw [if_neg h1]
    rw [hb]
    by_cases h3 : x.1.length < y.1.length
    · simp [h3]
    · simp [h1, h3]

/-- the first pair from (i, k) on, row by row, that makes what is best -/
def hits (i k a b : Nat) : Bool := near a b && decide (sco (cand near f n m a b) = sco (best near f n m i k))

theorem sco_cand (a b : Nat) : sco (cand near f n m a b) = ((sco (best near f n m (a + 1) (b + 1))).1 + 1, (sco (best near f n m (a + 1) (b + 1))).2 + f a b) := rfl

theorem best_hit (i k : Nat) (hi : i ≤ n) (hk : k ≤ m) (a b : Nat) (h1 : i ≤ a) (h2 : a < n) (h3 : k ≤ b) (h4 : b < m) (hh : hits near f n m i k a b = true)
    (hp : ∀ c d, i ≤ c → c < n → k ≤ d → d < m → c < a ∨ c = a ∧ d < b → hits near f n m i k c d = false) : best near f n m i k = cand near f n m a b := by
  obtain ⟨p, q⟩ := best_opt near f n m _ i k rfl hi hk
  simp only [hits, Bool.and_eq_true, decide_eq_true_eq] at hh
  obtain ⟨hn, hs⟩ := hh
  rcases p with h | ⟨c, d, r1, r2, r3, r4, r5, r6⟩
  · rw [h] at hs; simp [sco, cand] at hs
  · by_cases e : c = a ∧ d = b
    · obtain ⟨rfl, rfl⟩ := e; exact r6
    · by_cases hl : c < a ∨ c = a ∧ d < b
      · have := hp c d r1 r2 r3 r4 hl
        simp [hits, r5, r6] at this
      · have hq := q a b h1 h2 h3 h4 hn
        rw [r6] at hs hq
        have hl1 : (cand near f n m a b).1.length = (cand near f n m c d).1.length := congrArg Prod.fst hs
        have hl2 : (cand near f n m a b).2 = (cand near f n m c d).2 := by have := congrArg Prod.snd hs; exact this
        unfold bet at hq
        rw [if_pos hl1, if_pos hl2] at hq
        simp only [cand, lexlt] at hq
        repeat' split at hq
        all_goals try simp only [decide_eq_false_iff_not] at hq
        all_goals omega

theorem best_miss (i k : Nat) (hi : i ≤ n) (hk : k ≤ m) (hp : ∀ c d, i ≤ c → c < n → k ≤ d → d < m → hits near f n m i k c d = false) : best near f n m i k = ([], 0) := by
  obtain ⟨p, q⟩ := best_opt near f n m _ i k rfl hi hk
  rcases p with h | ⟨c, d, r1, r2, r3, r4, r5, r6⟩
  · exact h
  · have := hp c d r1 r2 r3 r4
    simp [hits, r5, r6] at this
end
end Go.Proofs.Ytjflmenfinohcaa.Hd.Mat
