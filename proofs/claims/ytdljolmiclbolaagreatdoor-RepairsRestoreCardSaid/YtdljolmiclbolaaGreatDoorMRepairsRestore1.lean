/- Parts of the proof, in order. -/
import Derived.Lib.AtoiAllCases
import Derived.Lib.AtoiTie
import Derived.Lib.ItoaMem
import Derived.Lib.SplitLaws
import Derived.WalkKit

/- Plain texts: cutting at a byte, lines, numbers; the program's way and the document's way are one. -/
namespace Go.Proofs.YtdljolmiclbolaaGreatDoor
set_option linter.unusedVariables false
set_option linter.unusedSimpArgs false

/-! pieces between bytes c -/
/-! cut at the first byte c -/
/-! lines: a reader with a state goes from line to line -/
/-! numbers -/
def digs (t : List UInt8) : Bool := t.all fun b => decide (48 ≤ b.toNat ∧ b.toNat ≤ 57)
def decA (acc : Nat) (t : List UInt8) : Nat := t.foldl (fun a b => a * 10 + (b.toNat - 48)) acc
theorem decA_nil (acc : Nat) : decA acc [] = acc := by unfold decA; rw [List.foldl_nil]
theorem decA_cons (acc : Nat) (b : UInt8) (r : List UInt8) : decA acc (b :: r) = decA (acc * 10 + (b.toNat - 48)) r := by unfold decA; rw [List.foldl_cons]
def numV (s : List UInt8) : Int := if s.head? = some 45 then -(decA 0 (s.drop 1) : Int) else (decA 0 s : Int)
theorem decFrom_A : ∀ (t : List UInt8) (acc : Nat), digs t = true → Lib.decFrom acc t = some (decA acc t)
  | [], acc, _ => by rw [decA_nil, Lib.decFrom]
  | b :: r, acc, h => by
    rw [decA_cons]
    simp only [digs, List.all_cons, Bool.and_eq_true, decide_eq_true_eq] at h
    simp only [Lib.decFrom, Lib.digitVal, if_pos h.1]
    exact decFrom_A r (acc * 10 + (b.toNat - 48)) h.2
theorem decA_snoc (b : UInt8) : ∀ (t : List UInt8) (acc : Nat), decA acc (t ++ [b]) = decA acc t * 10 + (b.toNat - 48)
  | [], acc => by rw [List.nil_append, decA_cons, decA_nil, decA_nil]
  | a :: r, acc => by rw [List.cons_append, decA_cons, decA_snoc b r, decA_cons]
/-- what is behind the sign -/
def unsg (s : List UInt8) : List UInt8 := Lib.trimPrefix s [45]
theorem unsg_cons (b : UInt8) (r : List UInt8) : unsg (b :: r) = if b = 45 then r else b :: r := by
  unfold unsg Lib.trimPrefix Lib.hasPrefix
  by_cases h : b = 45
  · subst h; simp [List.isPrefixOf]
  · rw [if_neg h, if_neg (by simp [List.isPrefixOf, Ne.symm h])]
def numOk (d : Nat) (s : List UInt8) : Bool := decide (unsg s ≠ [] ∧ (unsg s).length ≤ d) && digs (unsg s)
theorem atoi_num (d : Nat) (s : List UInt8) (h : numOk d s = true) (hd : d ≤ 17) : Lib.atoiAll s = .ok (numV s) := by
  simp only [numOk, Bool.and_eq_true, decide_eq_true_eq] at h
  obtain ⟨⟨h0, hl⟩, hg⟩ := h
  cases s with
  | nil => exact absurd rfl h0
  | cons b r =>
    have hu := unsg_cons b r
    unfold numV
    by_cases e : b = 45
    · rw [if_pos e] at hu
      rw [hu] at h0 hl hg
      subst e
      rw [Lib.atoiAll_short _ (by simp only [List.length_cons]; omega)]
      have : Lib.decNat r = some (decA 0 r) := by
        unfold Lib.decNat
        rw [if_neg (by simpa using h0), decFrom_A r 0 hg]
      rw [Lib.atoi, if_pos (by rfl), this]
      simp [Lib.NumEnd.ofOption]
    · rw [if_neg e] at hu
      rw [hu] at h0 hl hg
      rw [Lib.atoiAll_short _ (by omega)]
      have : Lib.decNat (b :: r) = some (decA 0 (b :: r)) := by
        unfold Lib.decNat
        rw [if_neg (by simp), decFrom_A _ 0 hg]
      have h43 : b ≠ 43 := fun e3 => by
        subst e3
        simp [digs] at hg
      rw [Lib.atoi, if_neg (by simpa using e), if_neg (by simpa using h43), this]
      simp [Lib.NumEnd.ofOption, e]
end Go.Proofs.YtdljolmiclbolaaGreatDoor

/- Atoi of a numeral that Itoa wrote, in plain Lean. -/
namespace Go.Proofs.YtdljolmiclbolaaGreatDoor
set_option linter.unusedVariables false
set_option linter.unusedSimpArgs false

theorem dg_byte {n : Nat} (h : n < 10) : (UInt8.ofNat (48 + n)).toNat = 48 + n := by
  rw [UInt8.toNat_ofNat']; omega
theorem digs_snoc (t : List UInt8) (b : UInt8) : digs (t ++ [b]) = (digs t && decide (48 ≤ b.toNat ∧ b.toNat ≤ 57)) := by
  unfold digs; rw [List.all_append]; simp
theorem dec_all : ∀ u, digs (Lib.decDigits u) = true ∧ decA 0 (Lib.decDigits u) = u ∧ Lib.decDigits u ≠ [] := by
  intro u
  induction u using Nat.strongRecOn with
  | _ u ih =>
    rw [Lib.decDigits]
    by_cases h : u < 10
    · rw [dif_pos h]
      have hb := dg_byte h
      refine ⟨?_, ?_, by simp⟩
      · have := digs_snoc [] (UInt8.ofNat (48 + u))
        rw [List.nil_append] at this
        rw [this, hb]
        simp [digs]; omega
      · have := decA_snoc (UInt8.ofNat (48 + u)) [] 0
        rw [List.nil_append] at this
        rw [this, hb, decA_nil]; omega
    · rw [dif_neg h]
      have hb := dg_byte (n := u % 10) (by omega)
      obtain ⟨h1, h2, _⟩ := ih (u / 10) (by omega)
      refine ⟨?_, ?_, by simp⟩
      · rw [digs_snoc, h1, hb]
        simp; omega
      · rw [decA_snoc, h2, hb]; omega
theorem dec_len : ∀ (k u : Nat), u < 10 ^ (k + 1) → (Lib.decDigits u).length ≤ k + 1
  | 0, u, h => by
    rw [Lib.decDigits, dif_pos (by simpa using h)]; simp
  | k + 1, u, h => by
    rw [Lib.decDigits]
    split
    · simp
    · have := dec_len k (u / 10) (by rw [Nat.pow_succ] at h; omega)
      rw [List.length_append]; simp only [List.length_cons, List.length_nil]; omega
theorem itoa_len (u : Nat) (h : u < 10000000000000000) : (Lib.itoa (u : Int)).length ≤ 16 := by
  rw [Lib.itoa_nonneg]
  exact dec_len 15 u (by omega)
theorem atoi_itoa (u : Nat) (h : u < 10000000000000000) : Lib.atoi (Lib.itoa (u : Int)) = some (u : Int) := by
  have hl := itoa_len u h
  obtain ⟨h1, h2, h3⟩ := dec_all u
  rw [Lib.itoa_nonneg] at hl ⊢
  generalize Lib.decDigits u = s at *
  cases s with
  | nil => exact absurd rfl h3
  | cons b r =>
    have hb : b ≠ 45 := fun e => by
      subst e; simp [digs] at h1
    have hu : unsg (b :: r) = b :: r := by rw [unsg_cons, if_neg hb]
    have hok : numOk 16 (b :: r) = true := by
      unfold numOk
      rw [hu, h1, Bool.and_true, decide_eq_true_eq]
      exact ⟨by simp, hl⟩
    have h0 := atoi_num 16 (b :: r) hok (by omega)
    have hv : numV (b :: r) = u := by
      unfold numV
      rw [if_neg (by simpa using hb), h2]
    rw [Lib.atoiAll_short _ (by omega), hv] at h0
    cases ha : Lib.atoi (b :: r) with
    | none => rw [ha] at h0; cases h0
    | some n => rw [ha] at h0; injection h0 with h1; rw [h1]
end Go.Proofs.YtdljolmiclbolaaGreatDoor
