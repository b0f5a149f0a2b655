/- Parts of the proof, in order. -/
import Derived.Test.YtilfcojhdhgmfaaGreatDoorMStoresAddUp1
import Derived.Lib.AtoiAllCases
import Derived.Lib.AtoiTie
import Derived.Lib.ItoaMem
import Derived.Lib.SplitLaws
import Derived.WalkKit

namespace Go.Proofs.YtilfcojhdhgmfaaGreatDoor
set_option linter.unusedVariables false
set_option linter.unusedSimpArgs false

def spl (c : UInt8) : List UInt8 → List (List UInt8)
  | [] => [[]]
  | b :: r => if b = c then [] :: spl c r else match spl c r with
    | h :: t => (b :: h) :: t
    | [] => [[b]]
theorem spl_ne (c : UInt8) : ∀ s, spl c s ≠ []
  | [] => by simp [spl]
  | b :: r => by
    rw [spl]
    by_cases h : b = c
    · rw [if_pos h]; simp
    · rw [if_neg h]; cases spl c r <;> simp
theorem spl_ex (c : UInt8) (s : List UInt8) : ∃ h t, spl c s = h :: t := by
  cases e : spl c s with
  | nil => exact absurd e (spl_ne c s)
  | cons h t => exact ⟨h, t, rfl⟩
theorem index_cons1 (b c : UInt8) (l : List UInt8) : Lib.index (b :: l) [c] = if b = c then 0 else if Lib.index l [c] = -1 then -1 else Lib.index l [c] + 1 := by
  rw [Lib.index]
  by_cases h : b = c
  · subst h; simp [List.isPrefixOf]
  · rw [if_neg (show ¬ (List.isPrefixOf [c] (b :: l) = true) by simp [List.isPrefixOf, Ne.symm h]), if_neg h]
    by_cases h2 : Lib.index l [c] = -1
    · rw [if_pos h2, if_pos (beq_iff_eq.2 h2)]
    · rw [if_neg h2, if_neg (fun e => h2 (beq_iff_eq.1 e))]
theorem splitK_cons (b c : UInt8) (l : List UInt8) (hb : b ≠ c) : ∀ k, Lib.splitK [c] 0 k (b :: l) = match Lib.splitK [c] 0 k l with | h :: t => (b :: h) :: t | [] => [[b]]
  | 0 => rfl
  | k + 1 => by
    have hi := index_cons1 b c l
    rw [if_neg hb] at hi
    have hge := Lib.index_ge l [c]
    unfold Lib.splitK
    by_cases h2 : Lib.index l [c] = -1
    · rw [if_pos h2] at hi
      rw [if_pos (beq_iff_eq.2 hi), if_pos (beq_iff_eq.2 h2)]
    · rw [if_neg h2] at hi
      rw [if_neg (fun e => by have := beq_iff_eq.1 e; omega), if_neg (fun e => h2 (beq_iff_eq.1 e)), hi]
      obtain ⟨n, hn⟩ : ∃ n : Nat, Lib.index l [c] = n := ⟨(Lib.index l [c]).toNat, by omega⟩
      rw [hn]
      rw [show ((n : Int) + 1).toNat = n + 1 by omega, show (n : Int).toNat = n by omega]
      simp [show n + 1 + 1 = (n + 1) + 1 from rfl]
theorem split_spl (c : UInt8) : ∀ s, Lib.splitK [c] 0 (Lib.count s [c]) s = spl c s
  | [] => by rw [Lib.count_one]; rfl
  | b :: l => by
    rw [spl]
    by_cases h : b = c
    · subst h
      rw [if_pos rfl, Lib.count_cons_eq, Nat.add_comm, Lib.splitK]
      have hi := index_cons1 b b l
      rw [if_pos rfl] at hi
      rw [if_neg (fun e => by have := beq_iff_eq.1 e; omega), hi]
      simp only [Int.toNat_zero, Nat.zero_add, List.take_zero, List.length_singleton, List.drop_succ_cons, List.drop_zero]
      rw [split_spl b l]
    · rw [if_neg h, Lib.count_cons_ne b c l h, splitK_cons b c l h, split_spl c l]
theorem splitB_spl (c : UInt8) (s : ByteArray) : Lib.splitB ⟨#[c]⟩ 0 (Lib.countB s ⟨#[c]⟩) s = (spl c s.data.toList).map fun x => ⟨x.toArray⟩ := by
  have h := Lib.splitB_data ⟨#[c]⟩ 0 (Lib.countB s ⟨#[c]⟩) s
  have e : Lib.splitK [c] 0 (Lib.countB s ⟨#[c]⟩) s.data.toList = spl c s.data.toList := split_spl c _
  rw [show (ByteArray.mk #[c]).data.toList = [c] from rfl, e] at h
  rw [← h, List.map_map]
  conv => lhs; rw [← List.map_id (Lib.splitB ⟨#[c]⟩ 0 (Lib.countB s ⟨#[c]⟩) s)]
  exact List.map_congr_left fun x _ => by cases x; simp
theorem count_spl (c : UInt8) (s : ByteArray) : Lib.countB s ⟨#[c]⟩ + 1 = (spl c s.data.toList).length := by
  have h := Lib.splitB_all ⟨#[c]⟩ (Nat.le_refl 1) 0 _ s rfl
  rw [splitB_spl, List.length_map] at h
  omega

theorem spl_snoc (c : UInt8) : ∀ t, spl c (t ++ [c]) = spl c t ++ [[]]
  | [] => by simp [spl]
  | b :: r => by
    rw [List.cons_append, spl, spl, spl_snoc c r]
    by_cases e : b = c
    · simp only [if_pos e, List.cons_append]
    · simp only [if_neg e]
      obtain ⟨h, t, ht⟩ := spl_ex c r
      rw [ht]; rfl
theorem suf_one (c : UInt8) (s : List UInt8) : Lib.hasSuffix s [c] = true → s = Lib.trimSuffix s [c] ++ [c] := by
  intro h
  have h0 := h
  unfold Lib.hasSuffix at h0
  obtain ⟨t, ht⟩ := List.isSuffixOf_iff_suffix.1 h0
  unfold Lib.trimSuffix
  rw [if_pos h, ← ht]
  simp
theorem spl_suf (c : UInt8) (s : List UInt8) (h : Lib.hasSuffix s [c] = true) : spl c s = spl c (Lib.trimSuffix s [c]) ++ [[]] := by
  conv => lhs; rw [suf_one c s h]
  exact spl_snoc c _
theorem spl_last (c : UInt8) : ∀ s, s ≠ [] → Lib.hasSuffix s [c] = false → ∀ x, (spl c s).getLast? = some x → x ≠ []
  | [], h, _, _, _ => absurd rfl h
  | b :: r, _, h, x, hx => by
    have hs : ∀ t : List UInt8, Lib.hasSuffix t [c] = true ↔ ∃ p, t = p ++ [c] := fun t => by
      unfold Lib.hasSuffix
      rw [List.isSuffixOf_iff_suffix]
      exact ⟨fun ⟨p, hp⟩ => ⟨p, hp.symm⟩, fun ⟨p, hp⟩ => ⟨p, hp.symm⟩⟩
    have hn : ¬ ∃ p, b :: r = p ++ [c] := fun e => by rw [(hs _).2 e] at h; cases h
    rw [spl] at hx
    by_cases e : r = []
    · subst e
      by_cases e2 : b = c
      · exact absurd ⟨[], by simp [e2]⟩ hn
      · rw [if_neg e2] at hx
        simp [spl] at hx
        subst hx; simp
    · have ih := spl_last c r e (by
        cases h3 : Lib.hasSuffix r [c] with
        | false => rfl
        | true => obtain ⟨p, hp⟩ := (hs _).1 h3; exact absurd ⟨b :: p, by rw [hp]; rfl⟩ hn)
      obtain ⟨h1, t1, ht⟩ := spl_ex c r
      by_cases e2 : b = c
      · rw [if_pos e2, List.getLast?_cons] at hx
        rw [ht] at hx ih
        simp only [Option.some.injEq, List.getLast?_cons_cons] at hx
        refine ih x ?_
        rw [← hx]
        cases hl : (h1 :: t1).getLast? with
        | none => simp at hl
        | some y => rfl
      · rw [if_neg e2, ht] at hx
        rw [ht] at ih
        simp only at hx
        cases t1 with
        | nil => simp at hx; subst hx; simp
        | cons y r1 => exact ih x (by rw [List.getLast?_cons_cons] at hx ⊢; exact hx)

def goL {σ : Type} (f : σ → List UInt8 → σ × Bool) : σ → Nat → List (List UInt8) → σ × Nat × Bool
  | s, _, [] => (s, 0, true)
  | s, i, x :: r => if r = [] then (if x = [] then (s, 0, true) else (s, i, false)) else if (f s x).2 then goL f (f s x).1 (i + 1) r else ((f s x).1, i, false)
def eachL {σ : Type} (f : σ → List UInt8 → σ × Bool) (ends : Bool) : σ → Nat → List (List UInt8) → σ × Nat × Bool
  | s, _, [] => (s, 0, true)
  | s, i, x :: r => if ends = false ∧ r = [] then (s, i, false) else if (f s x).2 then eachL f ends (f s x).1 (i + 1) r else ((f s x).1, i, false)
theorem each_t {σ : Type} (f : σ → List UInt8 → σ × Bool) : ∀ (L : List (List UInt8)) (s : σ) (i : Nat), eachL f true s i L = goL f s i (L ++ [[]])
  | [], s, i => by simp [eachL, goL]
  | x :: r, s, i => by
    rw [eachL, if_neg (show ¬ (true = false ∧ r = []) by simp), List.cons_append, goL, if_neg (show ¬ (r ++ [[]] = []) by simp), each_t f r]
theorem each_f {σ : Type} (f : σ → List UInt8 → σ × Bool) : ∀ (L : List (List UInt8)) (s : σ) (i : Nat), L ≠ [] → (∀ x, L.getLast? = some x → x ≠ []) → eachL f false s i L = goL f s i L
  | [], s, i, h, _ => absurd rfl h
  | x :: r, s, i, _, hl => by
    rw [eachL, goL]
    by_cases h : r = []
    · rw [if_pos ⟨rfl, h⟩, if_pos h, if_neg (hl x (by simp [h]))]
    · rw [if_neg (fun e => h e.2), if_neg h, each_f f r _ _ h (fun y hy => hl y (by
        cases r with
        | nil => exact absurd rfl h
        | cons a b => rw [List.getLast?_cons_cons]; exact hy))]
theorem each_go {σ : Type} (f : σ → List UInt8 → σ × Bool) (s : σ) (t : List UInt8) (h : t ≠ []) : eachL f (Lib.hasSuffix t [10]) s 0 (spl 10 (Lib.trimSuffix t [10])) = goL f s 0 (spl 10 t) := by
  cases e : Lib.hasSuffix t [10] with
  | true => rw [each_t, ← spl_suf 10 t e]
  | false =>
    have ht : Lib.trimSuffix t [10] = t := by unfold Lib.trimSuffix; rw [e]; rfl
    rw [ht]
    exact each_f f _ s 0 (spl_ne 10 t) (spl_last 10 t h e)

def digs (t : List UInt8) : Bool := t.all fun b => decide (48 ≤ b.toNat ∧ b.toNat ≤ 57)
def decA (acc : Nat) (t : List UInt8) : Nat := t.foldl (fun a b => a * 10 + (b.toNat - 48)) acc
theorem decA_nil (acc : Nat) : decA acc [] = acc := by unfold decA; rw [List.foldl_nil]
theorem decA_cons (acc : Nat) (b : UInt8) (r : List UInt8) : decA acc (b :: r) = decA (acc * 10 + (b.toNat - 48)) r := by unfold decA; rw [List.foldl_cons]
def numV (s : List UInt8) : Int := if s.head? = some 45 then -(decA 0 (s.drop 1) : Int) else (decA 0 s : Int)
theorem decFrom_A : ∀ (t : List UInt8) (acc : Nat), digs t = true → Lib.decFrom acc t = some (decA acc t)
  | [], acc, _ => by rw [decA_nil, Lib.decFrom]
  | b :: r, acc, h => by
    rw [decA_cons]
    simp only [digs, List.all_cons, Bool.and_eq_true, decide_eq_true_eq] at h
    simp only [Lib.decFrom, Lib.digitVal, if_pos h.1]
    exact decFrom_A r (acc * 10 + (b.toNat - 48)) h.2
theorem decA_snoc (b : UInt8) : ∀ (t : List UInt8) (acc : Nat), decA acc (t ++ [b]) = decA acc t * 10 + (b.toNat - 48)
  | [], acc => by rw [List.nil_append, decA_cons, decA_nil, decA_nil]
  | a :: r, acc => by rw [List.cons_append, decA_cons, decA_snoc b r, decA_cons]
theorem decA_ge : ∀ (t : List UInt8) (acc : Nat), acc ≤ decA acc t
  | [], acc => by rw [decA_nil]; exact Nat.le_refl _
  | b :: r, acc => by rw [decA_cons]; exact Nat.le_trans (by omega) (decA_ge r _)
theorem decA_pos {t : List UInt8} (h : digs t = true) (h0 : t ≠ []) (h1 : t.head? ≠ some 48) : 1 ≤ decA 0 t := by
  cases t with
  | nil => exact absurd rfl h0
  | cons b r =>
    simp only [digs, List.all_cons, Bool.and_eq_true, decide_eq_true_eq] at h
    have hb : b ≠ 48 := fun e => h1 (by simp [e])
    have : b.toNat ≠ 48 := fun e => hb (UInt8.toNat_inj.1 e)
    rw [decA_cons]
    exact Nat.le_trans (by omega) (decA_ge r _)
theorem dec_back : ∀ (n : Nat) (t : List UInt8), t.length = n → digs t = true → t ≠ [] → (t.head? ≠ some 48 ∨ t.length = 1) → Lib.decDigits (decA 0 t) = t
  | 0, t, hn, _, h0, _ => absurd (List.length_eq_zero_iff.1 hn) h0
  | n + 1, t, hn, hd, h0, hc => by
    obtain ⟨r, b, rfl⟩ : ∃ r b, t = r ++ [b] := ⟨t.dropLast, t.getLast h0, (List.dropLast_concat_getLast h0).symm⟩
    have hd2 : digs r = true ∧ 48 ≤ b.toNat ∧ b.toNat ≤ 57 := by
      simp only [digs, List.all_append, List.all_cons, List.all_nil, Bool.and_true, Bool.and_eq_true, decide_eq_true_eq] at hd
      exact ⟨hd.1, hd.2⟩
    have hb : UInt8.ofNat (48 + (b.toNat - 48)) = b := by
      rw [show 48 + (b.toNat - 48) = b.toNat by omega]; simp
    rw [decA_snoc]
    by_cases e : r = []
    · subst e
      rw [decA_nil, Nat.zero_mul, Nat.zero_add, Lib.decDigits, dif_pos (by omega), hb]
      rfl
    · have hc2 : r.head? ≠ some 48 := by
        rcases hc with hc | hc
        · intro h3
          apply hc
          cases r with
          | nil => exact absurd rfl e
          | cons a l => simpa using h3
        · cases r with
          | nil => exact absurd rfl e
          | cons a l => simp at hc
      have hp := decA_pos hd2.1 e hc2
      have ih := dec_back n r (by simpa using hn) hd2.1 e (.inl hc2)
      rw [Lib.decDigits, dif_neg (by omega), show (decA 0 r * 10 + (b.toNat - 48)) / 10 = decA 0 r by omega, show (decA 0 r * 10 + (b.toNat - 48)) % 10 = b.toNat - 48 by omega, ih, hb]
theorem dec_head : ∀ (u : Nat), 1 ≤ u → (Lib.decDigits u).head? ≠ some 48 := by
  intro u
  induction u using Nat.strongRecOn with
  | _ u ih =>
    intro hu
    rw [Lib.decDigits]
    by_cases h : u < 10
    · rw [dif_pos h]
      intro e
      have e2 : UInt8.ofNat (48 + u) = 48 := by simpa using e
      have e3 := congrArg UInt8.toNat e2
      simp at e3
      omega
    · rw [dif_neg h]
      have := ih (u / 10) (by omega) (by omega)
      cases hl : Lib.decDigits (u / 10) with
      | nil => have := Lib.decDigits_length (u / 10); rw [hl] at this; have := Lib.nDigits_pos (u / 10); simp at *; omega
      | cons a l => rw [hl] at this; simpa using this
theorem dec_zero : Lib.decDigits 0 = [48] := by rw [Lib.decDigits, dif_pos (by decide)]; rfl

def unsg (s : List UInt8) : List UInt8 := Lib.trimPrefix s [45]
theorem unsg_cons (b : UInt8) (r : List UInt8) : unsg (b :: r) = if b = 45 then r else b :: r := by
  unfold unsg Lib.trimPrefix Lib.hasPrefix
  by_cases h : b = 45
  · subst h; simp [List.isPrefixOf]
  · rw [if_neg h, if_neg (by simp [List.isPrefixOf, Ne.symm h])]
def lead (s : List UInt8) : Bool := decide ((unsg s).head? = some 48 ∧ (1 < (unsg s).length ∨ (unsg s).length < s.length))
def numOk (d : Nat) (s : List UInt8) : Bool := decide (unsg s ≠ [] ∧ (unsg s).length ≤ d) && digs (unsg s)
theorem num_canon (d : Nat) (s : List UInt8) (h : numOk d s = true) : Lib.itoa (numV s) = s ↔ lead s = false := by
  simp only [numOk, Bool.and_eq_true, decide_eq_true_eq] at h
  obtain ⟨⟨h0, _⟩, hd⟩ := h
  unfold lead numV
  cases s with
  | nil => exact absurd rfl h0
  | cons b r =>
    have hu := unsg_cons b r
    by_cases e : b = 45
    · rw [if_pos e] at hu
      rw [hu] at h0 hd ⊢
      subst e
      simp only [List.head?_cons, if_true, List.drop_succ_cons, List.drop_zero, List.length_cons, decide_eq_false_iff_not]
      constructor
      · intro hi hz
        by_cases hp : 1 ≤ decA 0 r
        · rw [Lib.itoa_neg _ hp] at hi
          have := List.cons.inj hi
          exact dec_head _ hp (by rw [this.2]; exact hz.1)
        · rw [show decA 0 r = 0 by omega] at hi
          have : Lib.itoa (-((0 : Nat) : Int)) = Lib.decDigits 0 := by rw [show -((0 : Nat) : Int) = ((0 : Nat) : Int) by rfl]; exact Lib.itoa_nonneg 0
          rw [this, dec_zero] at hi
          exact absurd (List.cons.inj hi).1 (by decide)
      · intro hz
        have hh : r.head? ≠ some 48 := fun e => hz ⟨e, .inr (by omega)⟩
        rw [Lib.itoa_neg _ (decA_pos hd h0 hh), dec_back _ r rfl hd h0 (.inl hh)]
    · rw [if_neg e] at hu
      rw [hu] at h0 hd ⊢
      rw [if_neg (by simpa using e), Lib.itoa_nonneg]
      simp only [decide_eq_false_iff_not]
      constructor
      · rintro hi ⟨z1, z2⟩
        by_cases hp : 1 ≤ decA 0 (b :: r)
        · exact dec_head _ hp (by rw [hi]; exact z1)
        · rw [show decA 0 (b :: r) = 0 by omega, dec_zero] at hi
          have := congrArg List.length hi
          simp only [List.length_cons, List.length_nil] at this
          rcases z2 with z2 | z2 <;> simp only [List.length_cons] at z2 <;> omega
      · intro hz
        refine dec_back _ _ rfl hd h0 ?_
        by_cases hh : (b :: r).head? = some 48
        · right
          have : ¬ 1 < (b :: r).length := fun h => hz ⟨hh, .inl h⟩
          simp only [List.length_cons] at this ⊢
          omega
        · exact .inl hh
theorem atoi_num (d : Nat) (s : List UInt8) (h : numOk d s = true) (hd : d ≤ 17) : Lib.atoiAll s = .ok (numV s) := by
  simp only [numOk, Bool.and_eq_true, decide_eq_true_eq] at h
  obtain ⟨⟨h0, hl⟩, hg⟩ := h
  cases s with
  | nil => exact absurd rfl h0
  | cons b r =>
    have hu := unsg_cons b r
    unfold numV
    by_cases e : b = 45
    · rw [if_pos e] at hu
      rw [hu] at h0 hl hg
      subst e
      rw [Lib.atoiAll_short _ (by simp only [List.length_cons]; omega)]
      have : Lib.decNat r = some (decA 0 r) := by
        unfold Lib.decNat
        rw [if_neg (by simpa using h0), decFrom_A r 0 hg]
      rw [Lib.atoi, if_pos (by rfl), this]
      simp [Lib.NumEnd.ofOption]
    · rw [if_neg e] at hu
      rw [hu] at h0 hl hg
      rw [Lib.atoiAll_short _ (by omega)]
      have : Lib.decNat (b :: r) = some (decA 0 (b :: r)) := by
        unfold Lib.decNat
        rw [if_neg (by simp), decFrom_A _ 0 hg]
      have h43 : b ≠ 43 := fun e3 => by
        subst e3
        simp [digs] at hg
      rw [Lib.atoi, if_neg (by simpa using e), if_neg (by simpa using h43), this]
      simp [Lib.NumEnd.ofOption, e]
def numR (d : Nat) (s : List UInt8) : Option Int := if numOk d s = true ∧ lead s = false then some (numV s) else none
end Go.Proofs.YtilfcojhdhgmfaaGreatDoor

namespace Go.Proofs.YtilfcojhdhgmfaaGreatDoor
set_option linter.unusedVariables false
set_option linter.unusedSimpArgs false

theorem dg_byte {n : Nat} (h : n < 10) : (UInt8.ofNat (48 + n)).toNat = 48 + n := by
  rw [UInt8.toNat_ofNat']; omega
theorem digs_snoc (t : List UInt8) (b : UInt8) : digs (t ++ [b]) = (digs t && decide (48 ≤ b.toNat ∧ b.toNat ≤ 57)) := by
  unfold digs; rw [List.all_append]; simp
theorem dec_all : ∀ u, digs (Lib.decDigits u) = true ∧ decA 0 (Lib.decDigits u) = u ∧ Lib.decDigits u ≠ [] := by
  intro u
  induction u using Nat.strongRecOn with
  | _ u ih =>
    rw [Lib.decDigits]
    by_cases h : u < 10
    · rw [dif_pos h]
      have hb := dg_byte h
      refine ⟨?_, ?_, by simp⟩
      · have := digs_snoc [] (UInt8.ofNat (48 + u))
        rw [List.nil_append] at this
        rw [this, hb]
        simp [digs]; omega
      · have := decA_snoc (UInt8.ofNat (48 + u)) [] 0
        rw [List.nil_append] at this
        rw [this, hb, decA_nil]; omega
    · rw [dif_neg h]
      have hb := dg_byte (n := u % 10) (by omega)
      obtain ⟨h1, h2, _⟩ := ih (u / 10) (by omega)
      refine ⟨?_, ?_, by simp⟩
      · rw [digs_snoc, h1, hb]
        simp; omega
      · rw [decA_snoc, h2, hb]; omega
theorem dec_len : ∀ (k u : Nat), u < 10 ^ (k + 1) → (Lib.decDigits u).length ≤ k + 1
  | 0, u, h => by
    rw [Lib.decDigits, dif_pos (by simpa using h)]; simp
  | k + 1, u, h => by
    rw [Lib.decDigits]
    split
    · simp
    · have := dec_len k (u / 10) (by rw [Nat.pow_succ] at h; omega)
      rw [List.length_append]; simp only [List.length_cons, List.length_nil]; omega
theorem itoa_len (u : Nat) (h : u < 10000000000000000) : (Lib.itoa (u : Int)).length ≤ 16 := by
  rw [Lib.itoa_nonneg]
  exact dec_len 15 u (by omega)
theorem atoi_itoa (u : Nat) (h : u < 10000000000000000) : Lib.atoi (Lib.itoa (u : Int)) = some (u : Int) := by
  have hl := itoa_len u h
  obtain ⟨h1, h2, h3⟩ := dec_all u
  rw [Lib.itoa_nonneg] at hl ⊢
  generalize Lib.decDigits u = s at *
  cases s with
  | nil => exact absurd rfl h3
  | cons b r =>
    have hb : b ≠ 45 := fun e => by
      subst e; simp [digs] at h1
    have hu : unsg (b :: r) = b :: r := by rw [unsg_cons, if_neg hb]
    have hok : numOk 16 (b :: r) = true := by
      unfold numOk
      rw [hu, h1, Bool.and_true, decide_eq_true_eq]
      exact ⟨by simp, hl⟩
    have h0 := atoi_num 16 (b :: r) hok (by omega)
    have hv : numV (b :: r) = u := by
      unfold numV
      rw [if_neg (by simpa using hb), h2]
    rw [Lib.atoiAll_short _ (by omega), hv] at h0
    cases ha : Lib.atoi (b :: r) with
    | none => rw [ha] at h0; cases h0
    | some n => rw [ha] at h0; injection h0 with h1; rw [h1]
end Go.Proofs.YtilfcojhdhgmfaaGreatDoor

