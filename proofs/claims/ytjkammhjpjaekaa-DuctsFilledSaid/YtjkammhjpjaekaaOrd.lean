/- Strings are ordered; lists whose keys rise, and what is looked for in them. -/
import Derived.Test.YtjkammhjpjaekaaC4
namespace Go.Proofs.Ytjkammhjpjaekaa
set_option linter.unusedVariables false
set_option linter.unusedSimpArgs false
open Abs

theorem ltL_irr : ∀ a : List UInt8, Op.bytesLess a a = false
  | [] => rfl
  | a :: r => by
    have ih := ltL_irr r
    simp [Op.bytesLess, ih]
theorem ltL_trans : ∀ {a b c : List UInt8}, Op.bytesLess a b = true → Op.bytesLess b c = true → Op.bytesLess a c = true
  | [], [], c, h, h2 => h2
  | [], b :: s, [], h, h2 => by simp [Op.bytesLess] at h2
  | [], b :: s, c :: t, h, h2 => rfl
  | a :: r, [], c, h, h2 => by simp [Op.bytesLess] at h
  | a :: r, b :: s, [], h, h2 => by simp [Op.bytesLess] at h2
  | a :: r, b :: s, c :: t, h, h2 => by
    simp only [Op.bytesLess, Bool.or_eq_true, decide_eq_true_eq, Bool.and_eq_true, beq_iff_eq] at h h2 ⊢
    rcases h with h | ⟨h, h'⟩
    · rcases h2 with h2 | ⟨h2, h2'⟩
      · exact .inl (UInt8.lt_trans h h2)
      · subst h2; exact .inl h
    · subst h
      rcases h2 with h2 | ⟨h2, h2'⟩
      · exact .inl h2
      · exact .inr ⟨h2, ltL_trans h' h2'⟩
theorem ltL_tri : ∀ a b : List UInt8, Op.bytesLess a b = true ∨ a = b ∨ Op.bytesLess b a = true
  | [], [] => .inr (.inl rfl)
  | [], _ :: _ => .inl rfl
  | _ :: _, [] => .inr (.inr rfl)
  | a :: r, b :: s => by
    have ih := ltL_tri r s
    simp only [Op.bytesLess, Bool.or_eq_true, decide_eq_true_eq, Bool.and_eq_true, beq_iff_eq]
    rcases Nat.lt_trichotomy a.toNat b.toNat with h | h | h
    · exact .inl (.inl (UInt8.lt_iff_toNat_lt.2 h))
    · have e := UInt8.toNat_inj.1 h
      subst e
      rcases ih with h1 | h1 | h1
      · exact .inl (.inr ⟨rfl, h1⟩)
      · exact .inr (.inl (by rw [h1]))
      · exact .inr (.inr (.inr ⟨rfl, h1⟩))
    · exact .inr (.inr (.inl (UInt8.lt_iff_toNat_lt.2 h)))
theorem toList_eq' {a b : ByteArray} : a.toList = b.toList ↔ a = b := by
  rw [ByteArray.toList_eq, ByteArray.toList_eq]
  exact ⟨fun h => ByteArray.ext (Array.toList_inj.1 h), fun h => by rw [h]⟩
theorem beqL (a b : ByteArray) : (a.toList == b.toList) = decide (a = b) := by
  rw [Bool.eq_iff_iff, beq_iff_eq, decide_eq_true_eq, toList_eq']
def ltB (a b : ByteArray) : Bool := Op.bytesLess a.toList b.toList
theorem ltB_irr (a : ByteArray) : ltB a a = false := ltL_irr _
theorem ltB_trans {a b c : ByteArray} (h : ltB a b = true) (h2 : ltB b c = true) : ltB a c = true := ltL_trans h h2
theorem ltB_tri (a b : ByteArray) : ltB a b = true ∨ a = b ∨ ltB b a = true := by
  rcases ltL_tri a.toList b.toList with h | h | h
  · exact .inl h
  · exact .inr (.inl (toList_eq'.1 h))
  · exact .inr (.inr h)
theorem ltB_asym {a b : ByteArray} (h : ltB a b = true) : ltB b a = false := by
  cases h2 : ltB b a with
  | false => rfl
  | true => have := ltB_trans h h2; rw [ltB_irr] at this; cases this
theorem ltB_ne {a b : ByteArray} (h : ltB a b = true) : a ≠ b := by
  intro e; subst e; rw [ltB_irr] at h; cases h
theorem leB_iff {a b : ByteArray} : leB a b = true ↔ ltB a b = true ∨ a = b := by
  unfold leB ltB
  rw [Bool.or_eq_true, beq_iff_eq, toList_eq']
theorem leB_not {a b : ByteArray} : leB a b = false ↔ ltB b a = true := by
  constructor
  · intro h
    have h1 : ¬ (ltB a b = true ∨ a = b) := fun e => by rw [← leB_iff, h] at e; cases e
    rcases ltB_tri a b with h2 | h2 | h2
    · exact absurd (.inl h2) h1
    · exact absurd (.inr h2) h1
    · exact h2
  · intro h
    cases h2 : leB a b with
    | false => rfl
    | true =>
      rcases leB_iff.1 h2 with h3 | h3
      · rw [ltB_asym h3] at h; cases h
      · subst h3; rw [ltB_irr] at h; cases h
theorem cmpL_lt : ∀ a b : List UInt8, Lib.compareBytes a b < 0 ↔ Op.bytesLess a b = true
  | [], [] => by simp [Lib.compareBytes, Op.bytesLess]
  | [], _ :: _ => by simp [Lib.compareBytes, Op.bytesLess]
  | _ :: _, [] => by simp [Lib.compareBytes, Op.bytesLess]
  | a :: r, b :: s => by
    have ih := cmpL_lt r s
    unfold Lib.compareBytes Op.bytesLess
    simp only [Bool.or_eq_true, decide_eq_true_eq, Bool.and_eq_true, beq_iff_eq]
    split
    · rename_i h; simp [h]
    · rename_i h
      split
      · rename_i h2
        simp only [h, false_or]
        constructor
        · intro h3; omega
        · rintro ⟨h3, _⟩; subst h3; exact absurd h2 (UInt8.lt_irrefl _)
      · rename_i h2
        have hab : a = b := by
          rw [UInt8.lt_iff_toNat_lt] at h h2
          exact UInt8.toNat_inj.1 (by omega)
        rw [ih]; simp [h, hab]
theorem cmpL_zero : ∀ a b : List UInt8, Lib.compareBytes a b = 0 ↔ a = b
  | [], [] => by simp [Lib.compareBytes]
  | [], _ :: _ => by simp [Lib.compareBytes]
  | _ :: _, [] => by simp [Lib.compareBytes]
  | x :: xs, y :: ys => by
    have ih := cmpL_zero xs ys
    unfold Lib.compareBytes
    split
    · rename_i h
      constructor
      · intro e; cases e
      · intro e; cases e; exact absurd h (UInt8.lt_irrefl x)
    · split
      · rename_i h
        constructor
        · intro e; cases e
        · intro e; cases e; exact absurd h (UInt8.lt_irrefl x)
      · rename_i h1 h2
        have hxy : x = y := by
          rw [UInt8.lt_iff_toNat_lt] at h1 h2
          exact UInt8.toNat_inj.1 (by omega)
        rw [ih, hxy]; simp
theorem cmp_lt {a b : ByteArray} : cmpS a b < 0 ↔ ltB a b = true := by
  unfold cmpS ltB; rw [cmpL_lt, ByteArray.toList_eq, ByteArray.toList_eq]
theorem cmp_zero {a b : ByteArray} : cmpS a b = 0 ↔ a = b := by
  unfold cmpS
  rw [cmpL_zero]
  exact ⟨fun h => ByteArray.ext (Array.toList_inj.1 h), fun h => by rw [h]⟩

instance lawB : LawfulBEq ByteArray where
  eq_of_beq {a b} h := by
    obtain ⟨x⟩ := a
    obtain ⟨y⟩ := b
    have : x = y := eq_of_beq (show (x == y) = true from h)
    rw [this]
  rfl {a} := by
    obtain ⟨x⟩ := a
    exact show (x == x) = true from beq_self_eq_true x

/-! keys that rise -/
section
variable {α : Type} {key : α → ByteArray}
def Rise (key : α → ByteArray) (l : List α) : Prop := l.Pairwise fun x y => ltB (key x) (key y) = true
theorem Rise.at {l : List α} (h : Rise key l) {i j : Nat} (hij : i < j) (hj : j < l.length) : ltB (key (l[i]'(by omega))) (key l[j]) = true := List.pairwise_iff_getElem.1 h i j (by omega) hj hij
/-- errors of a list, one behind another, with the key before -/
def seqErr (e : Bool → ByteArray → α → Int) (key : α → ByteArray) : Bool → ByteArray → List α → Int
  | _, _, [] => 0
  | f, b, x :: r => if e f b x = 0 then seqErr e key false (key x) r else e f b x
theorem seqErr_first {e : Bool → ByteArray → α → Int} (h : ∀ x, e true ⟨#[]⟩ x = e false ⟨#[]⟩ x) (l : List α) : seqErr e key true ⟨#[]⟩ l = seqErr e key false ⟨#[]⟩ l := by
  cases l with
  | nil => rfl
  | cons x r => simp only [seqErr, h]
theorem seqErr_first' {e : Bool → ByteArray → α → Int} {l : List α} (h : ∀ x ∈ l, e true ⟨#[]⟩ x = e false ⟨#[]⟩ x) : seqErr e key true ⟨#[]⟩ l = seqErr e key false ⟨#[]⟩ l := by
  cases l with
  | nil => rfl
  | cons x r => simp only [seqErr, h x (by simp)]
theorem seqErr_low {e : Bool → ByteArray → α → Int} (he : ∀ b x, e false b x = 0 → ltB b (key x) = true) : ∀ {l : List α} {b : ByteArray}, seqErr e key false b l = 0 → (∀ x ∈ l, ltB b (key x) = true) ∧ Rise key l
  | [], _, _ => ⟨by simp, List.Pairwise.nil⟩
  | x :: r, b, h => by
    simp only [seqErr] at h
    split at h
    · rename_i h0
      obtain ⟨h1, h2⟩ := seqErr_low he h
      have h3 := he b x h0
      refine ⟨?_, List.pairwise_cons.2 ⟨h1, h2⟩⟩
      intro y hy
      rcases List.mem_cons.1 hy with rfl | hy
      · exact h3
      · exact ltB_trans h3 (h1 y hy)
    · rename_i h0; exact absurd h h0
theorem seqErr_rise {e : Bool → ByteArray → α → Int} (he : ∀ b x, e false b x = 0 → ltB b (key x) = true) {l : List α} {f : Bool} {b : ByteArray} (h : seqErr e key f b l = 0) : Rise key l := by
  cases l with
  | nil => exact List.Pairwise.nil
  | cons x r =>
    simp only [seqErr] at h
    split at h
    · obtain ⟨h1, h2⟩ := seqErr_low he h
      exact List.pairwise_cons.2 ⟨h1, h2⟩
    · rename_i h0; exact absurd h h0
theorem seqErr_all {e : Bool → ByteArray → α → Int} : ∀ {l : List α} {f : Bool} {b : ByteArray}, seqErr e key f b l = 0 → ∀ x ∈ l, ∃ f b, e f b x = 0
  | [], _, _, _, x, hx => by simp at hx
  | y :: r, f, b, h, x, hx => by
    simp only [seqErr] at h
    split at h
    · rename_i h0
      rcases List.mem_cons.1 hx with rfl | hx
      · exact ⟨f, b, h0⟩
      · exact seqErr_all h x hx
    · rename_i h0; exact absurd h h0
theorem seqErr_drop {e : Bool → ByteArray → α → Int} {l : List α} {k : Nat} {f : Bool} {b : ByteArray} (h : k < l.length) : seqErr e key f b (l.drop k) = if e f b l[k] = 0 then seqErr e key false (key l[k]) (l.drop (k + 1)) else e f b l[k] := by
  rw [List.drop_eq_getElem_cons h, seqErr]
/-- the key before -/
def befK (key : α → ByteArray) (l : List α) (k : Nat) : ByteArray := if k = 0 then ⟨#[]⟩ else match l[k - 1]? with | some x => key x | none => ⟨#[]⟩
theorem befK_succ {l : List α} {k : Nat} (h : k < l.length) : befK key l (k + 1) = key l[k] := by
  unfold befK
  rw [if_neg (by omega), Nat.add_sub_cancel, List.getElem?_eq_getElem h]
theorem befK_pos {l : List α} {k : Nat} (h : k ≤ l.length) (h0 : 0 < k) : befK key l k = key (l[k - 1]'(by omega)) := by
  unfold befK
  rw [if_neg (by omega), List.getElem?_eq_getElem (show k - 1 < l.length by omega)]
end
theorem all_succ' {α : Type} {p : α → Bool} {l : List α} {k : Nat} {hk : k < l.length} (hi : ∀ i (h : i < l.length), i < k → p l[i] = false) (h : p l[k] = false) : ∀ i (h : i < l.length), i < k + 1 → p l[i] = false := by
  intro i hi1 hi2
  rcases Nat.lt_or_ge i k with h3 | h3
  · exact hi i hi1 h3
  · have : i = k := by omega
    subst this; exact h
/-! searching in two halves -/
def cntL {α : Type} (c : α → Int) (l : List α) : Nat := (l.takeWhile fun x => decide (c x < 0)).length
def hitL {α : Type} (c : α → Int) (l : List α) : Bool := match l[cntL c l]? with | some x => c x == 0 | none => false
theorem cntL_at {α : Type} {c : α → Int} : ∀ {l : List α} {i : Nat}, i ≤ l.length → (∀ k (h : k < l.length), k < i → c l[k] < 0) → (∀ k (h : k < l.length), i ≤ k → ¬ c l[k] < 0) → cntL c l = i
  | [], i, hi, _, _ => by simp at hi; subst hi; rfl
  | a :: r, i, hi, h1, h2 => by
    unfold cntL
    cases i with
    | zero =>
      have := h2 0 (by simp) (Nat.le_refl _)
      simp only [List.getElem_cons_zero] at this
      simp [List.takeWhile_cons, this]
    | succ i =>
      have h3 := h1 0 (by simp) (by omega)
      simp only [List.getElem_cons_zero] at h3
      have ih := cntL_at (c := c) (l := r) (i := i) (by simpa using hi) (fun k hk hki => by have := h1 (k + 1) (by simpa using hk) (by omega); simpa using this) (fun k hk hki => by have := h2 (k + 1) (by simpa using hk) (by omega); simpa using this)
      simp only [List.takeWhile_cons, h3, decide_true, if_true, List.length_cons]
      unfold cntL at ih
      rw [ih]
theorem mid_eq {i j : Nat} (h : i + j ≤ 4000000) : IntKind.i64.wrap (shV .shr .u64 (IntKind.u64.wrap (IntKind.i64.wrap ((i : Int) + (j : Int)))) 1) = (((i + j) / 2 : Nat) : Int) := by
  have e1 : IntKind.i64.wrap ((i : Int) + (j : Int)) = ((i + j : Nat) : Int) := by rw [wrap_in (by omega) (by omega)]; omega
  have e2 : IntKind.u64.wrap ((i + j : Nat) : Int) = ((i + j : Nat) : Int) := IntWalk.u64_in _ ⟨by omega, by omega⟩
  rw [e1, e2]
  have e3 : shV .shr .u64 ((i + j : Nat) : Int) 1 = (((i + j) / 2 : Nat) : Int) := by
    show Int.fdiv ((i + j : Nat) : Int) 2 = _
    rw [Int.fdiv_eq_ediv_of_nonneg _ (by omega)]; omega
  rw [e3, wrap_in (by omega) (by omega)]
theorem cntL_cons {α : Type} (c : α → Int) (a : α) (r : List α) : cntL c (a :: r) = if c a < 0 then cntL c r + 1 else 0 := by
  unfold cntL
  rw [List.takeWhile_cons]
  by_cases h : c a < 0 <;> simp [h]
theorem find_rise {α : Type} {key : α → ByteArray} {c : α → Int} {k : ByteArray} (hc : ∀ x, (c x < 0 ↔ ltB (key x) k = true) ∧ (c x = 0 ↔ key x = k)) : ∀ {l : List α}, Rise key l → (l.find? fun x => decide (key x = k)) = if hitL c l then l[cntL c l]? else none
  | [], _ => by simp [hitL, cntL]
  | a :: r, h => by
    obtain ⟨h1, h2⟩ := List.pairwise_cons.1 h
    have ih := find_rise hc h2
    by_cases ha : c a < 0
    · have hne : ¬ key a = k := fun e => by have := (hc a).2.2 e; omega
      have hh : hitL c (a :: r) = hitL c r := by unfold hitL; rw [cntL_cons, if_pos ha, List.getElem?_cons_succ]
      rw [List.find?_cons, hh, cntL_cons, if_pos ha, List.getElem?_cons_succ, ← ih]
      simp [hne]
    · have hh : hitL c (a :: r) = (c a == 0) := by unfold hitL; rw [cntL_cons, if_neg ha]; rfl
      rw [List.find?_cons, hh, cntL_cons, if_neg ha]
      by_cases h0 : c a = 0
      · simp [(hc a).2.1 h0, h0]
      · have hne : ¬ key a = k := fun e => h0 ((hc a).2.2 e)
        have hlt : ltB k (key a) = true := by
          rcases ltB_tri (key a) k with h3 | h3 | h3
          · exact absurd ((hc a).1.2 h3) ha
          · exact absurd h3 hne
          · exact h3
        have hn : r.find? (fun x => decide (key x = k)) = none := by
          rw [List.find?_eq_none]
          intro x hx
          have h3 := ltB_trans hlt (h1 x hx)
          simpa using (ltB_ne h3).symm
        simp [hne, h0, hn]
theorem rise_mono {α : Type} {key : α → ByteArray} {c : α → Int} {k : ByteArray} (hc : ∀ x, c x < 0 ↔ ltB (key x) k = true) {l : List α} (h : Rise key l) : ∀ i j (hj : j < l.length) (hij : i ≤ j), c l[j] < 0 → c (l[i]'(by omega)) < 0 := by
  intro i j hj hij hlt
  rcases Nat.lt_or_ge i j with h1 | h1
  · exact (hc _).2 (ltB_trans (h.at h1 hj) ((hc _).1 hlt))
  · have : i = j := by omega
    subst this; exact hlt
theorem rise_nodup {α : Type} {key : α → ByteArray} {l : List α} (h : Rise key l) : (l.map key).Nodup := by
  rw [List.Nodup, List.pairwise_map]
  exact h.imp fun h => ltB_ne h
/-- what rises and has the same keys is the same -/
theorem rise_ext : ∀ {a b : List ByteArray}, Rise id a → Rise id b → (∀ x, x ∈ a ↔ x ∈ b) → a = b
  | [], [], _, _, _ => rfl
  | [], y :: s, _, _, h => absurd ((h y).2 (by simp)) (by simp)
  | x :: r, [], _, _, h => absurd ((h x).1 (by simp)) (by simp)
  | x :: r, y :: s, ha, hb, h => by
    obtain ⟨a1, a2⟩ := List.pairwise_cons.1 ha
    obtain ⟨b1, b2⟩ := List.pairwise_cons.1 hb
    have hxy : x = y := by
      rcases List.mem_cons.1 ((h x).1 (by simp)) with h1 | h1
      · exact h1
      · rcases List.mem_cons.1 ((h y).2 (by simp)) with h2 | h2
        · exact h2.symm
        · have h3 := b1 x h1
          have h4 := a1 y h2
          simp only [id] at h3 h4
          rw [ltB_asym h3] at h4; cases h4
    subst hxy
    congr 1
    refine rise_ext a2 b2 fun z => ?_
    constructor
    · intro hz
      rcases List.mem_cons.1 ((h z).1 (by simp [hz])) with h1 | h1
      · subst h1; have := a1 z hz; simp only [id] at this; rw [ltB_irr] at this; cases this
      · exact h1
    · intro hz
      rcases List.mem_cons.1 ((h z).2 (by simp [hz])) with h1 | h1
      · subst h1; have := b1 z hz; simp only [id] at this; rw [ltB_irr] at this; cases this
      · exact h1
theorem rise_map {α : Type} {key : α → ByteArray} {l : List α} (h : Rise key l) : Rise id (l.map key) := by
  unfold Rise at h ⊢
  rw [List.pairwise_map]; exact h
theorem rise_filter {α : Type} {key : α → ByteArray} {l : List α} (p : α → Bool) (h : Rise key l) : Rise key (l.filter p) := List.Pairwise.filter p h
/-- what is found is there once -/
theorem rise_find {α : Type} {key : α → ByteArray} {l : List α} (h : Rise key l) {x : α} (hx : x ∈ l) : (l.find? fun y => decide (key y = key x)) = some x := by
  induction l with
  | nil => simp at hx
  | cons a r ih =>
    obtain ⟨h1, h2⟩ := List.pairwise_cons.1 h
    rw [List.find?_cons]
    rcases List.mem_cons.1 hx with rfl | hx
    · simp
    · have := ltB_ne (h1 x hx)
      simp [this, ih h2 hx]
end Go.Proofs.Ytjkammhjpjaekaa
