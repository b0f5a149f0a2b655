/- Operations in whatever order is drawn. -/
import Derived.Test.YtkefgcleaalnnaaGreatAbsL
namespace Go.Proofs.YtkefgcleaalnnaaGreat
set_option linter.unusedVariables false
set_option linter.unusedSimpArgs false
namespace Abs

structure Rc where
 v : S
 ch : Ch
 rd : List Nat
 on : Bool

theorem mem_keys : ∀ {ch : Ch} {l : Nat}, (chGet ch l).isSome → l ∈ keys ch
 | [], l, h => by simp [chGet] at h
 | (k, o) :: r, l, h => by
  simp only [chGet] at h
  simp only [keys, List.mem_cons]
  cases hc : chGet r l with
  | some x => exact .inr (mem_keys (by rw [hc]; rfl))
  | none =>
   simp only [hc] at h
   by_cases e : k = l
   ·exact .inl e.symm
   ·simp [e] at h
theorem keys_mem : ∀ {ch : Ch} {l : Nat}, l ∈ keys ch → (chGet ch l).isSome
 | [], l, h => by simp [keys] at h
 | (k, o) :: r, l, h => by
  simp only [keys, List.mem_cons] at h
  simp only [chGet]
  cases hc : chGet r l with
  | some x => rfl
  | none =>
   rcases h with h | h
   ·simp [h]
   ·have := keys_mem h; rw [hc] at this; cases this

def runD (D : Nat → Bool) : List Oper → List Rc → Nat → St → St
 | o :: r, t :: ts, j, σ => runD D r ts (j + 1) (if D j then upd σ o.dst t.v t.ch else σ)
 | _, _, _, σ => σ
theorem runD_nx (D : Nat → Bool) : ∀ (os : List Oper) (ts : List Rc) (j : Nat) (σ : St), (runD D os ts j σ).nx = σ.nx
 | [], _, _, _ => rfl
 | _ :: _, [], _, _ => rfl
 | o :: r, t :: ts, j, σ => by rw [runD, runD_nx]; split <;> rfl

theorem runD_slot (D D' : Nat → Bool) (x : Nat) : ∀ (os : List Oper) (ts : List Rc) (j : Nat) (σ σ' : St), slot σ x = slot σ' x → (∀ (i : Nat) (o : Oper), os[i]? = some o → o.dst = some x → D (j + i) = D' (j + i)) →
  slot (runD D os ts j σ) x = slot (runD D' os ts j σ') x
 | [], _, _, _, _, h, _ => h
 | _ :: _, [], _, _, _, h, _ => h
 | o :: r, t :: ts, j, σ, σ', h, hD => by
  simp only [runD]
  refine runD_slot D D' x r ts (j + 1) _ _ ?_ (fun i o' ho hd => by have := hD (i + 1) o' (by simpa using ho) hd; rwa [show j + (i + 1) = j + 1 + i by omega] at this)
  by_cases hd : o.dst = some x
  ·have := hD 0 o (by simp) hd
   simp only [Nat.add_zero] at this
   rw [this]
   split
   ·simp [slot_upd, putS, hd]
   ·exact h
  ·have hp : ∀ s : St, slot (upd s o.dst t.v t.ch) x = slot s x := by
    intro s
    rw [slot_upd]
    cases ho : o.dst with
    | none => rfl
    | some d =>
     have : d ≠ x := fun e => hd (by rw [ho, e])
     simp [putS, this]
   split <;> split <;> simp only [hp, h]

theorem runD_heap (D D' : Nat → Bool) (l : Nat) : ∀ (os : List Oper) (ts : List Rc) (j : Nat) (σ σ' : St), getA σ.hp l = getA σ'.hp l → (∀ (i : Nat) (t : Rc), ts[i]? = some t → l ∈ keys t.ch → D (j + i) = D' (j + i)) →
  getA (runD D os ts j σ).hp l = getA (runD D' os ts j σ').hp l
 | [], _, _, _, _, h, _ => h
 | _ :: _, [], _, _, _, h, _ => h
 | o :: r, t :: ts, j, σ, σ', h, hD => by
  simp only [runD]
  refine runD_heap D D' l r ts (j + 1) _ _ ?_ (fun i t' ht hd => by have := hD (i + 1) t' (by simpa using ht) hd; rwa [show j + (i + 1) = j + 1 + i by omega] at this)
  by_cases hd : l ∈ keys t.ch
  ·have := hD 0 t (by simp) hd
   simp only [Nat.add_zero] at this
   rw [this]
   split
   ·rw [hp_upd, hp_upd]
    unfold updF
    cases hc : chGet t.ch l with
    | some => rfl
    | none => have := keys_mem hd; rw [hc] at this; cases this
   ·exact h
  ·have hp : ∀ s : St, getA (upd s o.dst t.v t.ch).hp l = getA s.hp l := by
    intro s
    rw [hp_upd]
    unfold updF
    cases hc : chGet t.ch l with
    | none => rfl
    | some => exact (hd (mem_keys (by rw [hc]; rfl))).elim
   split <;> split <;> simp only [hp, h]

theorem runD_slot_at (D : Nat → Bool) (x : Nat) : ∀ (os : List Oper) (ts : List Rc) (j : Nat) (σ : St) (i : Nat) (o : Oper) (t : Rc), os[i]? = some o → ts[i]? = some t → o.dst = some x → D (j + i) = true → (∀ (i' : Nat) (o' : Oper), os[i']? = some o' → o'.dst = some x → i' = i) →
  slot (runD D os ts j σ) x = t.v
 | [], _, _, _, i, o, t, h, _, _, _, _ => by simp at h
 | _ :: _, [], _, _, i, o, t, _, h, _, _, _ => by simp at h
 | o0 :: r, t0 :: ts, j, σ, 0, o, t, ho, ht, hd, hD, hu => by
  simp at ho ht; subst ho ht
  simp only [Nat.add_zero] at hD
  simp only [runD, hD, if_true]
  rw [runD_slot D (fun _ => false) x r ts (j + 1) _ (upd σ o0.dst t0.v t0.ch) rfl]
  ·have hz : ∀ (os : List Oper) (ts : List Rc) (j : Nat) (s : St), runD (fun _ => false) os ts j s = s := by
    intro os
    induction os with
    | nil => intro ts j s; rfl
    | cons o r ih => intro ts j s; cases ts with
     | nil => rfl
     | cons t ts => simp only [runD]; exact ih ts (j + 1) s
   rw [hz, slot_upd]; simp [putS, hd]
  ·intro i' o' ho' hd'
   have := hu (i' + 1) o' (by simpa using ho') hd'
   omega
 | o0 :: r, t0 :: ts, j, σ, i + 1, o, t, ho, ht, hd, hD, hu => by
  simp only [runD]
  refine runD_slot_at D x r ts (j + 1) _ i o t (by simpa using ho) (by simpa using ht) hd (by rwa [show j + (i + 1) = j + 1 + i by omega] at hD) ?_
  intro i' o' ho' hd'
  have := hu (i' + 1) o' (by simpa using ho') hd'
  omega
theorem runD_heap_at (D : Nat → Bool) (l : Nat) (ob : Ob) : ∀ (os : List Oper) (ts : List Rc) (j : Nat) (σ : St) (i : Nat) (t : Rc), ts.length = os.length → ts[i]? = some t → chGet t.ch l = some ob → D (j + i) = true → (∀ (i' : Nat) (t' : Rc), ts[i']? = some t' → l ∈ keys t'.ch → i < i' → D (j + i') = false) →
  getA (runD D os ts j σ).hp l = some ob
 | [], ts, _, _, i, t, hl, h, _, _, _ => by cases ts <;> simp at hl h
 | _ :: _, [], _, _, i, t, hl, _, _, _, _ => by simp at hl
 | o0 :: r, t0 :: ts, j, σ, 0, t, hl, ht, hc, hD, hu => by
  simp at ht; subst ht
  simp only [Nat.add_zero] at hD
  simp only [runD, hD, if_true]
  rw [runD_heap D (fun _ => false) l r ts (j + 1) _ (upd σ o0.dst t0.v t0.ch) rfl]
  ·have hz : ∀ (os : List Oper) (ts : List Rc) (j : Nat) (s : St), runD (fun _ => false) os ts j s = s := by
    intro os
    induction os with
    | nil => intro ts j s; rfl
    | cons o r ih => intro ts j s; cases ts with
     | nil => rfl
     | cons t ts => simp only [runD]; exact ih ts (j + 1) s
   rw [hz, hp_upd]; unfold updF; rw [hc]
  ·intro i' t' ht' hd'
   have := hu (i' + 1) t' (by simpa using ht') hd' (by omega)
   rwa [show j + (i' + 1) = j + 1 + i' by omega] at this
 | o0 :: r, t0 :: ts, j, σ, i + 1, t, hl, ht, hc, hD, hu => by
  simp only [runD]
  refine runD_heap_at D l ob r ts (j + 1) _ i t (by simpa using hl) (by simpa using ht) hc (by rwa [show j + (i + 1) = j + 1 + i by omega] at hD) ?_
  intro i' t' ht' hd' hlt
  have := hu (i' + 1) t' (by simpa using ht') hd' (by omega)
  rwa [show j + (i' + 1) = j + 1 + i' by omega] at this

theorem bit_eq (m i : Nat) : bit m i = Nat.testBit m i := by
 have h : Nat.land (Nat.shiftRight m i) 1 = (m >>> i) % 2 := Nat.and_one_is_mod _
 unfold bit
 rw [h, beq_dec, Nat.testBit_eq_decide_div_mod_eq, Nat.shiftRight_eq_div_pow]
theorem bit_zero (i : Nat) : bit 0 i = false := by rw [bit_eq]; simp
theorem bit_lor (a b i : Nat) : bit (Nat.lor a b) i = (bit a i || bit b i) := by
 rw [bit_eq, bit_eq, bit_eq]; exact Nat.testBit_or a b i
theorem bit_shl (n i : Nat) : bit (Nat.shiftLeft 1 n) i = decide (i = n) := by
 have h : Nat.shiftLeft 1 n = 2 ^ n := by show 1 <<< n = _; rw [Nat.shiftLeft_eq, Nat.one_mul]
 rw [bit_eq, h, Nat.testBit_two_pow]
 exact decide_eq_decide.2 eq_comm
theorem befOf_mem {acc : List Nat} {x : Nat} : ∀ {es : List Edge}, bit (befOf acc es) x = true → ∃ e ∈ es, Region.binds .any e = true ∧ (x = e.on ∨ ∃ b, nth acc e.on = some b ∧ bit b x = true)
 | [], h => by simp [befOf, bit_zero] at h
 | e :: r, h => by
  simp only [befOf] at h
  cases hb' : Region.binds .any e with
  | false =>
   simp only [hb', cond_false] at h
   obtain ⟨e', h1, h2, h3⟩ := befOf_mem h
   exact ⟨e', by simp [h1], h2, h3⟩
  | true =>
   simp only [hb', cond_true, bit_lor, bit_shl, Bool.or_eq_true, decide_eq_true_eq] at h
   rcases h with (h | h) | h
   ·exact ⟨e, by simp, hb', .inl h⟩
   ·cases hn : nth acc e.on with
    | none => simp [hn, bit_zero] at h
    | some b => simp only [hn] at h; exact ⟨e, by simp, hb', .inr ⟨b, hn, h⟩⟩
   ·obtain ⟨e', h1, h2, h3⟩ := befOf_mem h
    exact ⟨e', by simp [h1], h2, h3⟩
theorem befs_closed {D : Nat → Bool} : ∀ (os : List Oper) (acc : List Nat), (∀ i b, nth acc i = some b → D i = true → ∀ x, bit b x = true → D x = true) →
  (∀ (k : Nat) (o : Oper), os[k]? = some o → D (acc.length + k) = true → ∀ e ∈ o.after, Region.binds .any e = true → D e.on = true) → ∀ i b, nth (befs os acc) i = some b → D i = true → ∀ x, bit b x = true → D x = true
 | [], acc, ha, _, i, b, h, hD, x, hx => ha i b h hD x hx
 | o :: r, acc, ha, hc, i, b, h, hD, x, hx => by
  simp only [befs, forceNL_eq] at h
  refine befs_closed r _ ?_ ?_ i b h hD x hx
  ·intro i b hi hDi x hx
   rw [nth_eq] at hi
   rcases Nat.lt_trichotomy i acc.length with h1 | h1 | h1
   ·rw [List.getElem?_append_left h1, ← nth_eq] at hi
    exact ha i b hi hDi x hx
   ·subst h1
    rw [List.getElem?_append_right (Nat.le_refl _)] at hi
    simp at hi; subst hi
    obtain ⟨e, he, hbi, h2⟩ := befOf_mem hx
    have hDe := hc 0 o (by simp) (by simpa using hDi) e (by simpa using he) hbi
    rcases h2 with rfl | ⟨b', hb', hx'⟩
    ·exact hDe
    ·exact ha _ _ hb' hDe x hx'
   ·rw [List.getElem?_eq_none (by simp; omega)] at hi; cases hi
  ·intro k o' ho' hD'
   refine hc (k + 1) o' (by simpa using ho') ?_
   rw [← hD']; congr 1; simp; omega

theorem befs_lt : ∀ (os : List Oper) (acc : List Nat), (∀ i b, nth acc i = some b → ∀ x, bit b x = true → x < i) →
  (∀ (k : Nat) (o : Oper), os[k]? = some o → ∀ e ∈ o.after, Region.binds .any e = true → e.on < acc.length + k) → ∀ i b, nth (befs os acc) i = some b → ∀ x, bit b x = true → x < i
 | [], acc, ha, _, i, b, h, x, hx => ha i b h x hx
 | o :: r, acc, ha, hc, i, b, h, x, hx => by
  simp only [befs, forceNL_eq] at h
  refine befs_lt r _ ?_ ?_ i b h x hx
  ·intro i b hi x hx
   rw [nth_eq] at hi
   rcases Nat.lt_trichotomy i acc.length with h1 | h1 | h1
   ·rw [List.getElem?_append_left h1, ← nth_eq] at hi
    exact ha i b hi x hx
   ·subst h1
    rw [List.getElem?_append_right (Nat.le_refl _)] at hi
    simp at hi; subst hi
    obtain ⟨e, he, hbi, h2⟩ := befOf_mem hx
    have hDe := hc 0 o (by simp) e (by simpa using he) hbi
    simp only [Nat.add_zero] at hDe
    rcases h2 with rfl | ⟨b', hb', hx'⟩
    ·exact hDe
    ·exact Nat.lt_trans (ha _ _ hb' x hx') hDe
   ·rw [List.getElem?_eq_none (by simp; omega)] at hi; cases hi
  ·intro k o' ho' e he hbi
   have := hc (k + 1) o' (by simpa using ho') e he hbi
   simp; omega

theorem disj_spec : ∀ {x y : List Nat}, disj x y = true → ∀ l ∈ x, l ∉ y
 | [], y, _, l, h => by simp at h
 | a :: r, y, h, l, hl => by
  simp only [disj] at h
  cases hq : hasN y a with
  | true => simp [hq] at h
  | false =>
   simp only [hq, cond_false] at h
   rcases List.mem_cons.1 hl with rfl | hl
   ·intro hy; rw [(hasN_iff y l).2 hy] at hq; cases hq
   ·exact disj_spec h l hl
theorem okOne_spec {bj : Nat} {rd wr : List Nat} : ∀ {past : List (List Nat × List Nat)} {i0 : Nat}, okOne bj rd wr i0 past = true → ∀ (i : Nat) (p : List Nat × List Nat), past[i]? = some p → bit bj (i0 + i) = true ∨ (disj p.2 rd = true ∧ disj wr p.1 = true ∧ disj wr p.2 = true)
 | [], i0, _, i, p, h => by simp at h
 | q :: r, i0, h, i, p, hp => by
  simp only [okOne, Bool.and_eq_true, Bool.or_eq_true] at h
  cases i with
  | zero =>
   simp at hp; subst hp
   rcases h.1 with h1 | h1
   ·exact .inr ⟨h1.1.1, h1.1.2, h1.2⟩
   ·exact .inl (by simpa using h1)
  | succ i =>
   have := okOne_spec h.2 i p (by simpa using hp)
   rwa [show i0 + 1 + i = i0 + (i + 1) by omega] at this
theorem okTr_spec {bs : List Nat} : ∀ {rest : List (List Nat × List Nat)} {j0 : Nat} {past : List (List Nat × List Nat)}, past.length = j0 → okTr bs j0 past rest = true → ∀ (j i : Nat) (p q : List Nat × List Nat), rest[j]? = some p → (past ++ rest)[i]? = some q → i < j0 + j →
  (∃ b, nth bs (j0 + j) = some b ∧ bit b i = true) ∨ (disj q.2 p.1 = true ∧ disj p.2 q.1 = true ∧ disj p.2 q.2 = true)
 | [], _, _, _, _, j, i, p, q, h, _, _ => by simp at h
 | r0 :: r, j0, past, hl, h, j, i, p, q, hp, hq, hlt => by
  simp only [okTr, Bool.and_eq_true] at h
  cases j with
  | zero =>
   simp at hp; subst hp
   have hi : i < past.length := by omega
   rw [List.getElem?_append_left hi] at hq
   have := okOne_spec h.1 i q hq
   simp only [Nat.zero_add] at this
   rcases this with h1 | h1
   ·cases hn : nth bs j0 with
    | none => simp [hn, bit_zero] at h1
    | some b => simp only [hn] at h1; exact .inl ⟨b, by simp, h1⟩
   ·exact .inr h1
  | succ j =>
   have := okTr_spec (j0 := j0 + 1) (past := past ++ [r0]) (by simp [hl]) h.2 j i p q (by simpa using hp) (by simpa using hq) (by omega)
   rwa [show j0 + 1 + j = j0 + (j + 1) by omega] at this

def looks (all : List Oper) (o : Oper) : List Nat :=
 (o.op.operands.toList.filterMap fun | .tmp t => some t | _ => none) ++ (match o.guard with | some g => (match nth all g.1 with | some o' => o'.dst.toList | none => []) | none => [])
def tmpOne (all : List Oper) (bs : List Nat) (j : Nat) (x : Nat) : Nat → List Oper → Bool
 | _, [] => true
 | i, o :: r => (o.dst != some x || Nat.beq i j || (bif Nat.blt i j then bit (match nth bs j with | some b => b | none => 0) i else bit (match nth bs i with | some b => b | none => 0) j)) && tmpOne all bs j x (i + 1) r
def tmpAll (all : List Oper) (bs : List Nat) : Nat → List Oper → Bool
 | _, [] => true
 | j, o :: r => (looks all o).all (fun x => tmpOne all bs j x 0 all) && tmpAll all bs (j + 1) r
def regOK (n : Nat) (ops : Array Oper) : Bool := backward ops && (apartDsts ops n && tmpAll ops.toList (befs ops.toList []) 0 ops.toList)

theorem tmpOne_spec {all : List Oper} {bs : List Nat} {j x : Nat} : ∀ {os : List Oper} {i0 : Nat}, tmpOne all bs j x i0 os = true → ∀ (i : Nat) (o : Oper), os[i]? = some o → o.dst = some x → i0 + i ≠ j →
  (i0 + i < j ∧ ∃ b, nth bs j = some b ∧ bit b (i0 + i) = true) ∨ (j < i0 + i ∧ ∃ b, nth bs (i0 + i) = some b ∧ bit b j = true)
 | [], i0, _, i, o, h, _, _ => by simp at h
 | o0 :: r, i0, h, i, o, ho, hd, hne => by
  simp only [tmpOne, Bool.and_eq_true] at h
  cases i with
  | zero =>
   simp at ho; subst ho
   simp only [Nat.add_zero] at hne ⊢
   have h1 := h.1
   simp only [hd, bne_self_eq_false, Bool.false_or, beq_dec, hne, decide_false] at h1
   cases hq : Nat.blt i0 j with
   | true =>
    simp only [hq, cond_true] at h1
    cases hn : nth bs j with
    | none => simp [hn, bit_zero] at h1
    | some b => simp only [hn] at h1; exact .inl ⟨Nat.le_of_ble_eq_true hq, b, rfl, h1⟩
   | false =>
    simp only [hq, cond_false] at h1
    have hnl : ¬ i0 < j := fun hlt => by
     have : Nat.blt i0 j = true := Nat.ble_eq_true_of_le hlt
     rw [hq] at this; cases this
    cases hn : nth bs i0 with
    | none => simp [hn, bit_zero] at h1
    | some b => simp only [hn] at h1; exact .inr ⟨by omega, b, rfl, h1⟩
  | succ i =>
   have := tmpOne_spec h.2 i o (by simpa using ho) hd (by omega)
   rwa [show i0 + 1 + i = i0 + (i + 1) by omega] at this
theorem tmpAll_spec {all : List Oper} {bs : List Nat} : ∀ {os : List Oper} {j0 : Nat}, tmpAll all bs j0 os = true → ∀ (j : Nat) (o : Oper), os[j]? = some o → ∀ x ∈ looks all o, tmpOne all bs (j0 + j) x 0 all = true
 | [], _, _, j, o, h, _, _ => by simp at h
 | o0 :: r, j0, h, j, o, ho, x, hx => by
  simp only [tmpAll, Bool.and_eq_true, List.all_eq_true] at h
  cases j with
  | zero => simp at ho; subst ho; exact h.1 x hx
  | succ j =>
   have := tmpAll_spec h.2 j o (by simpa using ho) x hx
   rwa [show j0 + 1 + j = j0 + (j + 1) by omega] at this
end Abs
end Go.Proofs.YtkefgcleaalnnaaGreat
