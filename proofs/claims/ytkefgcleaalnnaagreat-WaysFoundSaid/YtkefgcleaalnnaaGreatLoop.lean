/- Loops whose state is told by what turns in it alone: all else is as at the begin. -/
import Derived.Test.YtkefgcleaalnnaaGreatAbsZ
namespace Go.Proofs.YtkefgcleaalnnaaGreat
set_option linter.unusedVariables false
set_option linter.unusedSimpArgs false
namespace Abs

section
variable {h : Nat → Option Ob} {g : Nat → Option Nat}
mutual
theorem rnV_ex : ∀ (v : V) {k : V → Prop}, rnV g v k → ∃ v', k v' ∧ ∀ k' : V → Prop, k' v' → rnV g v k'
 | .row l, k, hk => by
  simp only [rnV] at hk ⊢
  split at hk
  ·exact ⟨_, hk, fun k' h => by simp [*]⟩
  ·cases hk
 | .mp l, k, hk => by
  simp only [rnV] at hk ⊢
  split at hk
  ·exact ⟨_, hk, fun k' h => by simp [*]⟩
  ·cases hk
 | .ptr l o, k, hk => by
  simp only [rnV] at hk ⊢
  split at hk
  ·exact ⟨_, hk, fun k' h => by simp [*]⟩
  ·cases hk
 | .eptr l a b c, k, hk => by
  simp only [rnV] at hk ⊢
  split at hk
  ·exact ⟨_, hk, fun k' h => by simp [*]⟩
  ·cases hk
 | .vw l a b c, k, hk => by
  simp only [rnV] at hk ⊢
  split at hk
  ·exact ⟨_, hk, fun k' h => by simp [*]⟩
  ·cases hk
 | .inn l a b, k, hk => by
  simp only [rnV] at hk ⊢
  split at hk
  ·exact ⟨_, hk, fun k' h => by simp [*]⟩
  ·cases hk
 | .iptr l a b c d e, k, hk => by
  simp only [rnV] at hk ⊢
  split at hk
  ·exact ⟨_, hk, fun k' h => by simp [*]⟩
  ·cases hk
 | .fn f caps, k, hk => by
  simp only [rnV] at hk ⊢
  obtain ⟨v', h1, h2⟩ := rnVs_ex caps hk
  exact ⟨_, h1, fun k' h => h2 (fun caps => k' (.fn f caps)) h⟩
 | .int a b, k, hk => ⟨_, hk, fun _ h => h⟩
 | .bool b, k, hk => ⟨_, hk, fun _ h => h⟩
 | .tt, k, hk => ⟨_, hk, fun _ h => h⟩
 | .ff, k, hk => ⟨_, hk, fun _ h => h⟩
 | .str s, k, hk => ⟨_, hk, fun _ h => h⟩
 | .nils, k, hk => ⟨_, hk, fun _ h => h⟩
 | .nilp, k, hk => ⟨_, hk, fun _ h => h⟩
 | .nilf, k, hk => ⟨_, hk, fun _ h => h⟩
 | .nili, k, hk => ⟨_, hk, fun _ h => h⟩
 | .nilm, k, hk => ⟨_, hk, fun _ h => h⟩
 | .lst a b, k, hk => ⟨_, hk, fun _ h => h⟩
 | .cptr a, k, hk => ⟨_, hk, fun _ h => h⟩
 | .cmap a, k, hk => ⟨_, hk, fun _ h => h⟩
 | .bot, k, hk => ⟨_, hk, fun _ h => h⟩
theorem rnVs_ex : ∀ (vs : List V) {k : List V → Prop}, rnV.rnVs g vs k → ∃ v', k v' ∧ ∀ k' : List V → Prop, k' v' → rnV.rnVs g vs k'
 | [], k, hk => ⟨_, hk, fun _ h => h⟩
 | v :: r, k, hk => by
  simp only [rnV.rnVs] at hk ⊢
  obtain ⟨v', h1, h2⟩ := rnV_ex v hk
  obtain ⟨r', h3, h4⟩ := rnVs_ex r h1
  exact ⟨_, h3, fun k' h => h2 _ (h4 (fun r => k' (v' :: r)) h)⟩
end
mutual
theorem rnS_ex : ∀ (v : S) {k : S → Prop}, rnS g v k → ∃ v', k v' ∧ ∀ k' : S → Prop, k' v' → rnS g v k'
 | .c v, k, hk => by
  simp only [rnS] at hk ⊢
  obtain ⟨v', h1, h2⟩ := rnV_ex v hk
  exact ⟨_, h1, fun k' h => h2 (fun v => k' (.c v)) h⟩
 | .agg v, k, hk => by
  simp only [rnS] at hk ⊢
  obtain ⟨v', h1, h2⟩ := rnVs_ex v hk
  exact ⟨_, h1, fun k' h => h2 (fun v => k' (.agg v)) h⟩
 | .tup v, k, hk => by
  simp only [rnS] at hk ⊢
  obtain ⟨v', h1, h2⟩ := rnSs_ex v hk
  exact ⟨_, h1, fun k' h => h2 (fun v => k' (.tup v)) h⟩
 | .bot, k, hk => ⟨_, hk, fun _ h => h⟩
theorem rnSs_ex : ∀ (vs : List S) {k : List S → Prop}, rnS.rnSs g vs k → ∃ v', k v' ∧ ∀ k' : List S → Prop, k' v' → rnS.rnSs g vs k'
 | [], k, hk => ⟨_, hk, fun _ h => h⟩
 | v :: r, k, hk => by
  simp only [rnS.rnSs] at hk ⊢
  obtain ⟨v', h1, h2⟩ := rnS_ex v hk
  obtain ⟨r', h3, h4⟩ := rnSs_ex r h1
  exact ⟨_, h3, fun k' h => h2 _ (h4 (fun r => k' (v' :: r)) h)⟩
end
theorem rnO_ex (o : Ob) {k : Ob → Prop} (hk : rnO g o k) : ∃ v', k v' ∧ ∀ k' : Ob → Prop, k' v' → rnO g o k' := by
 cases o with
 | box cs =>
  simp only [rnO] at hk ⊢
  obtain ⟨v', h1, h2⟩ := rnVs_ex cs hk
  exact ⟨_, h1, fun k' h => h2 (fun v => k' (.box v _)) h⟩
 | iter l a b =>
  simp only [rnO] at hk ⊢
  split at hk
  ·exact ⟨_, hk, fun k' h => by simp [*]⟩
  ·cases hk
 | pmap q p c a =>
  simp only [rnO] at hk ⊢
  cases q <;> simp only [cond_true, cond_false] at hk ⊢
  ·split at hk
   ·exact ⟨_, hk, fun k' h => by simp [*]⟩
   ·cases hk
 | _ => exact ⟨_, hk, fun _ h => h⟩
theorem rnOs_ex : ∀ (vs : List Ob) {k : List Ob → Prop}, rnOs g vs k → ∃ v', k v' ∧ ∀ k' : List Ob → Prop, k' v' → rnOs g vs k'
 | [], k, hk => ⟨_, hk, fun _ h => h⟩
 | v :: r, k, hk => by
  simp only [rnOs] at hk ⊢
  obtain ⟨v', h1, h2⟩ := rnO_ex v hk
  obtain ⟨r', h3, h4⟩ := rnOs_ex r h1
  exact ⟨_, h3, fun k' h => h2 _ (h4 (fun r => k' (v' :: r)) h)⟩
theorem getAll_ex : ∀ (ids : List Nat) {k : List Ob → Prop}, getAll h ids k → ∃ v', k v' ∧ ∀ k' : List Ob → Prop, k' v' → getAll h ids k'
 | [], k, hk => ⟨_, hk, fun _ h => h⟩
 | l :: r, k, hk => by
  simp only [getAll] at hk ⊢
  cases hl : h l with
  | none => simp [hl] at hk
  | some o =>
   simp only [hl] at hk ⊢
   obtain ⟨v', h1, h2⟩ := getAll_ex r hk
   exact ⟨_, h1, fun k' h => h2 (fun r => k' (o :: r)) h⟩
theorem norm_ex {m : Nat} {ow : List Own} {cs : List Nat} {σ : St} {K : St → Prop} (hk : norm m ow cs σ K) : ∃ σ0, K σ0 ∧ ∀ K' : St → Prop, K' σ0 → norm m ow cs σ K' := by
 unfold norm anew at hk ⊢
 simp only [forceNs_eq] at hk ⊢
 generalize clo (getA (ownNil σ ow).hp) 60 (conts (getA (ownNil σ ow).hp) (rangeL 0 m) ++ idsS.idsSs (slotsOf (ownNil σ ow) cs) ++ exOf (ownNil σ ow).hp) (rangeL 0 m) = ids at hk ⊢
 cases hb : nodupB ids with
 | false => simp [hb] at hk
 | true =>
  simp only [hb, cond_true] at hk ⊢
  obtain ⟨os, h1, h2⟩ := getAll_ex ids hk
  obtain ⟨vs, h3, h4⟩ := rnSs_ex _ h1
  obtain ⟨os', h5, h6⟩ := rnOs_ex _ h3
  simp only [forceOs_eq, forceN_eq] at h5 h6
  refine ⟨_, h5, fun K' hK => h2 _ (h4 _ (h6 _ ?_))⟩
  simp only [forceOs_eq, forceN_eq]
  exact hK
end

def setAll {α : Type} : List (Nat × α) → List (Nat × α) → List (Nat × α)
 | l, [] => l
 | l, (n, x) :: r => setAll (setA l n x) r
def ovr (σ : St) (fr : List (Nat × S)) (hp : List (Nat × Ob)) : St := match σ with | ⟨f, h, n⟩ => ⟨setAll f fr, setAll h hp, n⟩
structure ForG {A : Type} (m n : Nat) (ow : List Own) (cs : List Nat) (σ0 : St) (body : St → (Exit → St → Prop) → Prop) (Q : Exit → St → Prop) (st : Nat → A → St) (Inv : Nat → A → Prop) (a0 : A) : Prop where
 init : σ0 = st 0 a0
 inv : Inv 0 a0
 step : ∀ k a, k < n → Inv k a → body (st k a) fun e σ' => match e with | .normal => norm m ow cs σ' fun σ'' => ∃ j, j < n - k ∧ CountI n st Inv j σ'' | e => Q e σ'
 fin : ∀ a, Inv n a → body (st n a) fun e σ' => match e with | .normal => norm m ow cs σ' fun σ'' => ∃ j, j < n - n ∧ CountI n st Inv j σ'' | e => Q e σ'
theorem loop_for {m : Nat} {σ : St} {body : St → (Exit → St → Prop) → Prop} {Q : Exit → St → Prop} {A : Type} (n : Nat) (ow : List Own) (cs : List Nat) (fr : Nat → A → List (Nat × S)) (hp : Nat → A → List (Nat × Ob)) (Inv : Nat → A → Prop) (a0 : A)
  (h : norm m ow cs σ fun σ0 => forceStF σ0 fun σ0 => ForG m n ow cs σ0 body Q (fun k a => ovr σ0 (fr k a) (hp k a)) Inv a0) : LoopG m σ body Q := by
 obtain ⟨σ0, hK, hN⟩ := norm_ex h
 rw [forceStF_eq] at hK
 refine .mk ow cs (CountI n (fun k a => ovr σ0 (fr k a) (hp k a)) Inv) n (hN _ ⟨0, a0, Nat.zero_le _, rfl, hK.init, hK.inv⟩) ?_
 rintro j σ ⟨k, a, hk, rfl, rfl, hi⟩
 rcases Nat.lt_or_ge k n with h | h
 ·exact hK.step k a h hi
 ·have : k = n := by omega
  subst this
  exact hK.fin a hi
structure WhileG {A : Type} (m : Nat) (ow : List Own) (cs : List Nat) (σ0 : St) (body : St → (Exit → St → Prop) → Prop) (Q : Exit → St → Prop) (μ : A → Nat) (st : A → St) (Inv : A → Prop) (a0 : A) : Prop where
 init : σ0 = st a0
 inv : Inv a0
 step : ∀ a, Inv a → body (st a) fun e σ' => match e with | .normal => norm m ow cs σ' fun σ'' => ∃ j, j < μ a ∧ MeasI μ st Inv j σ'' | e => Q e σ'
theorem loop_while {m : Nat} {σ : St} {body : St → (Exit → St → Prop) → Prop} {Q : Exit → St → Prop} {A : Type} (μ : A → Nat) (ow : List Own) (cs : List Nat) (fr : A → List (Nat × S)) (hp : A → List (Nat × Ob)) (Inv : A → Prop) (a0 : A)
  (h : norm m ow cs σ fun σ0 => forceStF σ0 fun σ0 => WhileG m ow cs σ0 body Q μ (fun a => ovr σ0 (fr a) (hp a)) Inv a0) : LoopG m σ body Q := by
 obtain ⟨σ0, hK, hN⟩ := norm_ex h
 rw [forceStF_eq] at hK
 refine .mk ow cs (MeasI μ (fun a => ovr σ0 (fr a) (hp a)) Inv) (μ a0) (hN _ ⟨a0, rfl, hK.init, hK.inv⟩) ?_
 rintro j σ ⟨a, rfl, rfl, hi⟩
 exact hK.step a hi
structure ForG2 {A B : Type} (m n : Nat) (ow : List Own) (cs : List Nat) (σ0 : St) (body : St → (Exit → St → Prop) → Prop) (Q : Exit → St → Prop) (st : Nat → A → B → St) (Inv : Nat → A → B → Prop) (a0 : A) (b0 : B) : Prop where
 init : σ0 = st 0 a0 b0
 inv : Inv 0 a0 b0
 step : ∀ k a b, k < n → Inv k a b → body (st k a b) fun e σ' => match e with | .normal => norm m ow cs σ' fun σ'' => ∃ j, j < n - k ∧ CountI n (fun k (p : A × B) => st k p.1 p.2) (fun k p => Inv k p.1 p.2) j σ'' | e => Q e σ'
 fin : ∀ a b, Inv n a b → body (st n a b) fun e σ' => match e with | .normal => norm m ow cs σ' fun σ'' => ∃ j, j < n - n ∧ CountI n (fun k (p : A × B) => st k p.1 p.2) (fun k p => Inv k p.1 p.2) j σ'' | e => Q e σ'
theorem loop_for2 {m : Nat} {σ : St} {body : St → (Exit → St → Prop) → Prop} {Q : Exit → St → Prop} {A B : Type} (n : Nat) (ow : List Own) (cs : List Nat) (fr : Nat → A → B → List (Nat × S)) (hp : Nat → A → B → List (Nat × Ob)) (Inv : Nat → A → B → Prop) (a0 : A) (b0 : B)
  (h : norm m ow cs σ fun σ0 => forceStF σ0 fun σ0 => ForG2 m n ow cs σ0 body Q (fun k a b => ovr σ0 (fr k a b) (hp k a b)) Inv a0 b0) : LoopG m σ body Q :=
 loop_for n ow cs (fun k (p : A × B) => fr k p.1 p.2) (fun k p => hp k p.1 p.2) (fun k p => Inv k p.1 p.2) (a0, b0) (norm_mono (fun σ h => by rw [forceStF_eq] at h ⊢; exact ⟨h.init, h.inv, fun k p => h.step k p.1 p.2, fun p => h.fin p.1 p.2⟩) h)
structure ForG3 {A B C : Type} (m n : Nat) (ow : List Own) (cs : List Nat) (σ0 : St) (body : St → (Exit → St → Prop) → Prop) (Q : Exit → St → Prop) (st : Nat → A → B → C → St) (Inv : Nat → A → B → C → Prop) (a0 : A) (b0 : B) (c0 : C) : Prop where
 init : σ0 = st 0 a0 b0 c0
 inv : Inv 0 a0 b0 c0
 step : ∀ k a b c, k < n → Inv k a b c → body (st k a b c) fun e σ' => match e with | .normal => norm m ow cs σ' fun σ'' => ∃ j, j < n - k ∧ CountI n (fun k (p : A × B × C) => st k p.1 p.2.1 p.2.2) (fun k p => Inv k p.1 p.2.1 p.2.2) j σ'' | e => Q e σ'
 fin : ∀ a b c, Inv n a b c → body (st n a b c) fun e σ' => match e with | .normal => norm m ow cs σ' fun σ'' => ∃ j, j < n - n ∧ CountI n (fun k (p : A × B × C) => st k p.1 p.2.1 p.2.2) (fun k p => Inv k p.1 p.2.1 p.2.2) j σ'' | e => Q e σ'
theorem loop_for3 {m : Nat} {σ : St} {body : St → (Exit → St → Prop) → Prop} {Q : Exit → St → Prop} {A B C : Type} (n : Nat) (ow : List Own) (cs : List Nat) (fr : Nat → A → B → C → List (Nat × S)) (hp : Nat → A → B → C → List (Nat × Ob)) (Inv : Nat → A → B → C → Prop) (a0 : A) (b0 : B) (c0 : C)
  (h : norm m ow cs σ fun σ0 => forceStF σ0 fun σ0 => ForG3 m n ow cs σ0 body Q (fun k a b c => ovr σ0 (fr k a b c) (hp k a b c)) Inv a0 b0 c0) : LoopG m σ body Q :=
 loop_for n ow cs (fun k (p : A × B × C) => fr k p.1 p.2.1 p.2.2) (fun k p => hp k p.1 p.2.1 p.2.2) (fun k p => Inv k p.1 p.2.1 p.2.2) (a0, b0, c0) (norm_mono (fun σ h => by rw [forceStF_eq] at h ⊢; exact ⟨h.init, h.inv, fun k p => h.step k p.1 p.2.1 p.2.2, fun p => h.fin p.1 p.2.1 p.2.2⟩) h)
structure WhileG2 {A B : Type} (m : Nat) (ow : List Own) (cs : List Nat) (σ0 : St) (body : St → (Exit → St → Prop) → Prop) (Q : Exit → St → Prop) (μ : A → B → Nat) (st : A → B → St) (Inv : A → B → Prop) (a0 : A) (b0 : B) : Prop where
 init : σ0 = st a0 b0
 inv : Inv a0 b0
 step : ∀ a b, Inv a b → body (st a b) fun e σ' => match e with | .normal => norm m ow cs σ' fun σ'' => ∃ j, j < μ a b ∧ MeasI (fun p : A × B => μ p.1 p.2) (fun p => st p.1 p.2) (fun p => Inv p.1 p.2) j σ'' | e => Q e σ'
theorem loop_while2 {m : Nat} {σ : St} {body : St → (Exit → St → Prop) → Prop} {Q : Exit → St → Prop} {A B : Type} (μ : A → B → Nat) (ow : List Own) (cs : List Nat) (fr : A → B → List (Nat × S)) (hp : A → B → List (Nat × Ob)) (Inv : A → B → Prop) (a0 : A) (b0 : B)
  (h : norm m ow cs σ fun σ0 => forceStF σ0 fun σ0 => WhileG2 m ow cs σ0 body Q μ (fun a b => ovr σ0 (fr a b) (hp a b)) Inv a0 b0) : LoopG m σ body Q :=
 loop_while (fun p : A × B => μ p.1 p.2) ow cs (fun p => fr p.1 p.2) (fun p => hp p.1 p.2) (fun p => Inv p.1 p.2) (a0, b0) (norm_mono (fun σ h => by rw [forceStF_eq] at h ⊢; exact ⟨h.init, h.inv, fun p => h.step p.1 p.2⟩) h)
structure WhileG3 {A B C : Type} (m : Nat) (ow : List Own) (cs : List Nat) (σ0 : St) (body : St → (Exit → St → Prop) → Prop) (Q : Exit → St → Prop) (μ : A → B → C → Nat) (st : A → B → C → St) (Inv : A → B → C → Prop) (a0 : A) (b0 : B) (c0 : C) : Prop where
 init : σ0 = st a0 b0 c0
 inv : Inv a0 b0 c0
 step : ∀ a b c, Inv a b c → body (st a b c) fun e σ' => match e with | .normal => norm m ow cs σ' fun σ'' => ∃ j, j < μ a b c ∧ MeasI (fun p : A × B × C => μ p.1 p.2.1 p.2.2) (fun p => st p.1 p.2.1 p.2.2) (fun p => Inv p.1 p.2.1 p.2.2) j σ'' | e => Q e σ'
theorem loop_while3 {m : Nat} {σ : St} {body : St → (Exit → St → Prop) → Prop} {Q : Exit → St → Prop} {A B C : Type} (μ : A → B → C → Nat) (ow : List Own) (cs : List Nat) (fr : A → B → C → List (Nat × S)) (hp : A → B → C → List (Nat × Ob)) (Inv : A → B → C → Prop) (a0 : A) (b0 : B) (c0 : C)
  (h : norm m ow cs σ fun σ0 => forceStF σ0 fun σ0 => WhileG3 m ow cs σ0 body Q μ (fun a b c => ovr σ0 (fr a b c) (hp a b c)) Inv a0 b0 c0) : LoopG m σ body Q :=
 loop_while (fun p : A × B × C => μ p.1 p.2.1 p.2.2) ow cs (fun p => fr p.1 p.2.1 p.2.2) (fun p => hp p.1 p.2.1 p.2.2) (fun p => Inv p.1 p.2.1 p.2.2) (a0, b0, c0) (norm_mono (fun σ h => by rw [forceStF_eq] at h ⊢; exact ⟨h.init, h.inv, fun p => h.step p.1 p.2.1 p.2.2⟩) h)
end Abs
end Go.Proofs.YtkefgcleaalnnaaGreat
