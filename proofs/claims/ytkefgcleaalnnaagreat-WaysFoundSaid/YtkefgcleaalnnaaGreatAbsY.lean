/- Loops that count, loops with a measure; maps that hold typed entries. -/
import Derived.Test.YtkefgcleaalnnaaGreatAbsW
import Derived.IntWalk
namespace Go.Proofs.YtkefgcleaalnnaaGreat
set_option linter.unusedVariables false
set_option linter.unusedSimpArgs false
namespace Abs

section
variable {h : Nat → Option Ob} {g : Nat → Option Nat}
mutual
theorem rnV_mono : ∀ (v : V) {k k' : V → Prop}, (∀ v, k v → k' v) → rnV g v k → rnV g v k'
 | .row l, k, k', hm, hk => by simp only [rnV] at hk ⊢; split <;> simp_all
 | .mp l, k, k', hm, hk => by simp only [rnV] at hk ⊢; split <;> simp_all
 | .ptr l o, k, k', hm, hk => by simp only [rnV] at hk ⊢; split <;> simp_all
 | .eptr l a b c, k, k', hm, hk => by simp only [rnV] at hk ⊢; split <;> simp_all
 | .vw l a b c, k, k', hm, hk => by simp only [rnV] at hk ⊢; split <;> simp_all
 | .inn l a b, k, k', hm, hk => by simp only [rnV] at hk ⊢; split <;> simp_all
 | .iptr l a b c d e, k, k', hm, hk => by simp only [rnV] at hk ⊢; split <;> simp_all
 | .fn f caps, k, k', hm, hk => by simp only [rnV] at hk ⊢; exact rnVs_mono caps (fun v => hm _) hk
 | .int a b, k, k', hm, hk => hm _ hk
 | .bool b, k, k', hm, hk => hm _ hk
 | .tt, k, k', hm, hk => hm _ hk
 | .ff, k, k', hm, hk => hm _ hk
 | .str s, k, k', hm, hk => hm _ hk
 | .nils, k, k', hm, hk => hm _ hk
 | .nilp, k, k', hm, hk => hm _ hk
 | .nilf, k, k', hm, hk => hm _ hk
 | .nili, k, k', hm, hk => hm _ hk
 | .nilm, k, k', hm, hk => hm _ hk
 | .lst a b, k, k', hm, hk => hm _ hk
 | .cptr a, k, k', hm, hk => hm _ hk
 | .cmap a, k, k', hm, hk => hm _ hk
 | .bot, k, k', hm, hk => hm _ hk
theorem rnVs_mono : ∀ (vs : List V) {k k' : List V → Prop}, (∀ v, k v → k' v) → rnV.rnVs g vs k → rnV.rnVs g vs k'
 | [], k, k', hm, hk => hm _ hk
 | v :: r, k, k', hm, hk => by
  simp only [rnV.rnVs] at hk ⊢
  exact rnV_mono v (fun v hv => rnVs_mono r (fun r hr => hm _ hr) hv) hk
end
mutual
theorem rnS_mono : ∀ (v : S) {k k' : S → Prop}, (∀ v, k v → k' v) → rnS g v k → rnS g v k'
 | .c v, k, k', hm, hk => by simp only [rnS] at hk ⊢; exact rnV_mono v (fun v => hm _) hk
 | .agg v, k, k', hm, hk => by simp only [rnS] at hk ⊢; exact rnVs_mono v (fun v => hm _) hk
 | .tup v, k, k', hm, hk => by simp only [rnS] at hk ⊢; exact rnSs_mono v (fun v => hm _) hk
 | .bot, k, k', hm, hk => hm _ hk
theorem rnSs_mono : ∀ (vs : List S) {k k' : List S → Prop}, (∀ v, k v → k' v) → rnS.rnSs g vs k → rnS.rnSs g vs k'
 | [], k, k', hm, hk => hm _ hk
 | v :: r, k, k', hm, hk => by
  simp only [rnS.rnSs] at hk ⊢
  exact rnS_mono v (fun v hv => rnSs_mono r (fun r hr => hm _ hr) hv) hk
end
theorem rnO_mono (o : Ob) {k k' : Ob → Prop} (hm : ∀ o, k o → k' o) (hk : rnO g o k) : rnO g o k' := by
 cases o with
 | box cs t => simp only [rnO] at hk ⊢; exact rnVs_mono cs (fun v => hm _) hk
 | iter l a b => simp only [rnO] at hk ⊢; split <;> simp_all
 | pmap q p c a => simp only [rnO] at hk ⊢; cases q <;> simp only [cond_true, cond_false] at hk ⊢; split <;> simp_all
 | _ => exact hm _ hk
theorem rnOs_mono : ∀ (vs : List Ob) {k k' : List Ob → Prop}, (∀ v, k v → k' v) → rnOs g vs k → rnOs g vs k'
 | [], k, k', hm, hk => hm _ hk
 | v :: r, k, k', hm, hk => by
  simp only [rnOs] at hk ⊢
  exact rnO_mono v (fun v hv => rnOs_mono r (fun r hr => hm _ hr) hv) hk
theorem getAll_mono : ∀ (ids : List Nat) {k k' : List Ob → Prop}, (∀ v, k v → k' v) → getAll h ids k → getAll h ids k'
 | [], k, k', hm, hk => hm _ hk
 | l :: r, k, k', hm, hk => by
  simp only [getAll] at hk ⊢
  cases hl : h l with
  | none => simp [hl] at hk
  | some o => simp only [hl] at hk ⊢; exact getAll_mono r (fun r hr => hm _ hr) hk
theorem norm_mono {m : Nat} {ow : List Own} {cs : List Nat} {σ : St} {K K' : St → Prop} (hm : ∀ σ, K σ → K' σ) (hk : norm m ow cs σ K) : norm m ow cs σ K' := by
 unfold norm anew at hk ⊢
 simp only [forceNs_eq] at hk ⊢
 generalize clo (getA (ownNil σ ow).hp) 60 (conts (getA (ownNil σ ow).hp) (rangeL 0 m) ++ idsS.idsSs (slotsOf (ownNil σ ow) cs) ++ exOf (ownNil σ ow).hp) (rangeL 0 m) = ids at hk ⊢
 cases hb : nodupB ids with
 | false => simp [hb] at hk
 | true =>
  simp only [hb, cond_true] at hk ⊢
  refine getAll_mono ids (fun os => rnSs_mono _ fun vs => rnOs_mono _ fun os => ?_) hk
  simp only [forceOs_eq, forceN_eq]
  exact fun hk => hm _ hk
end

def CountI {A : Type} (n : Nat) (st : Nat → A → St) (Inv : Nat → A → Prop) (j : Nat) (σ : St) : Prop := ∃ k a, k ≤ n ∧ j = n - k ∧ σ = st k a ∧ Inv k a
theorem count_next {A : Type} {n : Nat} {st : Nat → A → St} {Inv : Nat → A → Prop} {k : Nat} (a : A) {σ : St} (hk : k < n) (hs : σ = st (k + 1) a) (hi : Inv (k + 1) a) : ∃ j, j < n - k ∧ CountI n st Inv j σ := ⟨n - (k + 1), by omega, k + 1, a, by omega, rfl, hs, hi⟩
theorem loop_count {m : Nat} {σ : St} {body : St → (Exit → St → Prop) → Prop} {Q : Exit → St → Prop} {A : Type} (n : Nat) (ow : List Own) (cs : List Nat) (st : Nat → A → St) (Inv : Nat → A → Prop) (a0 : A) (h0 : norm m ow cs σ fun σ' => σ' = st 0 a0 ∧ Inv 0 a0)
  (step : ∀ k a, k < n → Inv k a → body (st k a) fun e σ' => match e with | .normal => norm m ow cs σ' fun σ'' => ∃ j, j < n - k ∧ CountI n st Inv j σ'' | e => Q e σ')
  (fin : ∀ a, Inv n a → body (st n a) fun e σ' => match e with | .normal => norm m ow cs σ' fun σ'' => ∃ j, j < n - n ∧ CountI n st Inv j σ'' | e => Q e σ') : LoopG m σ body Q := by
 refine .mk ow cs (CountI n st Inv) n (norm_mono (fun σ' h => ⟨0, a0, Nat.zero_le _, rfl, h.1, h.2⟩) h0) ?_
 rintro j σ ⟨k, a, hk, rfl, rfl, hi⟩
 rcases Nat.lt_or_ge k n with h | h
 ·exact step k a h hi
 ·have : k = n := by omega
  subst this
  exact fin a hi
def MeasI {A : Type} (μ : A → Nat) (st : A → St) (Inv : A → Prop) (j : Nat) (σ : St) : Prop := ∃ a, j = μ a ∧ σ = st a ∧ Inv a
theorem meas_next {A : Type} {μ : A → Nat} {st : A → St} {Inv : A → Prop} {n : Nat} (a : A) {σ : St} (hm : μ a < n) (hs : σ = st a) (hi : Inv a) : ∃ j, j < n ∧ MeasI μ st Inv j σ := ⟨μ a, hm, a, rfl, hs, hi⟩
theorem loop_meas {m : Nat} {σ : St} {body : St → (Exit → St → Prop) → Prop} {Q : Exit → St → Prop} {A : Type} (μ : A → Nat) (ow : List Own) (cs : List Nat) (st : A → St) (Inv : A → Prop) (a0 : A) (h0 : norm m ow cs σ fun σ' => σ' = st a0 ∧ Inv a0)
  (step : ∀ a, Inv a → body (st a) fun e σ' => match e with | .normal => norm m ow cs σ' fun σ'' => ∃ j, j < μ a ∧ MeasI μ st Inv j σ'' | e => Q e σ') : LoopG m σ body Q := by
 refine .mk ow cs (MeasI μ st Inv) (μ a0) (norm_mono (fun σ' h => ⟨a0, rfl, h.1, h.2⟩) h0) ?_
 rintro j σ ⟨a, rfl, rfl, hi⟩
 exact step a hi

theorem loop_count2 {m : Nat} {σ : St} {body : St → (Exit → St → Prop) → Prop} {Q : Exit → St → Prop} {A B : Type} (n : Nat) (ow : List Own) (cs : List Nat) (st : Nat → A → B → St) (Inv : Nat → A → B → Prop) (a0 : A) (b0 : B) (h0 : norm m ow cs σ fun σ' => σ' = st 0 a0 b0 ∧ Inv 0 a0 b0)
  (step : ∀ k a b, k < n → Inv k a b → body (st k a b) fun e σ' => match e with | .normal => norm m ow cs σ' fun σ'' => ∃ j, j < n - k ∧ CountI n (fun k (p : A × B) => st k p.1 p.2) (fun k p => Inv k p.1 p.2) j σ'' | e => Q e σ')
  (fin : ∀ a b, Inv n a b → body (st n a b) fun e σ' => match e with | .normal => norm m ow cs σ' fun σ'' => ∃ j, j < n - n ∧ CountI n (fun k (p : A × B) => st k p.1 p.2) (fun k p => Inv k p.1 p.2) j σ'' | e => Q e σ') : LoopG m σ body Q :=
 loop_count n ow cs (fun k (p : A × B) => st k p.1 p.2) (fun k p => Inv k p.1 p.2) (a0, b0) h0 (fun k p => step k p.1 p.2) (fun p => fin p.1 p.2)
theorem loop_meas2 {m : Nat} {σ : St} {body : St → (Exit → St → Prop) → Prop} {Q : Exit → St → Prop} {A B : Type} (μ : A → B → Nat) (ow : List Own) (cs : List Nat) (st : A → B → St) (Inv : A → B → Prop) (a0 : A) (b0 : B) (h0 : norm m ow cs σ fun σ' => σ' = st a0 b0 ∧ Inv a0 b0)
  (step : ∀ a b, Inv a b → body (st a b) fun e σ' => match e with | .normal => norm m ow cs σ' fun σ'' => ∃ j, j < μ a b ∧ MeasI (fun p : A × B => μ p.1 p.2) (fun p => st p.1 p.2) (fun p => Inv p.1 p.2) j σ'' | e => Q e σ') : LoopG m σ body Q :=
 loop_meas (fun p : A × B => μ p.1 p.2) ow cs (fun p => st p.1 p.2) (fun p => Inv p.1 p.2) (a0, b0) h0 (fun p => step p.1 p.2)
theorem loop_count3 {m : Nat} {σ : St} {body : St → (Exit → St → Prop) → Prop} {Q : Exit → St → Prop} {A B C : Type} (n : Nat) (ow : List Own) (cs : List Nat) (st : Nat → A → B → C → St) (Inv : Nat → A → B → C → Prop) (a0 : A) (b0 : B) (c0 : C) (h0 : norm m ow cs σ fun σ' => σ' = st 0 a0 b0 c0 ∧ Inv 0 a0 b0 c0)
  (step : ∀ k a b c, k < n → Inv k a b c → body (st k a b c) fun e σ' => match e with | .normal => norm m ow cs σ' fun σ'' => ∃ j, j < n - k ∧ CountI n (fun k (p : A × B × C) => st k p.1 p.2.1 p.2.2) (fun k p => Inv k p.1 p.2.1 p.2.2) j σ'' | e => Q e σ')
  (fin : ∀ a b c, Inv n a b c → body (st n a b c) fun e σ' => match e with | .normal => norm m ow cs σ' fun σ'' => ∃ j, j < n - n ∧ CountI n (fun k (p : A × B × C) => st k p.1 p.2.1 p.2.2) (fun k p => Inv k p.1 p.2.1 p.2.2) j σ'' | e => Q e σ') : LoopG m σ body Q :=
 loop_count n ow cs (fun k (p : A × B × C) => st k p.1 p.2.1 p.2.2) (fun k p => Inv k p.1 p.2.1 p.2.2) (a0, b0, c0) h0 (fun k p => step k p.1 p.2.1 p.2.2) (fun p => fin p.1 p.2.1 p.2.2)
theorem loop_meas3 {m : Nat} {σ : St} {body : St → (Exit → St → Prop) → Prop} {Q : Exit → St → Prop} {A B C : Type} (μ : A → B → C → Nat) (ow : List Own) (cs : List Nat) (st : A → B → C → St) (Inv : A → B → C → Prop) (a0 : A) (b0 : B) (c0 : C) (h0 : norm m ow cs σ fun σ' => σ' = st a0 b0 c0 ∧ Inv a0 b0 c0)
  (step : ∀ a b c, Inv a b c → body (st a b c) fun e σ' => match e with | .normal => norm m ow cs σ' fun σ'' => ∃ j, j < μ a b c ∧ MeasI (fun p : A × B × C => μ p.1 p.2.1 p.2.2) (fun p => st p.1 p.2.1 p.2.2) (fun p => Inv p.1 p.2.1 p.2.2) j σ'' | e => Q e σ') : LoopG m σ body Q :=
 loop_meas (fun p : A × B × C => μ p.1 p.2.1 p.2.2) ow cs (fun p => st p.1 p.2.1 p.2.2) (fun p => Inv p.1 p.2.1 p.2.2) (a0, b0, c0) h0 (fun p => step p.1 p.2.1 p.2.2)

theorem wrap_succ {k n : Nat} (hk : k < n) (hn : n ≤ 1000000000000) : IntKind.i64.wrap ((k : Int) + 1) = ((k + 1 : Nat) : Int) := by rw [IntWalk.i64_in _ ⟨by omega, by omega⟩]; rfl
theorem wrap_in {x : Int} (h1 : -9000000000000000000 ≤ x) (h2 : x ≤ 9000000000000000000) : IntKind.i64.wrap x = x := IntWalk.i64_in _ ⟨by omega, by omega⟩

theorem idx_map {α : Type} {enc : α → List V} {l : List α} {i : Int} {k : List V → Prop} (j : Nat) (hj : j < l.length) (hi : i = (j : Int)) (hk : k (enc l[j])) : IdxG (l.map enc) i k := by
 subst hi
 exact .mk _ ⟨by omega, by simp [hj]⟩ hk
theorem idx_at {α : Type} {enc : α → List V} {l : List α} {i : Int} {k : List V → Prop} (j : Nat) (hi : i = (j : Int)) (hj : j < l.length) (hk : k (enc l[j])) : IdxG (l.map enc) i k := idx_map j hj hi hk
theorem row_map {α : Type} {enc : α → List V} {l : List α} {j : Nat} {k : List V → Prop} (hj : j < l.length) (hk : k (enc l[j])) : RowG (l.map enc) j k := .mk _ (by simp [hj]) hk

theorem row_set {l : List (List V)} {x : List V} {j : Nat} {k : List V → Prop} (hj : j < l.length) (hk : k x) : RowG (l.set j x) j k := .mk _ (by simp [hj]) hk

def mget {κ β : Type} [DecidableEq κ] (m : List (κ × β)) (x : κ) : Option β := (m.find? fun p => decide (p.1 = x)).map (·.2)
def mput {κ β : Type} [DecidableEq κ] : List (κ × β) → κ → β → List (κ × β)
 | [], x, y => [(x, y)]
 | p :: r, x, y => if p.1 = x then (x, y) :: r else p :: mput r x y
def mdel {κ β : Type} [DecidableEq κ] : List (κ × β) → κ → List (κ × β)
 | [], _ => []
 | p :: r, x => if p.1 = x then r else p :: mdel r x
structure KeyEnc {κ : Type} [DecidableEq κ] (q : S → S → Option Bool) (ek : κ → S) : Prop where
 eq : ∀ x y, q (ek x) (ek y) = some (decide (x = y))
 same : ∀ x, sameK (ek x) (ek x)
structure MapIs {κ β : Type} (ek : κ → S) (ev : β → S) (m : List (κ × β)) (clock : Nat) (es : Ents) : Prop where
 vals : es.map (fun e => e.2) = m.map (fun p => (ek p.1, ev p.2))
 lt : ∀ e ∈ es, e.1 < clock
 nd : (es.map (·.1)).Nodup
 kn : (m.map (·.1)).Nodup
set_option linter.unusedSectionVars false
section
variable {q : S → S → Option Bool} {κ β : Type} [DecidableEq κ] {ek : κ → S} {ev : β → S}

theorem mapIs_nil : MapIs ek ev ([] : List (κ × β)) 0 [] := ⟨rfl, by simp, by simp, by simp⟩
theorem mapIs_len {m : List (κ × β)} {clock : Nat} {es : Ents} (h : MapIs ek ev m clock es) : es.length = m.length := by
 have := congrArg List.length h.vals
 simpa using this

theorem mem_mput {m : List (κ × β)} {x : κ} {y : β} {z : κ} (h : z ∈ (mput m x y).map (·.1)) : z = x ∨ z ∈ m.map (·.1) := by
 induction m with
 | nil => simp [mput] at h; exact .inl h
 | cons p r ih =>
  by_cases hp : p.1 = x
  ·simp only [mput, if_pos hp, List.map_cons, List.mem_cons] at h ⊢
   rcases h with h | h
   ·exact .inl h
   ·exact .inr (.inr h)
  ·simp only [mput, if_neg hp, List.map_cons, List.mem_cons] at h ⊢
   rcases h with h | h
   ·exact .inr (.inl h)
   ·rcases ih h with h | h
    ·exact .inl h
    ·exact .inr (.inr h)
theorem mput_nodup {m : List (κ × β)} {x : κ} {y : β} (h : (m.map (·.1)).Nodup) : ((mput m x y).map (·.1)).Nodup := by
 induction m with
 | nil => simp [mput]
 | cons p r ih =>
  rw [List.map_cons, List.nodup_cons] at h
  by_cases hp : p.1 = x
  ·simp only [mput, if_pos hp, List.map_cons, List.nodup_cons]
   exact ⟨hp ▸ h.1, h.2⟩
  ·simp only [mput, if_neg hp, List.map_cons, List.nodup_cons]
   refine ⟨fun hm => ?_, ih h.2⟩
   rcases mem_mput hm with h1 | h1
   ·exact hp h1
   ·exact h.1 h1
theorem mdel_sub {m : List (κ × β)} {x : κ} : (mdel m x).Sublist m := by
 induction m with
 | nil => exact List.Sublist.refl _
 | cons p r ih =>
  by_cases hp : p.1 = x
  ·simp only [mdel, if_pos hp]; exact List.sublist_cons_self _ _
  ·simp only [mdel, if_neg hp]; exact ih.cons_cons _
theorem findM_map (hk : KeyEnc q ek) (x : κ) : ∀ (m : List (κ × β)) (es : Ents) (i : Nat), es.map (fun e => e.2) = m.map (fun p => (ek p.1, ev p.2)) →
  (mget m x = none ∧ findM q (ek x) es i = some none ∧ ∀ y, mput m x y = m ++ [(x, y)] ∧ mdel m x = m) ∨
  (∃ j n v, mget m x = some v ∧ findM q (ek x) es i = some (some (i + j, n, ev v)) ∧ es[j]? = some (n, ek x, ev v) ∧ (∀ y, (es.set j (n, ek x, ev y)).map (fun e => e.2) = (mput m x y).map (fun p => (ek p.1, ev p.2))) ∧ (es.eraseIdx j).map (fun e => e.2) = (mdel m x).map (fun p => (ek p.1, ev p.2)))
 | [], es, i, h => by
  have : es = [] := by simpa using h
  subst this
  exact .inl ⟨rfl, rfl, fun y => ⟨rfl, rfl⟩⟩
 | p :: m, [], i, h => by simp at h
 | p :: m, e :: es, i, h => by
  simp only [List.map_cons, List.cons.injEq] at h
  obtain ⟨h1, h2⟩ := h
  have he : e.2.1 = ek p.1 := by rw [h1]
  have he2 : e.2.2 = ev p.2 := by rw [h1]
  have hq : q (ek x) e.2.1 = some (decide (x = p.1)) := by rw [he]; exact hk.eq _ _
  by_cases hx : p.1 = x
  ·right
   refine ⟨0, e.1, p.2, by simp [mget, hx], ?_, ?_, ?_, ?_⟩
   ·simp [findM, hq, hx, he2]
   ·rw [← hx, ← he, ← he2]; rfl
   ·intro y; simp [mput, hx, h2]
   ·simp [mdel, hx, h2]
  ·have hx' : ¬ x = p.1 := fun e => hx e.symm
   have hg : mget (p :: m) x = mget m x := by simp [mget, List.find?_cons, hx]
   have hf : findM q (ek x) (e :: es) i = findM q (ek x) es (i + 1) := by simp [findM, hq, hx']
   rcases findM_map hk x m es (i + 1) h2 with ⟨g1, g2, g3⟩ | ⟨j, n, v, g1, g2, g3, g4, g5⟩
   ·left
    refine ⟨by rw [hg, g1], by rw [hf, g2], fun y => ⟨?_, ?_⟩⟩
    ·simp [mput, hx, (g3 y).1]
    ·simp [mdel, hx, (g3 y).2]
   ·right
    refine ⟨j + 1, n, v, by rw [hg, g1], by rw [hf, g2, show i + 1 + j = i + (j + 1) by omega], by simpa using g3, ?_, ?_⟩
    ·intro y; simp only [List.set_cons_succ, List.map_cons, g4 y, mput, if_neg hx, h1]
    ·simp only [List.eraseIdx_cons_succ, List.map_cons, g5, mdel, if_neg hx, h1]

theorem MapIs.look (hk : KeyEnc q ek) {m : List (κ × β)} {clock : Nat} {es : Ents} (h : MapIs ek ev m clock es) (x : κ) (z : β) {zs : S} (hz : zs = ev z) {k : S → Bool → Prop} (hq : k (ev ((mget m x).getD z)) (mget m x).isSome) : LookG (findM q (ek x) es 0) zs k := by
 subst hz
 rcases findM_map (ev := ev) hk x m es 0 h.vals with ⟨g1, g2, _⟩ | ⟨j, n, v, g1, g2, _⟩
 ·refine .mk _ _ (.inr ⟨g2, rfl, rfl⟩) ?_
  rw [g1] at hq; exact hq
 ·refine .mk _ _ (.inl ⟨_, n, g2, rfl⟩) ?_
  rw [g1] at hq; exact hq
theorem born_set {es : Ents} {j n : Nat} {x y : S × S} (h : es[j]? = some (n, x)) : (es.set j (n, y)).map (·.1) = es.map (·.1) := by
 apply List.ext_getElem?
 intro i
 simp only [List.getElem?_map, List.getElem?_set]
 by_cases e : j = i
 ·subst e
  have hj := (List.getElem?_eq_some_iff.1 h).1
  simp only [if_true, hj, h, Option.map_some]
 ·simp [e]
theorem mapIs_set {m m' : List (κ × β)} {clock : Nat} {es : Ents} (h : MapIs ek ev m clock es) {j n : Nat} {x y : S × S} (hj : es[j]? = some (n, x)) (hv : (es.set j (n, y)).map (fun e => e.2) = m'.map (fun p => (ek p.1, ev p.2))) (hkn : (m'.map (·.1)).Nodup) : MapIs ek ev m' clock (es.set j (n, y)) := by
 refine ⟨hv, ?_, by rw [born_set hj]; exact h.nd, hkn⟩
 intro e he
 rcases List.mem_or_eq_of_mem_set he with h1 | rfl
 ·exact h.lt e h1
 ·exact h.lt (n, x) (List.mem_of_getElem? hj)
theorem mapIs_push {m : List (κ × β)} {clock : Nat} {es : Ents} (h : MapIs ek ev m clock es) (x : κ) (y : β) (hm : mput m x y = m ++ [(x, y)]) : MapIs ek ev (m ++ [(x, y)]) (clock + 1) (es ++ [(clock, ek x, ev y)]) := by
 refine ⟨by simp [h.vals], ?_, ?_, hm ▸ mput_nodup h.kn⟩
 ·intro e he
  rcases List.mem_append.1 he with h1 | h1
  ·have := h.lt e h1; omega
  ·simp at h1; subst h1; simp
 ·rw [List.map_append, List.nodup_append]
  refine ⟨h.nd, by simp, ?_⟩
  intro a ha b hb
  simp at hb
  subst hb
  obtain ⟨e, he, rfl⟩ := List.mem_map.1 ha
  have := h.lt e he
  omega
theorem MapIs.upd (hk : KeyEnc q ek) {m : List (κ × β)} {clock : Nat} {es : Ents} (h : MapIs ek ev m clock es) (x : κ) (y : β) {k : Nat → Ents → Prop} (hq : ∀ clock' es', MapIs ek ev (mput m x y) clock' es' → k clock' es') : UpdG (findM q (ek x) es 0) (sameAt es (ek x)) clock es (ek x) (ev y) k := by
 rcases findM_map (ev := ev) hk x m es 0 h.vals with ⟨g1, g2, g3⟩ | ⟨j, n, v, g1, g2, g3, g4, g5⟩
 ·refine .mk _ _ (.inr ⟨g2, rfl, rfl⟩) (hq _ _ ?_)
  rw [(g3 y).1]; exact mapIs_push h x y (g3 y).1
 ·rw [Nat.zero_add] at g2
  exact .mk _ _ (.inl ⟨j, n, _, g2, ⟨_, g3, hk.same x⟩, rfl, rfl⟩) (hq _ _ (mapIs_set h g3 (g4 y) (mput_nodup h.kn)))
theorem MapIs.del (hk : KeyEnc q ek) {m : List (κ × β)} {clock : Nat} {es : Ents} (h : MapIs ek ev m clock es) (x : κ) {k : Ents → Prop} (hq : ∀ es', MapIs ek ev (mdel m x) clock es' → k es') : DelG (findM q (ek x) es 0) es k := by
 rcases findM_map (ev := ev) hk x m es 0 h.vals with ⟨g1, g2, g3⟩ | ⟨j, n, v, g1, g2, g3, g4, g5⟩
 ·refine .mk _ (.inr ⟨g2, rfl⟩) (hq _ ?_)
  cases m with
  | nil => exact h
  | cons p r => rw [(g3 p.2).2]; exact h
 ·rw [Nat.zero_add] at g2
  refine .mk _ (.inl ⟨j, n, _, g2, rfl⟩) (hq _ ⟨g5, ?_, ?_, (mdel_sub.map _).nodup h.kn⟩)
  ·intro e he; exact h.lt e ((List.eraseIdx_sublist _ _).subset he)
  ·exact ((List.eraseIdx_sublist _ _).map _).nodup h.nd
def StampOf (n : Nat) (es : Ents) (key : S) : Prop := ∃ (j : Nat) (v : S), es[j]? = some (n, key, v) ∧ ∀ i, i < j → ∀ e : Nat × S × S, es[i]? = some e → e.1 ≠ n
theorem stampOf_nd {es : Ents} (hnd : (es.map (·.1)).Nodup) {j n : Nat} {key v : S} (h : es[j]? = some (n, key, v)) : StampOf n es key := by
 refine ⟨j, v, h, fun i hi e he hen => ?_⟩
 have h1 : (es.map (·.1))[i]? = some n := by simp [he, hen]
 have h2 : (es.map (·.1))[j]? = some n := by simp [h]
 obtain ⟨hi1, hi2⟩ := List.getElem?_eq_some_iff.1 h1
 obtain ⟨hj1, hj2⟩ := List.getElem?_eq_some_iff.1 h2
 have := (List.getElem_inj hnd).1 (hi2.trans hj2.symm)
 omega
theorem MapIs.entry (hk : KeyEnc q ek) {m : List (κ × β)} {clock : Nat} {es : Ents} (h : MapIs ek ev m clock es) (x : κ) (z : β) {zs : S} (hz : zs = ev z) {k : S → Nat → Nat → Ents → Prop} (hq : ∀ n clock' es', MapIs ek ev (mput m x ((mget m x).getD z)) clock' es' → StampOf n es' (ek x) → k (ev ((mget m x).getD z)) n clock' es') :
  EntG (findM q (ek x) es 0) (sameAt es (ek x)) clock es (ek x) zs k := by
 subst hz
 rcases findM_map (ev := ev) hk x m es 0 h.vals with ⟨g1, g2, g3⟩ | ⟨j, n, v, g1, g2, g3, g4, g5⟩
 ·rw [g1] at hq
  have h2 := mapIs_push h x z (g3 z).1
  refine .mk _ _ _ _ (.inr ⟨g2, rfl, rfl, rfl, rfl⟩) (hq _ _ _ (by rw [Option.getD_none, (g3 z).1]; exact h2) (stampOf_nd h2.nd (j := es.length) (v := ev z) (by simp)))
 ·rw [Nat.zero_add] at g2
  rw [g1] at hq
  have h2 := mapIs_set h g3 (g4 v) (mput_nodup h.kn)
  have hj := (List.getElem?_eq_some_iff.1 g3).1
  exact .mk _ _ _ _ (.inl ⟨j, g2, ⟨_, g3, hk.same x⟩, rfl, rfl⟩) (hq _ _ _ h2 (stampOf_nd h2.nd (j := j) (v := ev v) (by simp [hj])))
theorem mput_put {m : List (κ × β)} {x : κ} {y z : β} : mput (mput m x y) x z = mput m x z := by
 induction m with
 | nil => simp [mput]
 | cons p r ih => by_cases h : p.1 = x <;> simp [mput, h, ih]
theorem mget_put_self {m : List (κ × β)} {x : κ} {y : β} : mget (mput m x y) x = some y := by
 induction m with
 | nil => simp [mput, mget]
 | cons p r ih => by_cases h : p.1 = x <;> simp [mput, h, mget, List.find?_cons] at ih ⊢; exact ih
theorem mget_put_ne {m : List (κ × β)} {x x' : κ} {y : β} (hne : x ≠ x') : mget (mput m x y) x' = mget m x' := by
 induction m with
 | nil => simp [mput, mget, hne]
 | cons p r ih =>
  by_cases h : p.1 = x
  ·have : ¬ p.1 = x' := fun e => hne (h ▸ e)
   simp [mput, h, mget, List.find?_cons, hne]
  ·by_cases h2 : p.1 = x'
   ·have h3 : mput (p :: r) x y = p :: mput r x y := by simp [mput, h]
    rw [h3]; simp [mget, List.find?_cons, h2]
   ·have h3 : mput (p :: r) x y = p :: mput r x y := by simp [mput, h]
    rw [h3]
    simp only [mget, List.find?_cons, h2, decide_false] at ih ⊢
    exact ih
theorem mget_put {m : List (κ × β)} {x x' : κ} {y : β} : mget (mput m x y) x' = if x = x' then some y else mget m x' := by
 split
 ·rename_i h; subst h; exact mget_put_self
 ·rename_i h; exact mget_put_ne h
theorem MapIs.stamp (hk : KeyEnc q ek) {m : List (κ × β)} {clock : Nat} {es : Ents} (h : MapIs ek ev m clock es) (x : κ) {n : Nat} (hs : StampOf n es (ek x)) (y : β) {k : Ents → Prop} (hq : ∀ es', MapIs ek ev (mput m x y) clock es' → k es') : StampG es n (ev y) k := by
 obtain ⟨j, v, h1, h2⟩ := hs
 refine .mk j n (ek x) v ⟨h1, rfl, fun i hi e he hen => h2 i hi e he (by omega)⟩ (hq _ (mapIs_set h h1 ?_ (mput_nodup h.kn)))
 have hinj : ∀ a b, ek a = ek b → a = b := by
  intro a b hab
  have h4 := hk.eq a b
  rw [hab, hk.eq b b] at h4
  simpa using h4.symm
 have key : ∀ (m : List (κ × β)) (es : Ents) (j : Nat), es.map (fun e => e.2) = m.map (fun p => (ek p.1, ev p.2)) → (∃ v, es[j]? = some (n, ek x, v)) → ((m.map (·.1)).Nodup) → (es.set j (n, ek x, ev y)).map (fun e => e.2) = (mput m x y).map (fun p => (ek p.1, ev p.2)) := by
  intro m
  induction m with
  | nil =>
   intro es j hv ⟨v, hj⟩
   have : es = [] := by simpa using hv
   subst this; simp at hj
  | cons p r ih =>
   intro es j hv ⟨v, hj⟩ hnd
   cases es with
   | nil => simp at hj
   | cons e es =>
    simp only [List.map_cons, List.cons.injEq] at hv
    obtain ⟨g1, g2⟩ := hv
    rw [List.map_cons, List.nodup_cons] at hnd
    cases j with
    | zero =>
     simp at hj
     have hx : p.1 = x := hinj _ _ (by rw [hj] at g1; exact (congrArg Prod.fst g1).symm)
     simp [mput, hx, g2]
    | succ j =>
     have hx : ¬ p.1 = x := by
      intro e
      simp only [List.getElem?_cons_succ] at hj
      have h5 := congrArg (fun l => l[j]?) g2
      simp only [List.getElem?_map, hj, Option.map_some] at h5
      cases hr : r[j]? with
      | none => simp [hr] at h5
      | some q =>
       simp only [hr, Option.map_some, Option.some.injEq, Prod.mk.injEq] at h5
       have := hinj _ _ h5.1
       exact hnd.1 (by rw [e, this]; exact List.mem_map.2 ⟨q, List.mem_of_getElem? hr, rfl⟩)
     simp only [List.set_cons_succ, List.map_cons, mput, if_neg hx, g1]
     congr 1
     exact ih es j g2 ⟨v, by simpa using hj⟩ hnd.2
 exact key m es j h.vals ⟨v, h1⟩ h.kn
end
end Abs
end Go.Proofs.YtkefgcleaalnnaaGreat
