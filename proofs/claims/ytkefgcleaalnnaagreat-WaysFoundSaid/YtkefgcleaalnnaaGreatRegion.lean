/- A region that draws its order: a rule by invariants. Each operation is looked at once, whatever came before it. -/
import Derived.Test.YtkefgcleaalnnaaGreatLib
namespace Go.Proofs.YtkefgcleaalnnaaGreat
set_option linter.unusedVariables false
set_option linter.unusedSimpArgs false
open Go.RowKit

section
variable {P : Program} {ops : Array Oper} {Q : Exit → Act → World → Prop}

def backward (ops : Array Oper) : Bool :=
 (List.range ops.size).all fun j => ((ops[j]?).map (fun o => o.after.all fun e => !Region.binds .any e || decide (e.on < j))).getD true

theorem backward_spec (h : backward ops = true) {j : Nat} {o : Oper} (ho : ops[j]? = some o) : ∀ e ∈ o.after, Region.binds .any e = true → e.on < j := by
 intro e he hb
 have hj : j < ops.size := (Array.getElem?_eq_some_iff.1 ho).1
 have h1 := List.all_eq_true.1 h j (List.mem_range.2 hj)
 simp only [ho, Option.map_some, Option.getD_some, Array.all_eq_true_iff_forall_mem] at h1
 have h2 := h1 e he
 simpa [hb] using h2

def leftOver (listed : Array Bool) : Nat := listed.toList.countP (fun b => !b)

theorem leftOver_set {listed : Array Bool} {j : Nat} (h : listed.getD j true = false) : leftOver (listed.setIfInBounds j true) + 1 = leftOver listed := by
 have hj : j < listed.size := by
  rcases Nat.lt_or_ge j listed.size with h' | h'
  ·exact h'
  ·simp [Array.getElem?_eq_none h'] at h
 have hv : listed.toList[j]'(by simpa using hj) = false := by simpa [hj] using h
 unfold leftOver
 rw [Array.toList_setIfInBounds]
 have e : listed.toList = listed.toList.take j ++ listed.toList[j]'(by simpa using hj) :: listed.toList.drop (j + 1) := by
  rw [List.getElem_cons_drop, List.take_append_drop]
 have e2 : listed.toList.set j true = listed.toList.take j ++ true :: listed.toList.drop (j + 1) := by
  rw [List.set_eq_take_append_cons_drop, if_pos (by simpa using hj)]
 rw [e2]
 conv => rhs; rw [e]
 simp [List.countP_append, List.countP_cons, hv]
 omega

theorem ready_nil {listed : Array Bool} (hb : backward ops = true) (hs : listed.size = ops.size) (h : Region.ready .any ops listed = []) : ∀ j, j < ops.size → listed.getD j false = true := by
 intro j
 induction j using Nat.strongRecOn with
 | ind j ih =>
  intro hj
  obtain ⟨o, ho⟩ : ∃ o, ops[j]? = some o := ⟨_, Array.getElem?_eq_getElem hj⟩
  by_cases hl : listed.getD j true = false
  ·have : j ∈ Region.ready .any ops listed := mem_ready.2 ⟨hl, o, ho, fun e he hbi => by
    have := backward_spec hb ho e he hbi
    exact ih e.on this (by omega)⟩
   rw [h] at this; cases this
  ·have hj' : j < listed.size := by omega
   simp [hj'] at hl ⊢
   exact hl

theorem wpAny_inv {J : Array Bool → Act → World → Prop} (hb : backward ops = true)
  (hstep : ∀ listed a w j o, listed.size = ops.size → ops[j]? = some o → listed.getD j true = false → (∀ e ∈ o.after, Region.binds .any e = true → listed.getD e.on false = true) → J listed a w →
   wpOp P ops Q j (fun a' w' => J (listed.setIfInBounds j true) a' w') a w)
  (hend : ∀ listed a w, (∀ j, j < ops.size → listed.getD j false = true) → J listed a w → Q .normal a w) :
  ∀ (fuel : Nat) (listed : Array Bool) (a : Act) (w : World), listed.size = ops.size → leftOver listed ≤ fuel → J listed a w → wpAny P .any ops Q fuel listed a w := by
 intro fuel
 induction fuel with
 | zero =>
  intro listed a w hs hl hJ
  have hall : ∀ j, j < ops.size → listed.getD j false = true := by
   intro j hj
   have hj' : j < listed.size := by omega
   have h0 : leftOver listed = 0 := by omega
   unfold leftOver at h0
   rw [List.countP_eq_zero] at h0
   have := h0 (listed[j]) (by simp)
   simpa [hj'] using this
  refine ⟨?_, hend _ _ _ hall hJ⟩
  rw [List.eq_nil_iff_forall_not_mem]
  intro j hj
  obtain ⟨h1, o, ho, _⟩ := mem_ready.1 hj
  have hj2 : j < ops.size := (Array.getElem?_eq_some_iff.1 ho).1
  have := hall j hj2
  have hj' : j < listed.size := by omega
  simp [hj'] at h1 this
  rw [h1] at this; cases this
 | succ fuel ih =>
  intro listed a w hs hl hJ
  refine ⟨fun hr => hend _ _ _ (ready_nil hb hs hr) hJ, fun j hj => ?_⟩
  obtain ⟨h1, o, ho, h2⟩ := mem_ready.1 hj
  refine wpOp_mono (fun a' w' hJ' => ih _ a' w' (by simpa using hs) ?_ hJ') (hstep listed a w j o hs ho h1 h2 hJ)
  have := leftOver_set h1
  omega

structure RFr (ops : Array Oper) (a0 : Act) (T : Nat → Value → World → Prop) (D : Nat → Bool) (a : Act) (w : World) : Prop where
 defers : a.defers = a0.defers
 size : a.tmps.size = a0.tmps.size
 old : ∀ t, (∀ (j : Nat) (o : Oper), ops[j]? = some o → o.dst ≠ some t) → a.tmps.getD t undef = a0.tmps.getD t undef
 new : ∀ (j : Nat) (o : Oper) (d : Nat), ops[j]? = some o → D j = true → o.dst = some d → T j (a.tmps.getD d undef) w

def apartDsts (ops : Array Oper) (n : Nat) : Bool :=
 (List.range ops.size).all fun j => match (ops[j]?).bind (·.dst) with
  | none => true
  | some d => decide (d < n) && (List.range ops.size).all fun i => i == j || (ops[i]?).bind (·.dst) != some d

theorem apartDsts_spec {n : Nat} (h : apartDsts ops n = true) {j : Nat} {o : Oper} {d : Nat} (ho : ops[j]? = some o) (hd : o.dst = some d) :
  d < n ∧ ∀ (i : Nat) (oi : Oper), ops[i]? = some oi → i ≠ j → oi.dst ≠ some d := by
 have hj : j < ops.size := (Array.getElem?_eq_some_iff.1 ho).1
 have h1 := List.all_eq_true.1 h j (List.mem_range.2 hj)
 simp only [ho, Option.bind_some, hd, Bool.and_eq_true, decide_eq_true_eq, List.all_eq_true] at h1
 refine ⟨h1.1, fun i oi hi hne => ?_⟩
 have hi' : i < ops.size := (Array.getElem?_eq_some_iff.1 hi).1
 have h2 := h1.2 i (List.mem_range.2 hi')
 simpa [hi, hne] using h2

def noDst (ops : Array Oper) (t : Nat) : Bool := ops.all fun o => o.dst != some t
theorem noDst_spec {t : Nat} (h : noDst ops t = true) : ∀ (j : Nat) (o : Oper), ops[j]? = some o → o.dst ≠ some t := by
 intro j o ho
 have := Array.all_eq_true_iff_forall_mem.1 h o (Array.mem_of_getElem? ho)
 simpa using this

theorem put_getD_same (a : Act) (d : Nat) (v : Value) (h : d < a.tmps.size) : (a.put (some d) v).tmps.getD d undef = v := by
 simp [Act.put, h]
theorem put_getD_ne (a : Act) (x : Option Tmp) (t : Nat) (v : Value) (h : x ≠ some t) : (a.put x v).tmps.getD t undef = a.tmps.getD t undef := by
 cases x with
 | none => rfl
 | some d =>
  have : d ≠ t := fun e => h (by rw [e])
  simp [Act.put, Array.getElem?_setIfInBounds_ne this]

theorem wanted_plain {o : Oper} (h : o.guard = none) (y : Nat → Option Bool) : Region.wanted o y = true := by simp [Region.wanted, h]

theorem wp_value {o : Oper} {a : Act} {w : World} {K : Act → World → Prop} {v : Value} {w' : World} (h : (execOp a.eval o).run P w = .ok (.value v) w') (hK : K (a.put o.dst v) w') : o.wp P a w K Q := by
 unfold Oper.wp; rw [h]; exact hK
theorem wp_skip {o : Oper} {a : Act} {w : World} {K : Act → World → Prop} {w' : World} (h : (execOp a.eval o).run P w = .ok .skip w') (hK : K (a.put o.dst undef) w') : o.wp P a w K Q := by
 unfold Oper.wp; rw [h]; exact hK

theorem RFr.frame {a0 : Act} {T : Nat → Value → World → Prop} {D : Nat → Bool} {a : Act} {w : World} (h : RFr ops a0 T D a w) (n : Nat) (hn : a0.tmps.size = n) (hd : a0.defers = []) :
  ∃ f : Nat → Value, a = ⟨((List.range n).map f).toArray, []⟩ ∧ (∀ t, noDst ops t = true → f t = a0.tmps.getD t undef) ∧ (∀ j d, (ops[j]?).bind (·.dst) = some d → D j = true → T j (f d) w) := by
 refine ⟨fun t => a.tmps.getD t undef, ?_, fun t ht => h.old t (noDst_spec ht), ?_⟩
 ·have h1 := h.size
  have h2 := h.defers
  obtain ⟨tmps, defers⟩ := a
  simp only at h1 h2
  rw [h2, hd]
  congr 1
  apply Array.ext
  ·simp [h1, hn]
  ·intro i h3 h4
   simp [h3]
 ·intro j d hj hD
  obtain ⟨o, ho, hd⟩ := Option.bind_eq_some_iff.1 hj
  exact h.new j o d ho hD hd
end
end Go.Proofs.YtkefgcleaalnnaaGreat
