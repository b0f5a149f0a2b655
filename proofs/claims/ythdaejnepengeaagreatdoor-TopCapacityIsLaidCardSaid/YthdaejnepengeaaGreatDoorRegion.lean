/- A region that draws its order: a rule by invariants. Each operation is looked at once, whatever came before it. -/
import Derived.Test.YthdaejnepengeaaGreatDoorLib
namespace Go.Proofs.YthdaejnepengeaaGreatDoor
set_option linter.unusedVariables false
set_option linter.unusedSimpArgs false
open Go.RowKit

theorem blk_gen {s b : Nat} {o : Obj} {w w' : World} (h : w.heap[b]? = some o) (hg : w.grownBy w' (some s)) (hb : s < b) : w'.heap[b]? = some o := (hg.block b (lt_of_block h) (by simp; omega)).trans h
theorem blk_other {b : Nat} {o : Obj} {w : World} {p : Addr} (h : w.heap[b]? = some o) (hb : b ≠ p.block) (v : Value) : (w.setCell p v).heap[b]? = some o := (heap_setCell_other w p b v hb).trans h

section
variable {P : Program} {ops : Array Oper} {Q : Exit → Act → World → Prop}

/-- every edge that binds leads to an earlier operation -/
def backward (ops : Array Oper) : Bool :=
  (List.range ops.size).all fun j => ((ops[j]?).map (fun o => o.after.all fun e => !Region.binds .any e || decide (e.on < j))).getD true

theorem backward_spec (h : backward ops = true) {j : Nat} {o : Oper} (ho : ops[j]? = some o) : ∀ e ∈ o.after, Region.binds .any e = true → e.on < j := by
  intro e he hb
  have hj : j < ops.size := (Array.getElem?_eq_some_iff.1 ho).1
  have h1 := List.all_eq_true.1 h j (List.mem_range.2 hj)
  simp only [ho, Option.map_some, Option.getD_some, Array.all_eq_true_iff_forall_mem] at h1
  have h2 := h1 e he
  simpa [hb] using h2

/-- how many have not come up -/
def leftOver (listed : Array Bool) : Nat := listed.toList.countP (fun b => !b)

theorem leftOver_set {listed : Array Bool} {j : Nat} (h : listed.getD j true = false) : leftOver (listed.setIfInBounds j true) + 1 = leftOver listed := by
  have hj : j < listed.size := by
    rcases Nat.lt_or_ge j listed.size with h' | h'
    · exact h'
    · simp [Array.getElem?_eq_none h'] at h
  have hv : listed.toList[j]'(by simpa using hj) = false := by simpa [hj] using h
  unfold leftOver
  rw [Array.toList_setIfInBounds]
  have e : listed.toList = listed.toList.take j ++ listed.toList[j]'(by simpa using hj) :: listed.toList.drop (j + 1) := by
    rw [List.getElem_cons_drop, List.take_append_drop]
  have e2 : listed.toList.set j true = listed.toList.take j ++ true :: listed.toList.drop (j + 1) := by
    rw [List.set_eq_take_append_cons_drop, if_pos (by simpa using hj)]
  rw [e2]
  conv => rhs; rw [e]
  simp [List.countP_append, List.countP_cons, hv]
  omega

theorem ready_nil {listed : Array Bool} (hb : backward ops = true) (hs : listed.size = ops.size) (h : Region.ready .any ops listed = []) : ∀ j, j < ops.size → listed.getD j false = true := by
  intro j
  induction j using Nat.strongRecOn with
  | ind j ih =>
    intro hj
    obtain ⟨o, ho⟩ : ∃ o, ops[j]? = some o := ⟨_, Array.getElem?_eq_getElem hj⟩
    by_cases hl : listed.getD j true = false
    · have : j ∈ Region.ready .any ops listed := mem_ready.2 ⟨hl, o, ho, fun e he hbi => by
        have := backward_spec hb ho e he hbi
        exact ih e.on this (by omega)⟩
      rw [h] at this; cases this
    · have hj' : j < listed.size := by omega
      simp [hj'] at hl ⊢
      exact hl

theorem wpAny_inv {J : Array Bool → Act → World → Prop} (hb : backward ops = true)
    (hstep : ∀ listed a w j o, listed.size = ops.size → ops[j]? = some o → listed.getD j true = false → (∀ e ∈ o.after, Region.binds .any e = true → listed.getD e.on false = true) → J listed a w →
      wpOp P ops Q j (fun a' w' => J (listed.setIfInBounds j true) a' w') a w)
    (hend : ∀ listed a w, (∀ j, j < ops.size → listed.getD j false = true) → J listed a w → Q .normal a w) :
    ∀ (fuel : Nat) (listed : Array Bool) (a : Act) (w : World), listed.size = ops.size → leftOver listed ≤ fuel → J listed a w → wpAny P .any ops Q fuel listed a w := by
  intro fuel
  induction fuel with
  | zero =>
    intro listed a w hs hl hJ
    have hall : ∀ j, j < ops.size → listed.getD j false = true := by
      intro j hj
      have hj' : j < listed.size := by omega
      have h0 : leftOver listed = 0 := by omega
      unfold leftOver at h0
      rw [List.countP_eq_zero] at h0
      have := h0 (listed[j]) (by simp)
      simpa [hj'] using this
    refine ⟨?_, hend _ _ _ hall hJ⟩
    rw [List.eq_nil_iff_forall_not_mem]
    intro j hj
    obtain ⟨h1, o, ho, _⟩ := mem_ready.1 hj
    have hj2 : j < ops.size := (Array.getElem?_eq_some_iff.1 ho).1
    have := hall j hj2
    have hj' : j < listed.size := by omega
    simp [hj'] at h1 this
    rw [h1] at this; cases this
  | succ fuel ih =>
    intro listed a w hs hl hJ
    refine ⟨fun hr => hend _ _ _ (ready_nil hb hs hr) hJ, fun j hj => ?_⟩
    obtain ⟨h1, o, ho, h2⟩ := mem_ready.1 hj
    refine wpOp_mono (fun a' w' hJ' => ih _ a' w' (by simpa using hs) ?_ hJ') (hstep listed a w j o hs ho h1 h2 hJ)
    have := leftOver_set h1
    omega

/-- the frame while a region runs: T says of each operation what it has left -/
structure RFr (ops : Array Oper) (a0 : Act) (T : Nat → Value → World → Prop) (D : Nat → Bool) (a : Act) (w : World) : Prop where
  defers : a.defers = a0.defers
  size : a.tmps.size = a0.tmps.size
  old : ∀ t, (∀ (j : Nat) (o : Oper), ops[j]? = some o → o.dst ≠ some t) → a.tmps.getD t undef = a0.tmps.getD t undef
  new : ∀ (j : Nat) (o : Oper) (d : Nat), ops[j]? = some o → D j = true → o.dst = some d → T j (a.tmps.getD d undef) w

/-- no two operations write one slot, and each slot is there -/
def apartDsts (ops : Array Oper) (n : Nat) : Bool :=
  (List.range ops.size).all fun j => match (ops[j]?).bind (·.dst) with
    | none => true
    | some d => decide (d < n) && (List.range ops.size).all fun i => i == j || (ops[i]?).bind (·.dst) != some d

theorem apartDsts_spec {n : Nat} (h : apartDsts ops n = true) {j : Nat} {o : Oper} {d : Nat} (ho : ops[j]? = some o) (hd : o.dst = some d) :
    d < n ∧ ∀ (i : Nat) (oi : Oper), ops[i]? = some oi → i ≠ j → oi.dst ≠ some d := by
  have hj : j < ops.size := (Array.getElem?_eq_some_iff.1 ho).1
  have h1 := List.all_eq_true.1 h j (List.mem_range.2 hj)
  simp only [ho, Option.bind_some, hd, Bool.and_eq_true, decide_eq_true_eq, List.all_eq_true] at h1
  refine ⟨h1.1, fun i oi hi hne => ?_⟩
  have hi' : i < ops.size := (Array.getElem?_eq_some_iff.1 hi).1
  have h2 := h1.2 i (List.mem_range.2 hi')
  simpa [hi, hne] using h2

def noDst (ops : Array Oper) (t : Nat) : Bool := ops.all fun o => o.dst != some t
theorem noDst_spec {t : Nat} (h : noDst ops t = true) : ∀ (j : Nat) (o : Oper), ops[j]? = some o → o.dst ≠ some t := by
  intro j o ho
  have := Array.all_eq_true_iff_forall_mem.1 h o (Array.mem_of_getElem? ho)
  simpa using this

theorem put_getD_same (a : Act) (d : Nat) (v : Value) (h : d < a.tmps.size) : (a.put (some d) v).tmps.getD d undef = v := by
  simp [Act.put, h]
theorem put_getD_ne (a : Act) (x : Option Tmp) (t : Nat) (v : Value) (h : x ≠ some t) : (a.put x v).tmps.getD t undef = a.tmps.getD t undef := by
  cases x with
  | none => rfl
  | some d =>
    have : d ≠ t := fun e => h (by rw [e])
    simp [Act.put, Array.getElem?_setIfInBounds_ne this]

/-- **THE RULE.** T: what each operation leaves in its slot; I: what holds of the world, by what has come up; each step must keep what T says of those that have come up. -/
theorem wp_region_typed2 {id : Nat} {a0 : Act} {w0 : World} (hm : P.follows .mixedOrders = true) (T : Nat → Value → World → Prop) (I : (Nat → Bool) → World → Prop)
    (hb : backward ops = true) (hdst : apartDsts ops a0.tmps.size = true)
    (h0 : I (fun _ => false) w0.drew)
    (hstep : ∀ (j : Nat) (o : Oper) (D : Nat → Bool) (a : Act) (w : World), ops[j]? = some o → D j = false → (∀ e ∈ o.after, Region.binds .any e = true → D e.on = true) → (∀ (i : Nat) (oi : Oper), ops[i]? = some oi → D i = true → ∀ e ∈ oi.after, Region.binds .any e = true → D e.on = true) → RFr ops a0 T D a w → I D w →
      if Region.wanted o (yielded ops a.tmps) then o.wp P a w (fun a' w' => ∃ v, a' = a.put o.dst v ∧ T j v w' ∧ (∀ i u, D i = true → T i u w → T i u w') ∧ I (fun i => i == j || D i) w') Q
      else T j undef w ∧ I (fun i => i == j || D i) w)
    (hend : ∀ a w, RFr ops a0 T (fun j => decide (j < ops.size)) a w → I (fun j => decide (j < ops.size)) w → Q .normal a w) :
    (Code.region id ops true).wp P Q a0 w0 := by
  refine wp_region_any hm ?_
  have hleft : leftOver (Array.replicate ops.size false) ≤ ops.size := by
    unfold leftOver; exact Nat.le_trans List.countP_le_length (by simp)
  have hz : (fun i => (Array.replicate ops.size false).getD i false) = fun _ => false := by
    funext i; by_cases hi : i < ops.size <;> simp [hi]
  refine wpAny_inv (J := fun listed a w => (listed.size = ops.size ∧ ∀ (i : Nat) (oi : Oper), ops[i]? = some oi → listed.getD i false = true → ∀ e ∈ oi.after, Region.binds .any e = true → listed.getD e.on false = true) ∧ RFr ops a0 T (fun i => listed.getD i false) a w ∧ I (fun i => listed.getD i false) w) hb ?_ ?_ _ _ _ _ (by simp) hleft ⟨⟨by simp, ?_⟩, ⟨rfl, rfl, fun _ _ => rfl, ?_⟩, ?_⟩
  · intro listed a w j o hs ho hnj hdeps hJ
    have hj : j < listed.size := by
      have := (Array.getElem?_eq_some_iff.1 ho).1; omega
    have hset : (fun i => (listed.setIfInBounds j true).getD i false) = fun i => i == j || listed.getD i false := by
      funext i
      by_cases hij : i = j
      · subst hij; simp [hj]
      · simp [hij, Array.getElem?_setIfInBounds_ne (Ne.symm hij)]
    have hnD : listed.getD j false = false := by
      simp [hj] at hnj ⊢; exact hnj
    have key : ∀ v w', T j v w' → (∀ i u, listed.getD i false = true → T i u w → T i u w') → I (fun i => i == j || listed.getD i false) w' →
        ((listed.setIfInBounds j true).size = ops.size ∧ ∀ (i : Nat) (oi : Oper), ops[i]? = some oi → (listed.setIfInBounds j true).getD i false = true → ∀ e ∈ oi.after, Region.binds .any e = true → (listed.setIfInBounds j true).getD e.on false = true) ∧ RFr ops a0 T (fun i => (listed.setIfInBounds j true).getD i false) (a.put o.dst v) w' ∧ I (fun i => (listed.setIfInBounds j true).getD i false) w' := by
      intro v w' hTv hR hI'
      have hcl' : ∀ (i : Nat) (oi : Oper), ops[i]? = some oi → (listed.setIfInBounds j true).getD i false = true → ∀ e ∈ oi.after, Region.binds .any e = true → (listed.setIfInBounds j true).getD e.on false = true := by
        intro i oi hi hDi e he hbi
        refine getD_set_true ?_
        by_cases hij : i = j
        · subst hij; rw [ho] at hi; cases hi; exact hdeps e he hbi
        · rw [getD_set_ne false (Ne.symm hij)] at hDi; exact hJ.1.2 i oi hi hDi e he hbi
      rw [hset]
      refine ⟨⟨by simpa using hs, hcl'⟩, ⟨?_, ?_, ?_, ?_⟩, hI'⟩
      · cases o.dst <;> simpa [Act.put] using hJ.2.1.defers
      · cases o.dst <;> simpa [Act.put] using hJ.2.1.size
      · intro t ht
        rw [put_getD_ne _ _ _ _ (ht j o ho)]
        exact hJ.2.1.old t ht
      · intro i oi d hi hDi hd
        by_cases hij : i = j
        · subst hij
          rw [ho] at hi; cases hi
          have := (apartDsts_spec hdst ho hd).1
          rw [hd, put_getD_same _ _ _ (by rw [hJ.2.1.size]; exact this)]
          exact hTv
        · have hDi' : listed.getD i false = true := by simpa [hij] using hDi
          rw [put_getD_ne _ _ _ _ ((apartDsts_spec hdst hi hd).2 j o ho (Ne.symm hij))]
          exact hR _ _ hDi' (hJ.2.1.new i oi d hi hDi' hd)
    have h := hstep j o _ a w ho hnD hdeps hJ.1.2 hJ.2.1 hJ.2.2
    unfold wpOp
    simp only [ho]
    split
    · rename_i hw
      rw [if_pos hw] at h
      exact .inl (Oper.wp_mono (fun a' w' ⟨v, hv, h1, h2, h3⟩ => hv ▸ key v w' h1 h2 h3) h)
    · rename_i hw
      rw [if_neg hw] at h
      exact key _ _ h.1 (fun _ _ _ h => h) h.2
  · intro listed a w hall hJ
    have hx : (fun i => listed.getD i false) = fun j => decide (j < ops.size) := by
      funext i
      by_cases hi : i < ops.size
      · rw [hall i hi]; simp [hi]
      · have : listed.size ≤ i := by rw [hJ.1.1]; omega
        simp [hi, this]
    rw [hx] at hJ
    exact hend a w hJ.2.1 hJ.2.2
  · intro i oi hi hD
    rw [show (Array.replicate ops.size false).getD i false = false from congrFun hz i] at hD
    cases hD
  · intro j o d ho hD
    rw [show (Array.replicate ops.size false).getD j false = false from congrFun hz j] at hD
    cases hD
  · rw [hz]; exact h0

/-- The rule with a relation that T bears. -/
theorem wp_region_typed {id : Nat} {a0 : Act} {w0 : World} (hm : P.follows .mixedOrders = true) (T : Nat → Value → World → Prop) (R : World → World → Prop) (I : (Nat → Bool) → World → Prop)
    (hb : backward ops = true) (hdst : apartDsts ops a0.tmps.size = true)
    (hT : ∀ j v w w', T j v w → R w w' → T j v w')
    (h0 : I (fun _ => false) w0.drew)
    (hstep : ∀ (j : Nat) (o : Oper) (D : Nat → Bool) (a : Act) (w : World), ops[j]? = some o → D j = false → (∀ e ∈ o.after, Region.binds .any e = true → D e.on = true) → RFr ops a0 T D a w → I D w →
      if Region.wanted o (yielded ops a.tmps) then o.wp P a w (fun a' w' => ∃ v, a' = a.put o.dst v ∧ T j v w' ∧ R w w' ∧ I (fun i => i == j || D i) w') Q
      else T j undef w ∧ R w w ∧ I (fun i => i == j || D i) w)
    (hend : ∀ a w, RFr ops a0 T (fun j => decide (j < ops.size)) a w → I (fun j => decide (j < ops.size)) w → Q .normal a w) :
    (Code.region id ops true).wp P Q a0 w0 := by
  refine wp_region_typed2 hm T I hb hdst h0 (fun j o D a w h1 h2 h3 _ h4 h5 => ?_) hend
  have h := hstep j o D a w h1 h2 h3 h4 h5
  split at h
  · rename_i hw
    rw [if_pos hw]
    exact Oper.wp_mono (fun a' w' ⟨v, e1, e2, e3, e4⟩ => ⟨v, e1, e2, fun i u _ hu => hT i u w w' hu e3, e4⟩) h
  · rename_i hw
    rw [if_neg hw]
    exact ⟨h.1, h.2.2⟩

/-! what an operation does, over a frame that is a letter -/
theorem wanted_plain {o : Oper} (h : o.guard = none) (y : Nat → Option Bool) : Region.wanted o y = true := by simp [Region.wanted, h]

theorem wp_value {o : Oper} {a : Act} {w : World} {K : Act → World → Prop} {v : Value} {w' : World} (h : (execOp a.eval o).run P w = .ok (.value v) w') (hK : K (a.put o.dst v) w') : o.wp P a w K Q := by
  unfold Oper.wp; rw [h]; exact hK
theorem wp_skip {o : Oper} {a : Act} {w : World} {K : Act → World → Prop} {w' : World} (h : (execOp a.eval o).run P w = .ok .skip w') (hK : K (a.put o.dst undef) w') : o.wp P a w K Q := by
  unfold Oper.wp; rw [h]; exact hK

theorem wp_call {o : Oper} {a : Act} {w : World} {K : Act → World → Prop} (f : FuncId) (fn : Func) (args : Array Operand) (ts : Array TypeId) (hop : o.op = .call { callee := .value (.func f), args := args, argTypes := ts })
    (hf : P.funcs[f]? = some fn) (hn : (fn.name == "runtime.NumGoroutine") = false) (hb : fn.body.isNone = false) {R : Ending → World → Prop} (vs : Array Value) (hvs : args.map a.eval = vs) (hc : Calls P f vs w R)
    (hK : ∀ e w', R e w' → ∃ v, e = .returned v ∧ K (a.put o.dst v) w') : o.wp P a w K Q := by
  subst hvs
  have hr : (execOp a.eval o).run P w = .ok (.enter f (args.map a.eval)) w := by
    have hn' : ¬ fn.name = "runtime.NumGoroutine" := by simpa using hn
    have hb' : ¬ fn.body = none := by intro h; simp [h] at hb
    unfold execOp
    simp [hop, resolve, Deferred.ofValue, invoke, callFunc, hf, hn', hb', Act.eval]
  unfold Oper.wp
  rw [hr]
  refine Calls.mono hc fun e w' h => ?_
  obtain ⟨v, rfl, h2⟩ := hK e w' h
  exact h2

/-- 'append(s, x, ..)' of cells that lie in a block known whole -/
theorem wp_push_at {w : World} {o : Oper} {act : Act} {K : Act → World → Prop} (s x : Operand) (t : TypeId)
    (ho : o.op = .call { callee := .builtin .append, args := #[s, x], argTypes := #[t, t] })
    (base : Nat) (e E : TypeId) (size bytes : Nat) (hE : Elem P t e size bytes) (a : Option Addr) (n c : Nat) (xs : List Value) (hown : w.ownsRow base e size (.slice a n c) n xs)
    (B m cx : Nat) (fr : Nat × Nat) (news : List Value) (hB : w.heap[B]? = some (.cells news.toArray E fr)) (hs : act.eval s = .slice a n c) (hx : act.eval x = .slice (some ⟨B, 0, none⟩) m cx) (hl : news.length = m * size) (h1 : ∀ u ∈ news, u.oneCell' = true)
    (h63 : (n + m) * bytes ≤ 140737488355328) (hm : n + m ≤ maxLen) (hbase : base ≤ w.heap.size)
    (h : ∀ a' c' w', w'.ownsRow base e size (.slice a' (n + m) c') (n + m) (xs ++ news) → w.grownBy w' (blk a) → (blk a' = blk a ∨ blk a' = some w.heap.size) → K (act.put o.dst (.slice a' (n + m) c')) w') :
    o.wp P act w K Q := by
  obtain ⟨ht, i, z, hi, hz, hsize, hby, hzs, hsz⟩ := hE
  obtain ⟨v', w', hr, h2, h3, h4, h5⟩ := run_append_own_at (P := P) w base t o.type e i z size bytes ht hi hz hsize hby hzs hsz (.slice a n c) n xs hown ⟨B, 0, none⟩ m cx news hl
    (by intro j u hu
        have hadd : (⟨B, 0, none⟩ : Addr).add j = ⟨B, j, none⟩ := by unfold Addr.add; split <;> simp_all
        rw [hadd, cell_of_row _ _ j _ _ _ hB]
        simpa using hu) h1 hm h63 hbase
  unfold Oper.wp execOp
  simp only [ho, resolve, invoke, builtin, Sem.run_bind, Sem.run_pure, Result.andThen_ok, List.map_toArray, List.map_cons, List.map_nil, hs, hx, hr]
  have hv : ∃ a' c', v' = .slice a' (n + m) c' := by
    rcases h2.2 with ⟨hv, hn⟩ | ⟨g, cap, cur, hv, _⟩
    · exact ⟨none, 0, by rw [hv, hn]⟩
    · exact ⟨_, _, hv⟩
  obtain ⟨a', c', rfl⟩ := hv
  rw [ownBlock_slice] at h3
  exact h a' c' w' h2 h3 (by simpa [ownBlock_slice] using h5)

theorem eval_tmp (a : Act) (t : Nat) : a.eval (.tmp t) = a.tmps[t]?.getD undef := by rw [← Array.getD_eq_getD_getElem?]; rfl
theorem eval_const (a : Act) (v : Value) : a.eval (.const v) = v := rfl

theorem RFr.got {a0 : Act} {T : Nat → Value → World → Prop} {D : Nat → Bool} {a : Act} {w : World} (h : RFr ops a0 T D a w) (j : Nat) (d : Nat) (hj : (ops[j]?).bind (·.dst) = some d) (hD : D j = true) : T j (a.tmps[d]?.getD undef) w := by
  obtain ⟨o, ho, hd⟩ := Option.bind_eq_some_iff.1 hj
  rw [← Array.getD_eq_getD_getElem?]
  exact h.new j o d ho hD hd
theorem RFr.var {a0 : Act} {T : Nat → Value → World → Prop} {D : Nat → Bool} {a : Act} {w : World} (h : RFr ops a0 T D a w) (t : Nat) (ht : noDst ops t = true) : a.tmps[t]?.getD undef = a0.tmps.getD t undef := by
  rw [← Array.getD_eq_getD_getElem?]
  exact h.old t (noDst_spec ht)

/-- a frame behind a region, its slots named by a function -/
theorem RFr.frame {a0 : Act} {T : Nat → Value → World → Prop} {D : Nat → Bool} {a : Act} {w : World} (h : RFr ops a0 T D a w) (n : Nat) (hn : a0.tmps.size = n) (hd : a0.defers = []) :
    ∃ f : Nat → Value, a = ⟨((List.range n).map f).toArray, []⟩ ∧ (∀ t, noDst ops t = true → f t = a0.tmps.getD t undef) ∧ (∀ j d, (ops[j]?).bind (·.dst) = some d → D j = true → T j (f d) w) := by
  refine ⟨fun t => a.tmps.getD t undef, ?_, fun t ht => h.old t (noDst_spec ht), ?_⟩
  · have h1 := h.size
    have h2 := h.defers
    obtain ⟨tmps, defers⟩ := a
    simp only at h1 h2
    rw [h2, hd]
    congr 1
    apply Array.ext
    · simp [h1, hn]
    · intro i h3 h4
      simp [h3]
  · intro j d hj hD
    obtain ⟨o, ho, hd⟩ := Option.bind_eq_some_iff.1 hj
    exact h.new j o d ho hD hd
end
end Go.Proofs.YthdaejnepengeaaGreatDoor
