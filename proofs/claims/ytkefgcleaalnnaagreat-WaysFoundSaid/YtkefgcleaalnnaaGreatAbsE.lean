/- Each operation does what the abstract walk says (further operations). -/
import Derived.Test.YtkefgcleaalnnaaGreatAbsD
namespace Go.Proofs.YtkefgcleaalnnaaGreat
set_option linter.unusedVariables false
set_option linter.unusedSimpArgs false
namespace Abs

section
variable {P : Program} {T : List (Nat × TI)} {F : Nat → Prop} {φ : Nat → Option Value} {X : Nat → Prop} {w : World} {h : Nat → Option Ob} {id : Nat} {N : Nat → Prop} {a : Act} {o : Oper} {k : S → Ch → Prop} {K : Act → World → Prop} {Q : Exit → Act → World → Prop} {PC : Nat → List S → List Ob → (S → List Ob → Prop) → Prop} {mt : List Nat}

theorem op_move {x : Operand} {s : S} (ho : o.op = .move x) (hx : RS F φ w (a.eval x) s) (hk : k s []) (hc : Ct F φ w h N o a k K) : o.wp P a w K Q := by
 exact ct_same hc hx hk (by simp [execOp, ho])
theorem op_assign {x : Operand} {s : S} (ho : o.op = .assign x) (hx : RS F φ w (a.eval x) s) (hk : k s []) (hc : Ct F φ w h N o a k K) : o.wp P a w K Q := by
 exact ct_same hc hx hk (by simp [execOp, ho])

theorem RS.bool_inv {c : Value} {b : Bool} (h : RS F φ w c (.c (.bool b))) : c = .bool b := by
 cases h with | c h => cases h with | tree h => cases h; rfl
theorem RS.tt_inv {c : Value} (h : RS F φ w c (.c .tt)) : c = .bool true := by
 cases h with | c h => cases h with | tree h => cases h; rfl
theorem RS.ff_inv {c : Value} (h : RS F φ w c (.c .ff)) : c = .bool false := by
 cases h with | c h => cases h with | tree h => cases h; rfl
theorem boolV_inv {c : Value} {s : S} {b : Bool} (h : RS F φ w c s) (hb' : boolV s = some b) : c = .bool b := by
 unfold boolV at hb'
 split at hb'
 ·cases hb'; exact h.tt_inv
 ·cases hb'; exact h.ff_inv
 ·cases hb'; exact h.bool_inv
 ·cases hb'
theorem RS.int_inv {c : Value} {k : IntKind} {n : Int} (h : RS F φ w c (.c (.int k n))) : c = .int k n := by
 cases h with | c h => cases h with | tree h => cases h; rfl
theorem RS.str_inv {c : Value} {s : ByteArray} (h : RS F φ w c (.c (.str s))) : c = .string s := by
 cases h with | c h => cases h with | tree h => cases h; rfl
theorem RS.mkb (b : Bool) : RS F φ w (.bool b) (.c (.bool b)) := .c (.tree (.bool b))
theorem RS.mki (k : IntKind) (n : Int) : RS F φ w (.int k n) (.c (.int k n)) := .c (.tree (.int k n))

theorem op_pick {x y z : Operand} {s1 s2 s3 : S} (ho : o.op = .pick x y z) (hx : RS F φ w (a.eval x) s1) (hy : RS F φ w (a.eval y) s2) (hz : RS F φ w (a.eval z) s3) (hk : aPick s1 s2 s3 k) (hc : Ct F φ w h N o a k K) : o.wp P a w K Q := by
 unfold aPick at hk
 split at hk
 ·have e1 := hx.tt_inv
  exact ct_same hc hy hk (by simp [execOp, ho, e1, asBool])
 ·have e1 := hx.ff_inv
  exact ct_same hc hz hk (by simp [execOp, ho, e1, asBool])
 ·rename_i b1
  have e1 := hx.bool_inv
  split at hk
  ·rename_i b2 h2
   have e2 := boolV_inv hy h2
   split at hk
   ·rename_i b3 h3
    have e3 := boolV_inv hz h3
    refine ct_same hc (RS.mkb _) hk ?_
    cases b1 <;> simp [execOp, ho, e1, e2, e3, asBool]
   ·exact hk.elim
  ·exact hk.elim
 ·exact hk.elim

theorem beqK_eq {j k : IntKind} (h : beqK j k = true) : j = k := by cases j <;> cases k <;> first | rfl | cases h

theorem bin_run {op : BinOp} {t : TypeId} {x y : Operand} {s1 s2 : S} {c1 c2 : Value} {k : S → Prop} (h1 : RS F φ w c1 s1) (h2 : RS F φ w c2 s2) (hk : bin op s1 s2 k) :
  ∃ c s, (do eqGuard op t x y c1 c2; binOp op t c1 c2 : Sem Value).run P w = .ok c w ∧ RS F φ w c s ∧ k s := by
 unfold bin at hk
 split at hk
 ·rename_i ka n kb m
  have e1 := h1.int_inv
  have e2 := h2.int_inv
  subst e1 e2
  cases hb' : beqK ka kb with
  | false => simp [hb'] at hk
  | true =>
  simp only [hb', cond_true] at hk
  have := beqK_eq hb'
  subst this
  cases op <;> simp only at hk
  case quo =>
   obtain ⟨hm, hk⟩ := hk
   refine ⟨_, _, ?_, RS.mki _ _, hk⟩
   simp [eqGuard, binOp, Op.intDiv, hm]
  case rem =>
   obtain ⟨hm, hk⟩ := hk
   refine ⟨_, _, ?_, RS.mki _ _, hk⟩
   simp [eqGuard, binOp, Op.intDiv, hm]
  all_goals first
   | exact hk.elim
   | (first | refine ⟨_, _, ?_, RS.mki _ _, hk⟩ | refine ⟨_, _, ?_, RS.mkb _, hk⟩
      simp [eqGuard, binOp, Op.intArith, Op.intCmp])
 ·rename_i x y
  have e1 := h1.str_inv
  have e2 := h2.str_inv
  subst e1 e2
  cases op <;> simp only at hk
  case add =>
   obtain ⟨hs, hk⟩ := hk
   have hs' : ¬ (IntKind.i64.max < ((x.size : Nat) : Int) + (y.size : Nat)) := by
    have : IntKind.i64.max = 9223372036854775807 := by decide
    rw [this]; omega
   refine ⟨_, _, ?_, .c (.tree (.str _)), hk⟩
   simp [eqGuard, binOp, Op.stringOp, hs'] <;> omega
  all_goals first
   | exact hk.elim
   | (refine ⟨_, _, ?_, RS.mkb _, hk⟩; simp [eqGuard, binOp, Op.stringOp])
 ·exact hk.elim

theorem op_bin {op : BinOp} {t t2 : TypeId} {x y : Operand} {s1 s2 : S} (ho : o.op = .binOp op t x y t2) (hx : RS F φ w (a.eval x) s1) (hy : RS F φ w (a.eval y) s2) (hk : bin op s1 s2 fun v => k v []) (hc : Ct F φ w h N o a k K) : o.wp P a w K Q := by
 obtain ⟨c, s, hrun, hs, hks⟩ := bin_run (P := P) (t := t) (x := x) (y := y) hx hy hk
 refine ct_same hc hs hks ?_
 simp only [execOp, ho]
 rw [Sem.run_bind, hrun]
 rfl

theorem op_un {op : UnOp} {t : TypeId} {x : Operand} {s : S} (ho : o.op = .unOp op t x) (hx : RS F φ w (a.eval x) s) (hk : aUn op s k) (hc : Ct F φ w h N o a k K) : o.wp P a w K Q := by
 unfold aUn at hk
 split at hk
 ·have e := hx.bool_inv
  exact ct_same hc (RS.mkb _) hk (by simp [execOp, ho, e, Op.unary])
 ·have e := hx.tt_inv
  exact ct_same hc (.c (.tree .ff)) hk (by simp [execOp, ho, e, Op.unary])
 ·have e := hx.ff_inv
  exact ct_same hc (.c (.tree .tt)) hk (by simp [execOp, ho, e, Op.unary])
 ·have e := hx.int_inv
  exact ct_same hc (RS.mki _ _) hk (by simp [execOp, ho, e, Op.unary, Op.intArith])
 ·exact hk.elim

theorem op_extract {i : Nat} {x : Operand} {s : S} (ho : o.op = .extract x i) (hx : RS F φ w (a.eval x) s) (hk : aExtract s i k) (hc : Ct F φ w h N o a k K) : o.wp P a w K Q := by
 unfold aExtract at hk
 split at hk
 ·rename_i xs
  split at hk
  ·rename_i y hy
   rw [nth_eq] at hy
   generalize hev : a.eval x = cv at hx
   cases hx with
   | tup cs xs hl hh =>
    have hj : i < cs.toList.length := by rw [hl]; exact (List.getElem?_eq_some_iff.1 hy).1
    have hg := List.getElem?_eq_getElem hj
    refine ct_same hc (hh i _ _ hg hy) hk ?_
    have hg' : cs[i]? = some (cs.toList[i]) := by rw [← Array.getElem?_toList]; exact hg
    simp [execOp, ho, hev, Instr.extract, hg']
  ·exact hk.elim
 ·exact hk.elim

theorem RS.row_inv {c : Value} {l : Nat} (h : RS F φ w c (.c (.row l))) : φ l = some c := by
 cases h with | c h => cases h with
  | tree h => cases h
  | row l c h => exact h
theorem RO.row_shape {l e sz : Nat} {rows : List (List V)} (h : RO F φ w l (.row e sz rows)) : ∃ ad n cap, φ l = some (.slice ad n cap) ∧ n = rows.length := by
 rcases h with ⟨c, xs, h1, h2, ⟨h3, _⟩, h4, h5⟩ | ⟨rfl, p, h1⟩
 ·rcases h3.2 with ⟨hv, hn⟩ | ⟨g, cap, cur, hv, _⟩
  ·exact ⟨none, 0, 0, by rw [h1, hv], hn.symm⟩
  ·exact ⟨_, _, cap, by rw [h1, hv], rfl⟩
 ·exact ⟨_, 0, 0, h1, rfl⟩
theorem RT.lst_shape {c : Value} {sz : Nat} {rows : List (List V)} (h : RT F w c (.lst sz rows)) : ∃ ad cap, c = .slice ad rows.length cap := by
 cases h with
 | lst0 a cap sz h => exact ⟨a, cap, rfl⟩
 | lst b off n cap sz rows f _ hn => exact ⟨_, cap, by rw [hn]⟩

theorem kindOf_inv (hT : TabOK P T) {ts : Array Nat} {k : TK → Prop} (hk : kindOf T ts k) : ∃ t ti, ts[0]? = some t ∧ TIok P T t ti ∧ k ti.kind := by
 unfold kindOf at hk
 split at hk
 ·rename_i t ht
  split at hk
  ·rename_i ti hti
   rw [nth_eq] at ht
   exact ⟨t, ti, by simpa using ht, hT t ti hti, hk⟩
  ·exact hk.elim
 ·exact hk.elim

theorem run_call_builtin {b : Builtin} {c : Call} {args : List Operand} {v : Value} {w' : World} (ho : o.op = .call c) (hcal : c.callee = .builtin b) (ha : c.args.toList = args)
  (hrun : (builtin b c.argTypes o.type (c.args.map fun | .const _ => true | _ => false) (args.map a.eval).toArray).run P w = .ok (.value v) w') : (execOp a.eval o).run P w = .ok (.value v) w' := by
 have hm : c.args.map a.eval = (args.map a.eval).toArray := by subst ha; apply Array.ext'; simp
 simp only [execOp, ho, resolve, hcal, Sem.run_bind, Sem.run_pure, Result.andThen_ok, invoke, hm]
 exact hrun

theorem op_len {x : Operand} {s : S} {c : Call} (hT : TabOK P T) (ho : o.op = .call c) (hcal : c.callee = .builtin .len) (ha : c.args.toList = [x]) (hr : Rp F φ X w h) (hx : RS F φ w (a.eval x) s)
  (hk : kindOf T c.argTypes fun kd => lenOf h kd s fun n => k (.c (.int .i64 n)) []) (hc : Ct F φ w h N o a k K) : o.wp P a w K Q := by
 obtain ⟨t, ti, ht, hti, hk2⟩ := kindOf_inv hT hk
 clear hk
 have hk := hk2
 clear hk2
 obtain ⟨i, z, d, hi, _, _, _, _, _, hd, hkd⟩ := hti
 have fin : ∀ n : Int, (Builtin.len_ c.argTypes o.type #[a.eval x]).run P w = .ok (goInt n) w → k (.c (.int .i64 n)) [] → o.wp P a w K Q := by
  intro n hrun hkn
  refine ct_same hc (RS.mki _ _) hkn (run_call_builtin ho hcal ha ?_)
  simp only [builtin, List.map_cons, List.map_nil, Sem.run_bind, hrun, Result.andThen_ok, Sem.run_pure, goInt]
 have hsl : ∀ (e : Nat) (ad : Option Addr) (n cap : Nat), d = .slice e → a.eval x = .slice ad n cap → (Builtin.len_ c.argTypes o.type #[a.eval x]).run P w = .ok (goInt n) w := by
  intro e ad n cap he hev
  subst he
  simp [Builtin.len_, ht, hev, run_underlying hd]
 unfold lenOf at hk
 generalize hev : a.eval x = cv at hx
 split at hk
 ·rename_i e he
  rw [he] at hkd
  split at hk
  ·rename_i sz rows
   cases hx with | c hx => cases hx with | tree hx =>
    obtain ⟨ad, cap, rfl⟩ := hx.lst_shape
    exact fin _ (hsl e ad _ cap hkd hev) hk
  ·cases hx with | c hx => cases hx with | tree hx =>
    cases hx
    exact fin _ (hsl e none 0 0 hkd hev) hk
  ·rename_i l
   have hl := hx.row_inv
   split at hk
   ·rename_i e2 sz rows hob
    obtain ⟨ad, n, cap, h1, h2⟩ := (hr.objs l _ hob).row_shape
    rw [hl] at h1; cases h1
    exact fin _ (hsl e ad n cap hkd hev) (by rw [h2]; exact hk)
   ·rename_i sz rows hob
    obtain ⟨c', h1, h2⟩ := hr.objs l _ hob
    rw [hl] at h1; cases h1
    obtain ⟨ad, cap, rfl⟩ := h2.lst_shape
    exact fin _ (hsl e ad _ cap hkd hev) hk
   ·rename_i e1 e2 sz ins hob
    obtain ⟨c', h1, h2, ⟨h3, _⟩, _⟩ := hr.objs l _ hob
    rw [hl] at h1; cases h1
    obtain ⟨ad, cap, rfl⟩ := own_shape h3
    exact fin _ (hsl e ad _ cap hkd hev) hk
   ·exact hk.elim
  ·rename_i l sz o n
   cases hx with | c hx => cases hx with
    | tree hx => cases hx
    | vw l sz o n ad a' N cap c' hl hn hc' hcc' ha0' ha' => exact fin _ (hsl e _ _ _ hkd hev) hk
  ·rename_i l i c
   cases hx with | c hx => cases hx with
    | tree hx => cases hx
    | inn l i c hs =>
     split at hk
     ·rename_i e1 e2 sz ins hob
      obtain ⟨rows, hi, hk⟩ := hk
      obtain ⟨c', h1, h2, h3, h4, _⟩ := hr.objs l _ hob
      obtain ⟨ad, cap, hsh⟩ := (h4 _ (List.mem_of_getElem? hi)).shape
      simp only at hsh
      subst hsh
      exact fin _ (hsl e ad _ cap hkd hev) hk
     ·exact hk.elim
  ·exact hk.elim
 ·rename_i hks
  rw [hks] at hkd
  split at hk
  ·have hx' := hx.str_inv
   subst hx'
   exact fin _ (by subst hkd; simp [Builtin.len_, ht, hev, run_underlying hd]) hk
  ·exact hk.elim
 ·rename_i k1 k2 hks
  rw [hks] at hkd
  subst hkd
  split at hk
  ·have hx' : cv = .map none := by cases hx with | c hv => cases hv with | tree hv => cases hv; rfl
   subst hx'
   exact fin 0 (by simp [Builtin.len_, ht, hev, run_underlying hd]) hk
  ·rename_i l
   have hl : φ l = some cv := by
    cases hx with | c hv => cases hv with
     | tree hv => cases hv
     | mp l c hl => exact hl
   split at hk
   ·rename_i clock es hob
    obtain ⟨b, ents, g1, g2, g3, g4, g5⟩ := hr.objs l _ hob
    rw [hl] at g1; cases g1
    have hlen : ents.size = es.length := by have := g4.1; simpa using this
    exact fin _ (by simp [Builtin.len_, ht, hev, run_underlying hd, Sem.run, getObj, g3, hlen]) hk
   ·exact hk.elim
  ·exact hk.elim
 ·exact hk.elim

end
end Abs
end Go.Proofs.YtkefgcleaalnnaaGreat
