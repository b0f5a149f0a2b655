/- Each operation does what the abstract walk says (memory). -/
import Derived.Test.YtkefgcleaalnnaaGreatAbsE
namespace Go.Proofs.YtkefgcleaalnnaaGreat
set_option linter.unusedVariables false
set_option linter.unusedSimpArgs false
namespace Abs

section
variable {P : Program} {T : List (Nat × TI)} {F : Nat → Prop} {φ : Nat → Option Value} {X : Nat → Prop} {w : World} {h : Nat → Option Ob} {id : Nat} {N : Nat → Prop} {a : Act} {o : Oper} {k : S → Ch → Prop} {K : Act → World → Prop} {Q : Exit → Act → World → Prop} {PC : Nat → List S → List Ob → (S → List Ob → Prop) → Prop} {mt : List Nat}

theorem P2.ups {F' : Nat → Prop} {φ' : Nat → Option Value} {w' : World} {cs : List Value} {vs : List V} (h : P2 (RV F φ w) cs vs) (hF : ∀ b, F b → F' b) (hφ : ∀ l c, φ l = some c → φ' l = some c) (hw : ∀ b, F b → w'.heap[b]? = w.heap[b]?) : P2 (RV F' φ' w') cs vs := h.mono fun _ _ h => h.up hF hφ hw

theorem addφ_ext (hid : φ id = none) (c : Value) : ∀ l d, φ l = some d → addφ φ id c l = some d := by
 intro l d hl
 unfold addφ
 rw [if_neg]; exact hl
 intro e; subst e; rw [hid] at hl; cases hl

theorem new_box (hr : Rp F φ X w h) (hN : N id) (hid : φ id = none) (cs : Array Value) (vs : List V) (E : TypeId) (q : Nat) (hq : q = 0 ∨ E + 1 = q) (hcs : P2 (RV F φ w) cs.toList vs) :
  Nx F φ w h N [(id, .box vs q)] F (addφ φ id (.pointer (some ⟨w.heap.size, 0, none⟩))) (w.alloc (.cells cs E)) ∧ RS F (addφ φ id (.pointer (some ⟨w.heap.size, 0, none⟩))) (w.alloc (.cells cs E)) (.pointer (some ⟨w.heap.size, 0, none⟩)) (.c (.ptr id 0)) := by
 have hφ := addφ_ext hid (.pointer (some ⟨w.heap.size, 0, none⟩))
 have hw : ∀ b, F b → (w.alloc (.cells cs E)).heap[b]? = w.heap[b]? := fun b hb' => heap_alloc_old w _ (hr.bd b hb')
 refine ⟨Nx.new hr hN hid _ rfl _ _ (fun b hb' => by simpa [hb] using hb'.symm) ?_, .c (.ptr id 0 w.heap.size (by simp [addφ]))⟩
 exact ⟨w.heap.size, cs, E, by simp [addφ], fun hF => by have := hr.bd _ hF; omega, heap_alloc_new w _, hcs.ups (fun _ h => h) hφ hw, hq⟩

theorem op_alloc {t : Nat} {ti : TI} (ht : TIok P T t ti) (hr : Rp F φ X w h) (hN : N id) (hid : φ id = none) (ho : o.op = .alloc t) (hk : k (.c (.ptr id 0)) [(id, .box ti.zero (boxT t ti.zero))]) (hc : Ct F φ w h N o a k K) : o.wp P a w K Q := by
 obtain ⟨i, z, d, hi, h1, h2, h3, h4, h5, _⟩ := ht
 obtain ⟨hn, hs⟩ := new_box hr hN hid z.cells ti.zero t (boxT t ti.zero) (by unfold boxT; split <;> first | exact .inr rfl | exact .inl rfl) (constVs_sound h5)
 refine wp_value (v := .pointer (some ⟨w.heap.size, 0, none⟩)) (w' := w.alloc (.cells z.cells t)) ?_ (hc _ _ _ _ _ _ hn hs hk)
 simp [execOp, ho, Instr.alloc, zeroValue, typeInfo, hi, h3, newVar, newRow]

theorem op_box {t : Nat} {x : Operand} {s : S} (hr : Rp F φ X w h) (hN : N id) (hid : φ id = none) (ho : o.op = .box t x) (hx : RS F φ w (a.eval x) s) (hk : aBox id s k) (hc : Ct F φ w h N o a k K) : o.wp P a w K Q := by
 unfold aBox at hk
 generalize hev : a.eval x = cv at hx
 have fin : ∀ vs, k (.c (.ptr id 0)) [(id, .box vs)] → P2 (RV F φ w) cv.cells.toList vs → o.wp P a w K Q := by
  intro vs hk hcs
  obtain ⟨hn, hs⟩ := new_box hr hN hid cv.cells vs t 0 (.inl rfl) hcs
  refine wp_value (v := .pointer (some ⟨w.heap.size, 0, none⟩)) (w' := w.alloc (.cells cv.cells t)) ?_ (hc _ _ _ _ _ _ hn hs hk)
  simp [execOp, ho, hev, Instr.box, newVar, newRow]
 cases hx with
 | c hv =>
  refine fin _ hk ?_
  have h1 := hv.one hr.one
  have : cv.cells = #[cv] := by cases cv <;> first | rfl | simp [Value.oneCell'] at h1
  rw [this]
  exact P2.cons hv P2.nil
 | agg cs vs hh => exact fin _ hk hh
 | tup => exact hk.elim
 | bot => exact hk.elim

theorem op_fieldAddr {t f : Nat} {ti : TI} {x : Operand} {s : S} (ht : TIok P T t ti) (ho : o.op = .fieldAddr t x f) (hx : RS F φ w (a.eval x) s) (hk : aFieldAddr ti f s k) (hc : Ct F φ w h N o a k K) : o.wp P a w K Q := by
 obtain ⟨i, z, d, hi, h1, h2, h3, h4, h5, hd, hkd⟩ := ht
 unfold aFieldAddr at hk
 generalize hev : a.eval x = cv at hx
 split at hk
 ·rename_i fs hfs
  simp only [hfs] at hkd
  obtain ⟨fields, rfl, _, hf⟩ := hkd
  split at hk
  ·rename_i fo hfo
   obtain ⟨fld, i', hg1, hg2, hg3, hg4, hg5⟩ := hf f fo hfo
   have hrun : ∀ b off, cv = .pointer (some ⟨b, off, none⟩) → (execOp a.eval o).run P w = .ok (.value (.pointer (some ⟨b, off + fo.1, none⟩))) w := by
    intro b off he
    subst he
    simp [execOp, ho, hev, Instr.fieldAt, run_underlying hd, hg1, Instr.sureAddr, fieldPlace, Go.sizeOf, typeInfo, hg4, hg5, hg2, add_spot]
   split at hk
   ·rename_i l off
    cases hx with | c hv => cases hv with
     | tree hv => cases hv
     | ptr l off b hl => exact ct_same hc (.c (.ptr l _ b hl)) hk (hrun b off rfl)
   ·rename_i cells
    cases hx with | c hv => cases hv with | tree hv => cases hv with
     | cptr b off cells f hF hxx hr' =>
      refine ct_same hc (.c (.tree (.cptr b _ _ (fun j => f (fo.1 + j)) hF ?_ ?_))) hk (hrun b off rfl)
      ·intro j hj
       rw [dropN_eq, List.length_drop] at hj
       rw [Nat.add_assoc]; exact hxx _ (by omega)
      ·intro j v hj
       rw [dropN_eq, List.getElem?_drop] at hj
       exact hr' _ _ hj
   ·rename_i l sz i off
    cases hx with | c hv => cases hv with
     | tree hv => cases hv
     | eptr l sz i off b n cap hl => exact ct_same hc (.c (.eptr l sz i _ b n cap hl)) hk (by have := hrun b (i * sz + off) rfl; rwa [Nat.add_assoc] at this)
   ·rename_i l i sz j off c
    cases hx with | c hv => cases hv with
     | tree hv => cases hv
     | iptr l i sz j off b n cap => exact ct_same hc (.c (.iptr l i sz j _ b n cap)) hk (by have := hrun b (j * sz + off) rfl; rwa [Nat.add_assoc] at this)
   ·exact hk.elim
  ·exact hk.elim
 ·exact hk.elim

theorem storable {cv : Value} {s : S} {vs : List V} (hφ : ∀ l c, φ l = some c → c.oneCell' = true) (hx : RS F φ w cv s) (hs : cellsOf s = some vs) : P2 (RV F φ w) cv.cells.toList vs ∧ ∀ v ∈ cv.cells.toList, v.oneCell' = true := by
 have key : P2 (RV F φ w) cv.cells.toList vs := by
  cases hx with
  | c hv =>
   simp only [cellsOf, Option.some.injEq] at hs
   subst hs
   have h1 := hv.one hφ
   have : cv.cells = #[cv] := by cases cv <;> first | rfl | simp [Value.oneCell'] at h1
   rw [this]
   exact P2.cons hv P2.nil
  | agg cs vs' hh =>
   simp only [cellsOf, Option.some.injEq] at hs
   subst hs
   exact hh
  | tup => simp [cellsOf] at hs
  | bot => simp [cellsOf] at hs
 refine ⟨key, fun v hv => ?_⟩
 obtain ⟨j, hj, rfl⟩ := List.getElem_of_mem hv
 have hj2 : j < vs.length := by rw [← key.1]; exact hj
 exact (key.2 j _ _ (List.getElem?_eq_getElem hj) (List.getElem?_eq_getElem hj2)).one hφ

theorem P2.take {α β : Type} {R : α → β → Prop} {xs : List α} {ys : List β} (h : P2 R xs ys) (n : Nat) : P2 R (xs.take n) (ys.take n) := by
 refine ⟨by simp [h.1], fun j x y h1 h2 => ?_⟩
 rw [List.getElem?_take] at h1 h2
 split at h1
 ·rw [if_pos (by assumption)] at h2; exact h.2 j x y h1 h2
 ·cases h1
theorem P2.drop {α β : Type} {R : α → β → Prop} {xs : List α} {ys : List β} (h : P2 R xs ys) (n : Nat) : P2 R (xs.drop n) (ys.drop n) := by
 refine ⟨by simp [h.1], fun j x y h1 h2 => ?_⟩
 rw [List.getElem?_drop] at h1 h2
 exact h.2 _ x y h1 h2

theorem elemTI_inv (hT : TabOK P T) {t : Nat} {k : TI → Prop} (hk : elemTI T t k) : ∃ e ei, P.underlying t = some (.slice e) ∧ TIok P T e ei ∧ k ei := by
 unfold elemTI at hk
 split at hk
 ·rename_i ti hti
  split at hk
  ·rename_i e he
   split at hk
   ·rename_i ei hei
    obtain ⟨i, z, d, hi, h1, h2, h3, h4, h5, hd, hkd⟩ := hT t ti hti
    rw [he] at hkd
    subst hkd
    exact ⟨e, ei, hd, hT e ei hei, hk⟩
   ·exact hk.elim
  ·exact hk.elim
 ·exact hk.elim

theorem op_indexAddr {t : Nat} {x y : Operand} {s1 s2 : S} (hT : TabOK P T) (hr : Rp F φ X w h) (ho : o.op = .indexAddr t x y) (hx : RS F φ w (a.eval x) s1) (hy : RS F φ w (a.eval y) s2) (hk : elemTI T t fun ei => aIndexAddr h ei s1 s2 k) (hc : Ct F φ w h N o a k K) : o.wp P a w K Q := by
 obtain ⟨e, ei, hu, hei, hk2⟩ := elemTI_inv hT hk
 clear hk
 have hk := hk2
 clear hk2
 have hsz := hei.sizeOf w
 have hPe : P.elem t = e := by simp [Program.elem, hu]
 unfold aIndexAddr at hk
 generalize hev2 : a.eval y = cy at hy
 generalize hev : a.eval x = cv at hx
 split at hk
 ·rename_i ki i
  have hy' := hy.int_inv
  subst hy'
  have fin : ∀ c rows, cv = c → RT F w c (.lst ei.size rows) → (IdxG rows i fun cs => k (.c (.cptr cs)) []) → o.wp P a w K Q := by
   rintro c rows rfl hrt ⟨cs, ⟨h0, hrow⟩, hk⟩
   have hil : i.toNat < rows.length := (List.getElem?_eq_some_iff.1 hrow).1
   cases hrt with
   | lst0 => simp at hil
   | lst b off n cap _ _ f hF hn hc' hm hz hxx hr' =>
    have hcs : cs.length = ei.size := hz cs (List.mem_of_getElem? hrow)
    refine ct_same hc (.c (.tree (.cptr b (off + i.toNat * ei.size) cs (fun j => f i.toNat j) hF ?_ ?_))) hk ?_
    ·intro j hj; exact hxx _ _ (by omega) (by omega)
    ·intro j v hj; exact hr' _ _ _ _ hrow hj
    ·have hlt : i < (n : Int) := by omega
     simp only [execOp, ho, hev, hev2, Sem.run_bind]
     rw [run_indexAt_slice w t _ _ _ _ _ (by rw [hPe]; exact hu), if_pos ⟨h0, hlt⟩, hPe, hsz]
     simp [add_spot]
  split at hk
  ·rename_i sz rows
   cases hq : Nat.beq sz ei.size with
   | false => simp [hq] at hk
   | true =>
    simp only [hq, cond_true] at hk
    have := beq_eqn hq
    subst this
    cases hx with | c hv => cases hv with | tree hv => exact fin _ _ rfl hv hk
  ·rename_i l
   have hl := hx.row_inv
   split at hk
   ·rename_i e' sz rows hob
    cases hq : Nat.beq sz ei.size with
    | false => simp [hq] at hk
    | true =>
     simp only [hq, cond_true] at hk
     have := beq_eqn hq
     subst this
     obtain ⟨⟨h0, h1⟩, hk⟩ := hk
     rcases hr.objs l _ hob with ⟨c, xs, g1, g2, ⟨g3, _⟩, g4, g5⟩ | ⟨hn, _⟩
     rotate_left
     ·subst hn; simp at h1; omega
     rw [hl] at g1; cases g1
     rcases g3.2 with ⟨hv, hn⟩ | ⟨g, cap, cur, hv, _⟩
     ·omega
     ·subst hv
      refine ct_same hc (.c (.eptr l _ i.toNat 0 g _ cap hl)) hk ?_
      simp only [execOp, ho, hev, hev2, Sem.run_bind]
      rw [run_indexAt_slice w t _ _ _ _ _ (by rw [hPe]; exact hu), if_pos ⟨h0, h1⟩, hPe, hsz]
      simp [add_spot]
   ·rename_i sz rows hob
    cases hq : Nat.beq sz ei.size with
    | false => simp [hq] at hk
    | true =>
     simp only [hq, cond_true] at hk
     have := beq_eqn hq
     subst this
     obtain ⟨c', h1, h2⟩ := hr.objs l _ hob
     rw [hl] at h1; cases h1
     exact fin _ _ rfl h2 hk
   ·rename_i e1 e2 sz ins hob
    cases hq : Nat.beq ei.size 1 with
    | false => simp [hq] at hk
    | true =>
     simp only [hq, cond_true] at hk
     have hs1 := beq_eqn hq
     obtain ⟨⟨h0, h1⟩, hk⟩ := hk
     obtain ⟨c', g1, g2, ⟨g3, _⟩, _⟩ := hr.objs l _ hob
     rw [hl] at g1; cases g1
     obtain ⟨g, cap, rfl⟩ := own_shape1 g3 (by omega)
     refine ct_same hc (.c (.eptr l _ i.toNat 0 g _ cap hl)) hk ?_
     simp only [execOp, ho, hev, hev2, Sem.run_bind]
     rw [run_indexAt_slice w t _ _ _ _ _ (by rw [hPe]; exact hu), if_pos ⟨h0, h1⟩, hPe, hsz, hs1]
     simp [add_spot]
   ·exact hk.elim
  ·rename_i l sz' o n
   split at hk
   ·rename_i e' sz rows hob
    cases hq : Nat.beq sz ei.size && Nat.beq sz' ei.size with
    | false => simp [hq] at hk
    | true =>
     simp only [hq, cond_true] at hk
     rw [Bool.and_eq_true] at hq
     have := beq_eqn hq.1
     subst this
     have := beq_eqn hq.2
     subst this
     obtain ⟨⟨h0, h1⟩, hk⟩ := hk
     cases hx with | c hx => cases hx with
     | tree hx => cases hx
     | vw l sz o n ad a' N cap c' hl hn hc' hcc' ha0' ha' =>
     obtain ⟨b0, hb0, hba⟩ := ha' (by omega)
     rcases hr.objs l _ hob with ⟨c, xs, g1, g2, ⟨g3, _⟩, g4, g5⟩ | ⟨hnn, p, g1⟩
     rotate_left
     ·rw [hl] at g1; cases g1; omega
     rw [hl] at g1; cases g1
     rcases g3.2 with ⟨hv, hn0⟩ | ⟨g, cap', cur, hv, _, _, hcap, _⟩
     ·cases hv; omega
     ·cases hv
      cases hb0
      subst hba
      refine ct_same hc (.c (.eptr l _ (o + _) 0 g _ cap hl)) hk ?_
      simp only [execOp, ho, hev, hev2, Sem.run_bind]
      rw [run_indexAt_slice w t _ _ _ _ _ (by rw [hPe]; exact hu), if_pos ⟨h0, by omega⟩, hPe, hsz]
      simp [add_spot, Nat.add_mul]
   ·exact hk.elim
  ·rename_i l q c
   split at hk
   ·rename_i e1 e2 sz ins hob
    cases hq : Nat.beq sz ei.size with
    | false => simp [hq] at hk
    | true =>
     simp only [hq, cond_true] at hk
     have := beq_eqn hq
     subst this
     obtain ⟨rows, hi, ⟨h0, h1⟩, hk⟩ := hk
     cases hx with | c hx => cases hx with
     | tree hx => cases hx
     | inn l q c hs =>
     obtain ⟨c', g1, g2, g3, g4, _⟩ := hr.objs l _ hob
     obtain ⟨g, cap, hsh⟩ := (g4 _ (List.mem_of_getElem? hi)).shape1 (by simp only; omega)
     simp only at hsh
     subst hsh
     refine ct_same hc (.c (.iptr l q _ i.toNat 0 g _ cap)) hk ?_
     simp only [execOp, ho, hev, hev2, Sem.run_bind]
     rw [run_indexAt_slice w t _ _ _ _ _ (by rw [hPe]; exact hu), if_pos ⟨h0, h1⟩, hPe, hsz]
     simp [add_spot]
   ·exact hk.elim
  ·exact hk.elim
 ·exact hk.elim
theorem arrTI_inv (hT : TabOK P T) {t : Nat} {k : Nat → TI → Prop} (hk : arrTI T t k) : ∃ n e ei, P.underlying t = some (.array n e) ∧ TIok P T e ei ∧ k n ei := by
 unfold arrTI at hk
 split at hk
 ·rename_i ti hti
  split at hk
  ·rename_i n e he
   split at hk
   ·rename_i ei hei
    obtain ⟨i, z, d, hi, h1, h2, h3, h4, h5, hd, hkd⟩ := hT t ti hti
    rw [he] at hkd
    subst hkd
    exact ⟨n, e, ei, hd, hT e ei hei, hk⟩
   ·exact hk.elim
  ·exact hk.elim
 ·exact hk.elim
theorem op_indexAt {t : Nat} {x y : Operand} {s1 s2 : S} (hT : TabOK P T) (hr : Rp F φ X w h) (ho : o.op = .indexAddr t x y) (hx : RS F φ w (a.eval x) s1) (hy : RS F φ w (a.eval y) s2) (hk : aIndexAt T h t s1 s2 k) (hc : Ct F φ w h N o a k K) : o.wp P a w K Q := by
 unfold aIndexAt at hk
 split at hk
 ·rename_i l off
  obtain ⟨n, e, ei, hu, hei, hk2⟩ := arrTI_inv hT hk
  clear hk
  have hk := hk2
  clear hk2
  unfold aIdxArr at hk
  generalize hev2 : a.eval y = cy at hy
  generalize hev : a.eval x = cv at hx
  split at hk
  ·rename_i ki i
   have hy' := hy.int_inv
   subst hy'
   obtain ⟨⟨h0, h1⟩, hk⟩ := hk
   cases hx with | c hv => cases hv with
    | tree hv => cases hv
    | ptr l off b hl =>
     refine ct_same hc (.c (.ptr l _ b hl)) hk ?_
     have hPe : P.elem t = e := by simp [Program.elem, hu]
     have hPn : P.arrayLen t = n := by simp [Program.arrayLen, hu]
     have hsz := hei.sizeOf w
     simp only [execOp, ho, hev, hev2, Sem.run_bind]
     rw [run_indexAt_array w t _ _ _ (by rw [hPe, hPn]; exact hu), hPn, if_pos ⟨h0, h1⟩, hPe, hsz]
     simp [add_spot]
  ·exact hk.elim
 ·exact op_indexAddr hT hr ho hx hy hk hc
end
end Abs
end Go.Proofs.YtkefgcleaalnnaaGreat
