/- An append to a part of a row, behind the row's end: in place, or as a new row. -/
import Derived.Test.YtkefgcleaalnnaaGreatAbsVw
import Derived.Deep.AppendSrc
namespace Go.Proofs.YtkefgcleaalnnaaGreat
set_option linter.unusedVariables false
set_option linter.unusedSimpArgs false
namespace Abs
open Go.RowKit

section
variable {P : Program} {T : List (Nat × TI)} {F : Nat → Prop} {φ : Nat → Option Value} {X : Nat → Prop} {w : World} {h : Nat → Option Ob} {id : Nat} {N : Nat → Prop} {a : Act} {o : Oper} {k : S → Ch → Prop} {K : Act → World → Prop} {Q : Exit → Act → World → Prop}

theorem nx_anew {l : Nat} {ob : Ob} {c1 c' : Value} {w' : World} {e sz : Nat} {rows' : List (List V)} {xs' : List Value} (hr : Rp F φ X w h) (hN : N id) (hid : φ id = none) (hob : h l = some ob) (hlive : live ob = true) (hl : φ l = some c1)
  (hown : w'.ownsRow 0 e sz c' rows'.length xs') (hP : P2 (RT F w) xs' rows'.flatten) (hz : ∀ r ∈ rows', r.length = sz) (hg : w.grownBy w' (hb c1)) (hblk : ∀ b, hb c' = some b → hb c1 = some b ∨ b = w.heap.size) (hsh : c'.oneCell' = true) (hd : w.drawn ≤ w'.drawn) :
  Nx F φ w h N [(l, .dead), (id, .row e sz rows')] F (addφ φ id c') w' := by
 have hφ := addφ_ext hid c'
 have hF1 : ∀ b, hb c1 = some b → ¬ F b ∧ b < w.heap.size := by
  intro b hb'
  have := (hr.objs l ob hob).lt hlive (b := b) (.inl (by simp [blkOf, hl, hb']))
  exact ⟨this.2, this.1⟩
 have hkF : ∀ b, F b → w'.heap[b]? = w.heap[b]? := by
  intro b hFb
  refine hg.block b (hr.bd b hFb) (fun e => ?_)
  exact (hF1 b e.symm).1 hFb
 have hne : id ≠ l := fun e => by rw [← e, hid] at hl; cases hl
 have hq : ∀ l2 ob2, chGet [(l, .dead), (id, Ob.row e sz rows')] l2 = some ob2 → (l2 = id ∧ ob2 = .row e sz rows') ∨ ob2 = .dead := by
  intro l2 ob2 hx
  by_cases e1 : id = l2
  ·subst e1
   simp [chGet, Ne.symm hne] at hx
   exact .inl ⟨rfl, hx.symm⟩
  ·by_cases e2 : l = l2
   ·subst e2; simp [chGet, e1] at hx; exact .inr hx.symm
   ·simp [chGet, e1, e2] at hx
 have hsome : (chGet [(l, .dead), (id, Ob.row e sz rows')] l).isSome = true := by simp [chGet, hne]
 have hin : ∀ b, hb c1 = some b → ∃ l2 o2, h l2 = some o2 ∧ live o2 = true ∧ Blk φ l2 o2 b ∧ (chGet [(l, .dead), (id, Ob.row e sz rows')] l2).isSome := by
  intro b hb'
  exact ⟨l, ob, hob, hlive, .inl (by simp [blkOf, hl, hb']), hsome⟩
 refine ⟨fun _ h => h, hφ, ?_, hg.os, hg.tape, hg.output, fun _ => hd, hg.size, ?_, fun b hb' => .inl hb', ?_, ?_, ?_⟩
 ·intro l d hl
  unfold addφ at hl
  split at hl
  ·rename_i e1; subst e1; cases hl; exact .inr ⟨hN, hsh⟩
  ·exact .inl hl
 ·intro b hb' hne
  by_cases e1 : hb c1 = some b
  ·exact hin b e1
  ·exact (hne (hg.block b hb' (fun e2 => e1 e2.symm))).elim
 ·intro l2 ob2 hx
  rcases hq l2 ob2 hx with ⟨rfl, rfl⟩ | rfl
  ·refine RO.mkrow (c := c') (xs := xs') (by simp [addφ]) ?_ hown ?_ hz
   ·intro b hb' hFb
    rcases hblk b hb' with h6 | h6
    ·exact (hF1 b h6).1 hFb
    ·have := hr.bd b hFb; omega
   ·exact hP.mono fun _ _ hh => hh.up (fun _ h => h) hkF
  ·trivial
 ·intro l2 ob2 b hx hv hb'
  rcases hq l2 ob2 hx with ⟨rfl, rfl⟩ | rfl
  ·replace hb' := hb'.base; simp only [blkOf, addφ, if_true, Option.bind_some] at hb'
   rcases hblk b hb' with h6 | h6
   ·exact .inr (hin b h6)
   ·exact .inl (by omega)
  ·simp [live] at hv
 ·intro l2 l3 ob2 ob3 b hx hx' hv hv' _ _
  rcases hq l2 ob2 hx with ⟨rfl, rfl⟩ | rfl
  ·rcases hq l3 ob3 hx' with ⟨rfl, rfl⟩ | rfl
   ·rfl
   ·simp [live] at hv'
  ·simp [live] at hv
theorem op_appendQ {x y : Operand} {l sz' p n : Nat} {s2 : S} {c : Call} {t : Nat} (hT : TabOK P T) (hr : Rp F φ X w h) (hN : N id) (hid : φ id = none) (ho : o.op = .call c) (hcal : c.callee = .builtin .append) (ha : c.args.toList = [x, y]) (hat : c.argTypes = #[t, t])
  (hx : RS F φ w (a.eval x) (.c (.vw l sz' p n))) (hy : RS F φ w (a.eval y) s2) (hk : elemTIe T t fun e ei => aAppendQ h id e ei l sz' p n s2 k) (hc : Ct F φ w h N o a k K) : o.wp P a w K Q := by
 obtain ⟨e, ei, hu, hei, hpos, hk2⟩ := elemTIe_inv hT hk
 clear hk
 have hk := hk2
 clear hk2
 have hszr := hei.sizeOf w
 have hE := Elem_of hu hei hpos
 generalize hev : a.eval x = cv at hx
 unfold aAppendQ at hk
 obtain ⟨ax, cx, ys, rows2, hcy, hAt, hP2, hlen, hz2, hk2⟩ := rowsOf_inv hr hy hk
 clear hk
 have hk := hk2
 clear hk2
 split at hk
 rotate_left
 ·exact hk.elim
 rename_i e' sz rows hob
 cases hq : Nat.beq sz ei.size && Nat.beq sz' ei.size with
 | false => simp [hq] at hk
 | true =>
  simp only [hq, cond_true] at hk
  rw [Bool.and_eq_true] at hq
  have hs := beq_eqn hq.1
  have hs' := beq_eqn hq.2
  cases hx with | c hx => cases hx with
  | tree hx => cases hx
  | vw l _ p n ad aa M cap c' hl hn hc' hcc' ha0' ha' =>
   have hcap : M ≤ cap ∧ M = rows.length := by
    have htree := (hr.objs _ _ hob).row_tree hl
    obtain ⟨ad2, cap2, e1⟩ := htree.lst_shape
    cases e1
    exact ⟨htree.lst_cap.1, rfl⟩
   rcases hk with ⟨hfit, hk⟩ | hk
   ·-- within the row
    obtain ⟨hM, w', hw', hnx⟩ := row_over (P := P) (N := N) hr hob (hs ▸ hpos) hl (p := p + n) (nr := rows2) (by omega) (by intro r hr'; rw [hz2 r hr', hs]) ys hP2
    have hread := first_run (P := P) (n := rows2.length) (cx := cx) hAt (Nat.le_of_eq hlen.symm) hpos
    rw [← hlen, List.take_length] at hread
    have hcap2 : n + rows2.length ≤ c' := by omega
    have hv : RS F φ w' (.slice aa (n + rows2.length) c') (.c (.vw l sz' p (n + rows2.length))) := .c (.vw l sz' p (n + rows2.length) ad aa M cap c' hl (by omega) hcap2 hcc' ha0' ha')
    refine wp_value (v := .slice aa (n + rows2.length) c') (w' := w') (run_call_builtin ho hcal ha ?_) (hc _ _ _ _ _ _ hnx hv hk)
    simp only [builtin, hat, List.map_cons, List.map_nil, hev, hcy, Sem.run_bind]
    rcases hw' with ⟨h0, rfl⟩ | ⟨h0, b, rfl, hcp, hst⟩
    ·subst h0
     have hys : ys = [] := by simpa using hlen
     subst hys
     cases aa with
     | none => cases ax <;> simp [Builtin.append_, run_underlying hu, hszr, Builtin.lenOf, show n ≤ c' by omega, Builtin.firstCells, loadCells, loadCellsFrom]
     | some q => cases ax <;> simp [Builtin.append_, run_underlying hu, hszr, Builtin.lenOf, show n ≤ c' by omega, Builtin.firstCells, loadCells, loadCellsFrom, storeCells]
    ·have hp0 : 0 < rows2.length := List.length_pos_iff.2 h0
     obtain ⟨b2, e1, e2⟩ := ha' (by omega)
     cases e1
     subst e2
     rw [hs] at hst
     have e3 : ((⟨b, 0, none⟩ : Addr).add (p * sz')).add (n * ei.size) = ⟨b, (p + n) * ei.size, none⟩ := by
      rw [add_addr, add_spot, hs', Nat.add_mul, Nat.zero_add]
     simp [Builtin.append_, run_underlying hu, hszr, Builtin.lenOf, hcap2, hread, e3, hst]
   ·-- behind the row's end
    obtain ⟨⟨hend, he, ⟨h0, h1⟩, hroom⟩, hk⟩ := hk
    obtain ⟨hMc, rfl⟩ := hcap
    subst he hs hs'
    rcases hr.objs _ _ hob with ⟨c0, xs, k1, k2, ⟨k3, k3r⟩, k4, k5⟩ | ⟨k1, _⟩
    rotate_left
    ·rw [k1] at h0; simp at h0
    rw [hl] at k1
    cases k1
    have hxl := k3.1
    rcases k3.2 with ⟨k6, _⟩ | ⟨g, cap', cur, k6, _, hh, _, hcm, hcs, htake⟩
    ·simp only [Value.slice.injEq] at k6; omega
    cases k6
    have hys0 : 0 < ys.length := by rw [hlen]; exact Nat.mul_pos (by omega) hpos
    rcases hAt with hy0 | ⟨b, off, rfl, hcell⟩
    ·rw [hy0] at hys0; simp at hys0
    obtain ⟨ht, i, z, hi, hz, hsize, hby, hzs, hsz⟩ := hE
    have hnews : ∀ j u, ys[j]? = some u → w.cell? ((⟨b, off, none⟩ : Addr).add j) = some u := by
     intro j u hu
     have hj : j < ys.length := (List.getElem?_eq_some_iff.1 hu).1
     rw [add_spot, hcell j hj, hu]
    have hone := hP2.ones
    have hAt2 : At w (some ⟨b, off, none⟩) ys := .inr ⟨b, off, rfl, hcell⟩
    have hsrc : Src P i.size t (.slice (some ⟨b, off, none⟩) rows2.length cx) rows2.length ys w := Src.ofSlice w ht ⟨b, off, none⟩ rows2.length cx ys (by rw [hsize]; exact hlen) hnews hone
    have hmax : rows.length + rows2.length ≤ maxLen := by have := hroom.1; unfold maxLen; omega
    by_cases hrm : n + rows2.length ≤ c'
    ·-- in place
     obtain ⟨b2, e1, e2⟩ := ha' (by omega)
     cases e1
     rw [add_spot, Nat.zero_add] at e2
     subst e2
     have hidx : ∀ j, j < ys.length → rows.length * i.size + j < cur.size := by
      intro j hj
      rw [hcs, hsize]
      have : rows.length * ei.size + ys.length ≤ cap * ei.size := by rw [hlen, ← Nat.add_mul]; exact Nat.mul_le_mul_right _ (by omega)
      omega
     have hcl : ∀ (q : Nat), q = rows.length * i.size → (∀ j, j < ys.length → (w.cell? ⟨g, q + j, none⟩).isSome = true) ∧ (∀ j, j < ys.length → w.frozen? ⟨g, q + j, none⟩ = false) := by
      rintro q rfl
      refine ⟨fun j hj => ?_, fun j hj => ?_⟩
      ·have := hidx j hj
       simp [World.cell?, hh, this]
      ·simp [World.frozen?, hh]
     have hw1 := run_append_room_src (P := P) (w := w) t t o.type e' i ht hi g 0 rows.length cap _ rows2.length ys hsrc (by omega) (hcl (0 + rows.length * i.size) (by omega)).1 (hcl (0 + rows.length * i.size) (by omega)).2
     have e3 : p * ei.size + n * i.size = 0 + rows.length * i.size := by rw [← hend, hsize, Nat.add_mul]; omega
     have hw2 := run_append_room_src (P := P) (w := w) t t o.type e' i ht hi g (p * ei.size) n c' _ rows2.length ys hsrc hrm (hcl _ (by omega)).1 (hcl _ (by omega)).2
     rw [e3] at hw2
     obtain ⟨c2, w2, r1, r2, r3, r4⟩ := run_push3 (P := P) t o.type e' ei.size ei.bytes ⟨ht, i, z, hi, hz, hsize, hby, hzs, hsz⟩ _ rows.length xs (.inl ⟨k3, k3r⟩) (some ⟨b, off, none⟩) rows2.length cx ys hAt2 hlen hone hmax hroom.2
     rw [hw1] at r1
     cases r1
     have r2 := r2.resolve_right (by rintro ⟨q, _⟩; omega)
     have hnx := nx_anew (rows' := rows ++ rows2) hr hN hid hob rfl hl (by rw [List.length_append]; exact r2) (by rw [List.flatten_append]; exact k4.append hP2) (by
      intro r hr'
      rcases List.mem_append.1 hr' with h6 | h6
      ·exact k5 r h6
      ·exact hz2 r h6) r3 r4 rfl (sem_mono _ hw1)
     refine wp_value (run_call_builtin ho hcal ha ?_) (hc _ _ _ _ _ _ hnx (.c (.vw id ei.size p (n + rows2.length) (some ⟨g, 0, none⟩) (some ⟨g, p * ei.size, none⟩) (rows.length + rows2.length) cap c' (by simp [addφ]) (by omega) hrm hcc' (fun h00 => by subst h00; simp) (fun _ => ⟨_, rfl, by rw [add_spot, Nat.zero_add]⟩))) (hk p rows (by omega) rfl ⟨hend.symm, Nat.le_refl _⟩))
     simp only [builtin, hat, List.map_cons, List.map_nil, hev, hcy, hw2, Sem.run_bind, Result.andThen_ok, Sem.run_pure]
    ·-- as a new row
     have hold : (Builtin.firstCells i.size n (.slice aa n c')).run P w.drew = .ok (xs.drop (p * ei.size)).toArray w.drew := by
      by_cases hn0 : n = 0
      ·subst hn0
       have hd : xs.drop (p * ei.size) = [] := List.drop_eq_nil_of_le (by rw [hxl, ← hend]; simp)
       rw [hd]
       cases aa with
       | none => exact run_firstCells_none w.drew i.size 0 0 c'
       | some q => exact run_firstCells_some w.drew i.size 0 q 0 c' [] (by simp) (by simp)
      ·obtain ⟨b2, e1, e2⟩ := ha' (by omega)
       cases e1
       rw [add_spot, Nat.zero_add] at e2
       subst e2
       refine run_firstCells_some w.drew i.size n _ n c' _ (by rw [List.length_drop, hxl, ← hend, hsize, Nat.add_mul]; omega) ?_
       intro j u hu
       rw [List.getElem?_drop] at hu
       have hj := (List.getElem?_eq_some_iff.1 hu).1
       rw [add_spot]
       have h7 : cur[p * ei.size + j]? = some u := by
        rw [← htake, List.getElem?_take] at hu
        split at hu
        ·simpa using hu
        ·cases hu
       have h8 : w.cell? ⟨g, p * ei.size + j, none⟩ = some u := by simpa [World.cell?, hh] using h7
       simpa using h8
     have hbytes : (n + rows2.length) * i.bytes ≤ 140737488355328 := by
      rw [hby]; exact Nat.le_trans (Nat.mul_le_mul_right _ (by omega)) hroom.2
     have hw := run_append_grow_src (P := P) (w := w) t t o.type e' i z ht hi hz aa n c' _ hold _ rows2.length ys hsrc (by omega) (by have := hroom.1; omega) (growslice_fits (by omega) hbytes)
     have hol : (xs.drop (p * ei.size)).length = n * ei.size := by rw [List.length_drop, hxl, ← hend, Nat.add_mul]; omega
     have hge := grownCap_ge w (n + rows2.length) c' e'
     have hgm : grownCap w (n + rows2.length) c' e' ≤ maxLen := grownCap_le_maxLen w (n + rows2.length) c' e' (by omega)
     have hnl : (xs.drop (p * ei.size) ++ ys).length = (n + rows2.length) * ei.size := by rw [List.length_append, hol, hlen, Nat.add_mul]
     have hrl : (rows.drop p ++ rows2).length = n + rows2.length := by rw [List.length_append, List.length_drop]; omega
     have hfd : (rows.drop p).flatten = rows.flatten.drop (p * ei.size) := (flat_cut rows p k5).1
     have hnx := nx_anew (rows' := rows.drop p ++ rows2) (xs' := xs.drop (p * ei.size) ++ ys) (w' := w.drew.alloc (.cells ((xs.drop (p * ei.size) ++ ys).toArray ++ Builtin.zeroCells z.cells (grownCap w (n + rows2.length) c' e' - (n + rows2.length))) e')) (c' := .slice (some ⟨w.heap.size, 0, none⟩) (n + rows2.length) (grownCap w (n + rows2.length) c' e')) hr hN hid hob rfl hl (by
       rw [hrl]
       refine ⟨hnl, .inr ⟨w.heap.size, _, _, rfl, Nat.zero_le _, heap_alloc_new w.drew _, hge, hgm, ?_, ?_⟩⟩
       ·simp only [Array.size_append, List.size_toArray, size_zeroCells, hzs, hnl, ← Nat.add_mul]
        congr 1
        omega
       ·simp only [Array.toList_append]
        rw [← hnl]
        exact List.take_left)
      (by rw [List.flatten_append, hfd]; exact (k4.drop _).append hP2) (by
       intro r hr'
       rcases List.mem_append.1 hr' with h6 | h6
       ·exact k5 r (List.mem_of_mem_drop h6)
       ·exact hz2 r h6) ⟨rfl, rfl, rfl, by simp, fun k9 hk9 _ => heap_alloc_old w.drew _ hk9⟩ (fun b hb' => by
       right
       generalize grownCap w (n + rows2.length) c' e' = gc at hb'
       cases gc with
       | zero => simp [hb] at hb'
       | succ q => simp [hb] at hb'; exact hb'.symm) rfl (sem_mono _ hw)
     refine wp_value (run_call_builtin ho hcal ha ?_) (hc _ _ _ _ _ _ hnx (.c (.vw id ei.size 0 (n + rows2.length) (some ⟨w.heap.size, 0, none⟩) (some ⟨w.heap.size, 0, none⟩) (n + rows2.length) (grownCap w (n + rows2.length) c' e') (grownCap w (n + rows2.length) c' e') (by simp [addφ]) (by omega) hge (by omega) (fun _ => rfl) (fun _ => ⟨_, rfl, by rw [Nat.zero_mul, add_spot]⟩))) (hk 0 (rows.drop p) (Nat.zero_le _) rfl ⟨by rw [List.length_drop]; omega, by rw [List.length_drop]; omega⟩))
     simp only [builtin, hat, List.map_cons, List.map_nil, hev, hcy, hw, Sem.run_bind, Result.andThen_ok, Sem.run_pure]
end
end Abs
end Go.Proofs.YtkefgcleaalnnaaGreat
