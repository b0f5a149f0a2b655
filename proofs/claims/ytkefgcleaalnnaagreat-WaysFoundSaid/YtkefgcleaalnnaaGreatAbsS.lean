/- Each operation does what the abstract walk says (aggregates and slices that are made). -/
import Derived.Test.YtkefgcleaalnnaaGreatAbsR
namespace Go.Proofs.YtkefgcleaalnnaaGreat
set_option linter.unusedVariables false
set_option linter.unusedSimpArgs false
namespace Abs

section
variable {P : Program} {T : List (Nat × TI)} {F : Nat → Prop} {φ : Nat → Option Value} {X : Nat → Prop} {w : World} {h : Nat → Option Ob} {id : Nat} {N : Nat → Prop} {a : Act} {o : Oper} {k : S → Ch → Prop} {K : Act → World → Prop} {Q : Exit → Act → World → Prop} {PC : Nat → List S → List Ob → (S → List Ob → Prop) → Prop} {mt : List Nat}

theorem foldl_set : ∀ (l : List Value) (n off : Nat) (cells : Array Value), off + n + l.length ≤ cells.size →
  ((l.zipIdx n).foldl (fun cs (p : Value × Nat) => cs.setIfInBounds (off + p.2) p.1) cells).toList = cells.toList.take (off + n) ++ l ++ cells.toList.drop (off + n + l.length)
 | [], n, off, cells, _ => by simp
 | x :: r, n, off, cells, hl => by
  simp only [List.zipIdx_cons, List.foldl_cons]
  rw [foldl_set r (n + 1) off _ (by simp at hl ⊢; omega)]
  simp only [Array.toList_setIfInBounds, List.length_cons] at hl ⊢
  have hlt : off + n < cells.toList.length := by simp; omega
  rw [show off + (n + 1) = off + n + 1 by omega, List.take_add_one, show off + n + 1 + r.length = off + n + (r.length + 1) by omega]
  rw [List.drop_set_of_lt (by omega), List.take_set_of_le (by omega)]
  have hlt2 : off + n < cells.size := by simpa using hlt
  simp [List.getElem?_set, hlt2]
theorem fold_cells (c : Value) (off : Nat) (cells : Array Value) (hl : off + c.cells.size ≤ cells.size) :
  (c.cells.zipIdx.foldl (fun cs (p : Value × Nat) => cs.setIfInBounds (off + p.2) p.1) cells).toList = cells.toList.take off ++ c.cells.toList ++ cells.toList.drop (off + c.cells.size) := by
 rw [← Array.foldl_toList, Array.toList_zipIdx]
 have := foldl_set c.cells.toList 0 off cells (by simpa using hl)
 simpa using this

theorem cells_P2 (hφ : ∀ l c, φ l = some c → c.oneCell' = true) {cv : Value} {s : S} {vs : List V} (hx : RS F φ w cv s) (hs : cellsOf s = some vs) : P2 (RV F φ w) cv.cells.toList vs := (storable hφ hx hs).1

theorem fill_sound (hφ : ∀ l c, φ l = some c → c.oneCell' = true) {pl : Nat → Option (Nat × Nat)} {place : Nat → Option (Nat × Nat)} (hpl : ∀ i p, pl i = some p → place i = some p) {k : List V → Prop} : ∀ (is : List Nat) (cvs : List Value) (ss : List S) (cells : Array Value) (cs : List V), is.length = cvs.length → P2 (RS F φ w) cvs ss → P2 (RV F φ w) cells.toList cs → putParts pl (zipN is ss) cs k →
  ∃ cells' cs', Instr.fill place cells (is.zip cvs) = some cells' ∧ P2 (RV F φ w) cells'.toList cs' ∧ k cs'
 | [], cvs, ss, cells, cs, hl, hp, hc, hk => by
  cases cvs with
  | nil =>
   have : zipN [] ss = [] := by cases ss <;> rfl
   rw [this] at hk
   exact ⟨cells, cs, rfl, hc, hk⟩
  | cons => simp at hl
 | i :: is, [], ss, cells, cs, hl, hp, hc, hk => by simp at hl
 | i :: is, c :: cvs, [], cells, cs, hl, hp, hc, hk => by have := hp.1; simp at this
 | i :: is, c :: cvs, s :: ss, cells, cs, hl, hp, hc, hk => by
  obtain ⟨c', cvs', he, h1, h2⟩ := hp.cons_inv
  cases he
  simp only [zipN, putParts] at hk
  split at hk
  ·rename_i p hp'
   split at hk
   ·rename_i vs hvs
    cases hb : Nat.beq vs.length p.2 && Nat.ble (p.1 + vs.length) cs.length with
    | false => simp only [hb, cond_false] at hk
    | true =>
     simp only [hb, cond_true] at hk
     rw [Bool.and_eq_true] at hb
     have e1 := beq_eqn hb.1
     have e2 := Nat.le_of_ble_eq_true hb.2
     have hcs := cells_P2 hφ h1 hvs
     have hlc : c.cells.size = vs.length := by have := hcs.1; simpa using this
     have hsz : cells.size = cs.length := by have := hc.1; simpa using this
     obtain ⟨cells', cs', g1, g2, g3⟩ := fill_sound hφ hpl is cvs ss (c.cells.zipIdx.foldl (fun cs (p' : Value × Nat) => cs.setIfInBounds (p.1 + p'.2) p'.1) cells) (putL p.1 vs cs) (by simpa using hl) h2 (by
      rw [fold_cells _ _ _ (by omega), putL_eq _ _ _ e2, hlc]
      exact ((hc.take p.1).append hcs).append (hc.drop _)) hk
     refine ⟨cells', cs', ?_, g2, g3⟩
     simp only [List.zip_cons_cons, Instr.fill, hpl i p hp']
     rw [if_neg]
     ·exact g1
     ·simp; omega
   ·exact hk.elim
  ·exact hk.elim

theorem mapM_places : ∀ (fs : List Field), (∀ f ∈ fs, ∃ i', P.info? f.type = some i') → ∃ places, fs.mapM (fun f => (P.info? f.type).map fun i => (f.offset, i.size)) = some places ∧ ∀ (j : Nat) (fld : Field) (i' : TypeInfo), fs[j]? = some fld → P.info? fld.type = some i' → places[j]? = some (fld.offset, i'.size)
 | [], _ => ⟨[], by simp, fun j fld i' h => by simp at h⟩
 | f :: r, hf => by
  obtain ⟨i0, hi0⟩ := hf f (by simp)
  obtain ⟨pl, h1, h2⟩ := mapM_places r (fun g hg => hf g (by simp [hg]))
  refine ⟨(f.offset, i0.size) :: pl, by simp [List.mapM_cons, hi0, h1], ?_⟩
  intro j fld i' hj hi
  cases j with
  | zero => simp at hj; subst hj; rw [hi0] at hi; cases hi; simp
  | succ j => simp at hj ⊢; exact h2 j fld i' hj hi

theorem op_build {t : Nat} {ti : TI} {ps : Array (Nat × Operand)} {ss : List S} (hT : TabOK P T) (ht : TIok P T t ti) (hr : Rp F φ X w h) (ho : o.op = .build t ps) (hx : P2 (RS F φ w) (ps.toList.map fun p => a.eval p.2) ss) (hk : aBuild T ti (ps.toList.map (·.1)) ss k) (hc : Ct F φ w h N o a k K) : o.wp P a w K Q := by
 obtain ⟨i, z, d, hi, h1, h2, h3, h4, h5, hd, hkd⟩ := ht
 unfold aBuild at hk
 split at hk
 ·rename_i fs hfs
  simp only [hfs] at hkd
  obtain ⟨fields, rfl, ⟨_, hall, _⟩, hf⟩ := hkd
  obtain ⟨places, hp1, hp2⟩ := mapM_places (P := P) fields.toList hall
  have hpl : ∀ j p, placesOf T ti j = some p → places.toArray[j]? = some p := by
   intro j p hj
   unfold placesOf at hj
   simp only [hfs] at hj
   split at hj
   ·rename_i fo hfo
    split at hj
    ·rename_i fi hfi
     cases hj
     obtain ⟨fld, i', g1, g2, g3, g4, g5⟩ := hf j fo hfo
     obtain ⟨i2, _, _, hi2, hs2, _⟩ := hT _ _ hfi
     rw [g3, hi2] at g4; cases g4
     have := hp2 j fld _ (by simpa using g1) (by rw [g3]; exact hi2)
     rw [g2, hs2] at this
     simpa using this
    ·cases hj
   ·cases hj
  obtain ⟨cells', cs', g1, g2, g3⟩ := fill_sound hr.one hpl _ _ _ z.cells ti.zero (by simp) hx (constVs_sound h5) hk
  refine ct_same hc (.agg cells' cs' g2) g3 ?_
  have hzip : (ps.map fun x => (x.1, a.eval x.2)).toList = (ps.toList.map (·.1)).zip (ps.toList.map fun p => a.eval p.2) := by
   rw [Array.toList_map]
   induction ps.toList with
   | nil => rfl
   | cons p r ih => simp [ih]
  have hrun := run_build (P := P) w t (ps.map fun x => (x.1, a.eval x.2)) cells' (by
   rw [hzip]
   unfold Program.built
   simp only [hi, hd, h3, hp1]
   exact g1)
  simp only [execOp, ho]
  rw [Sem.run_bind, hrun]
  rfl
 ·rename_i n e hae
  simp only [hae] at hkd
  subst hkd
  obtain ⟨ei, hei, hk⟩ := withT2_inv hT hk
  obtain ⟨ie, _, _, hie, hs2, _⟩ := hei
  have hpl : ∀ j p, (fun i => some (i * ei.size, ei.size)) j = some p → (fun i => some (i * ie.size, ie.size)) j = some p := by
   intro j p hj
   rw [hs2]; exact hj
  obtain ⟨cells', cs', g1, g2, g3⟩ := fill_sound hr.one hpl _ _ _ z.cells ti.zero (by simp) hx (constVs_sound h5) hk
  refine ct_same hc (.agg cells' cs' g2) g3 ?_
  have hzip : (ps.map fun x => (x.1, a.eval x.2)).toList = (ps.toList.map (·.1)).zip (ps.toList.map fun p => a.eval p.2) := by
   rw [Array.toList_map]
   induction ps.toList with
   | nil => rfl
   | cons p r ih => simp [ih]
  have hrun := run_build (P := P) w t (ps.map fun x => (x.1, a.eval x.2)) cells' (by
   rw [hzip]
   unfold Program.built
   simp only [hi, hd, h3, hie]
   exact g1)
  simp only [execOp, ho]
  rw [Sem.run_bind, hrun]
  rfl
 ·exact hk.elim

theorem constVs_tree : ∀ {cs : List Value} {vs : List V}, constVs cs = some vs → P2 (RT F w) cs vs
 | [], vs, hc => by simp [constVs] at hc; subst hc; exact P2.nil
 | c :: r, vs, hc => by
  simp only [constVs] at hc
  split at hc
  ·rename_i v hv
   split at hc
   ·rename_i vs' hvs
    cases hc
    exact P2.cons (constV_sound hv) (constVs_tree hvs)
   ·cases hc
  ·cases hc

theorem new_row (hr : Rp F φ X w h) (hN : N id) (hid : φ id = none) (cells : Array Value) {n sz : Nat} (e : TypeId) (rows : List (List V)) (hn : rows.length = n) (hsz : cells.size = n * sz) (hm : n ≤ maxLen) (hp : P2 (RT F w) cells.toList rows.flatten) (hz : ∀ r ∈ rows, r.length = sz) :
  Nx F φ w h N [(id, .row e sz rows)] F (addφ φ id (.slice (some ⟨w.heap.size, 0, none⟩) n n)) (w.alloc (.cells cells e)) ∧ RS F (addφ φ id (.slice (some ⟨w.heap.size, 0, none⟩) n n)) (w.alloc (.cells cells e)) (.slice (some ⟨w.heap.size, 0, none⟩) n n) (.c (.row id)) := by
 have hw : ∀ b, F b → (w.alloc (.cells cells e)).heap[b]? = w.heap[b]? := fun b hb' => heap_alloc_old w _ (hr.bd b hb')
 refine ⟨Nx.new hr hN hid _ rfl _ _ (fun b hb' => hb_slice hb') ?_, .c (.row id _ (by simp [addφ]))⟩
 refine RO.mkrow (c := .slice (some ⟨w.heap.size, 0, none⟩) n n) (xs := cells.toList) (by simp [addφ]) (fun b hb' hF => ?_) ⟨by simp [hn, hsz], .inr ⟨w.heap.size, n, cells, by rw [hn], Nat.zero_le _, heap_alloc_new w _, by omega, hm, hsz, ?_⟩⟩ (hp.mono fun _ _ hh => hh.up (fun _ h => h) hw) hz
 ·have h3 := hr.bd _ hF
  have h4 := hb_slice hb'
  simp at h4
  omega
 ·rw [hn, ← hsz]; exact List.take_of_length_le (by simp)

theorem madeCells_list (z : Array Value) (hz : 0 < z.size) : ∀ n, (madeCells z (n * z.size)).toList = (List.replicate n z.toList).flatten := by
 intro n
 apply List.ext_getElem?
 intro j
 induction n generalizing j with
 | zero => simp [madeCells]
 | succ n ih =>
  have key : ∀ m j, (madeCells z m).toList[j]? = if j < m then some (z[j % z.size]!) else none := by
   intro m j
   by_cases hj : j < m <;> simp [madeCells, hj]
  rw [key]
  rw [List.replicate_succ, List.flatten_cons]
  by_cases hj : j < z.size
  ·rw [List.getElem?_append_left (by simpa using hj), if_pos (by rw [Nat.add_mul]; omega), Nat.mod_eq_of_lt hj]
   simp [hj]
  ·have := ih (j - z.size)
   rw [key] at this
   rw [List.getElem?_append_right (by simpa using hj)]
   simp only [Array.length_toList]
   rw [← this, Nat.add_mul, Nat.one_mul]
   have hmod : (j - z.size) % z.size = j % z.size := by
    conv => rhs; rw [show j = j - z.size + z.size by omega]
    rw [Nat.add_mod_right]
   rw [hmod]
   by_cases h2 : j < n * z.size + z.size
   ·rw [if_pos h2, if_pos (by omega)]
   ·rw [if_neg h2, if_neg (by omega)]

theorem op_makeSlice {x y : Operand} {s1 s2 : S} {t : Nat} (hT : TabOK P T) (hr : Rp F φ X w h) (hN : N id) (hid : φ id = none) (ho : o.op = .makeSlice t x y)
  (hx : RS F φ w (a.eval x) s1) (hy : RS F φ w (a.eval y) s2) (hk : elemTIe T t fun e ei => aMakeSlice id e ei s1 s2 k) (hc : Ct F φ w h N o a k K) : o.wp P a w K Q := by
 obtain ⟨e, ei, hu, hei, hpos, hk2⟩ := elemTIe_inv hT hk
 clear hk
 have hk := hk2
 clear hk2
 obtain ⟨i, z, d, hi, h1, h2, h3, h4, h5, hd, hkd⟩ := hei
 unfold aMakeSlice at hk
 split at hk
 ·rename_i k1 n k2 c
  obtain ⟨⟨rfl, h0, hroom⟩, hk⟩ := hk
  have e1 := hx.int_inv
  have e2 := hy.int_inv
  have hb1 := hroom.1
  have hb2 := hroom.2
  have hnn : ((c.toNat : Nat) : Int) = c := Int.toNat_of_nonneg h0
  have hrun := run_make (P := P) w t e i z hu hi h3 k1 k2 c c h0 (Int.le_refl _) (by
   rw [h2]
   have : ((ei.bytes * c.toNat : Nat) : Int) ≤ 281474976710656 := by rw [Nat.mul_comm]; omega
   rwa [Int.natCast_mul, hnn] at this) (by omega)
  replace h4 := h4.1
  have hzp : 0 < z.cells.size := by rw [h4]; exact hpos
  obtain ⟨hn, hs⟩ := new_row hr hN hid (madeCells z.cells (c.toNat * i.size)) (n := c.toNat) (sz := ei.size) e (List.replicate c.toNat ei.zero) (by simp) (by rw [size_madeCells, h1]) (by unfold maxLen; omega) (by
   rw [h1, ← h4, madeCells_list _ hzp]
   have hz0 : P2 (RT F w) z.cells.toList ei.zero := constVs_tree h5
   induction c.toNat with
   | zero => exact P2.nil
   | succ m ih => rw [List.replicate_succ, List.replicate_succ, List.flatten_cons, List.flatten_cons]; exact hz0.append ih) (by
   intro r hr'
   rw [(List.mem_replicate.1 hr').2]
   have := (constVs_sound (F := F) (φ := φ) (w := w) h5).1
   rw [← this, ← h4]; simp)
  refine wp_value (w' := _) ?_ (hc _ _ _ _ _ _ hn hs hk)
  simp only [execOp, ho, e1, e2]
  rw [Sem.run_bind, hrun]
  rfl
 ·exact hk.elim
end
end Abs
end Go.Proofs.YtkefgcleaalnnaaGreat
