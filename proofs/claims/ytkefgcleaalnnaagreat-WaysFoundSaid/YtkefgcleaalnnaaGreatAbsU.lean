/- Each operation does what the abstract walk says (slices cut and written out). -/
import Derived.Test.YtkefgcleaalnnaaGreatAbsS
import Derived.Laws.Slices
import Derived.Laws.Strings2
namespace Go.Proofs.YtkefgcleaalnnaaGreat
set_option linter.unusedVariables false
set_option linter.unusedSimpArgs false
namespace Abs

section
variable {P : Program} {T : List (Nat × TI)} {F : Nat → Prop} {φ : Nat → Option Value} {X : Nat → Prop} {w : World} {h : Nat → Option Ob} {id : Nat} {N : Nat → Prop} {a : Act} {o : Oper} {k : S → Ch → Prop} {K : Act → World → Prop} {Q : Exit → Act → World → Prop} {PC : Nat → List S → List Ob → (S → List Ob → Prop) → Prop} {mt : List Nat}

theorem sub_nil {α : Type} (l : List α) (n : Nat) : sub l n n = [] := by simp [sub]
theorem RT.sub {ad : Option Addr} {n cap sz : Nat} {rows : List (List V)} (hr : RT F w (.slice ad n cap) (.lst sz rows)) {l u : Nat} (h1 : l ≤ u) (h2 : u ≤ rows.length) : RT F w (sliced ad l u cap sz) (.lst sz (Abs.sub rows l u)) := by
 by_cases e : l = u
 ·subst e
  rw [sub_nil, sliced, Nat.sub_self]
  refine .lst0 _ _ _ ?_
  cases hr with
  | lst0 _ _ _ h => omega
  | lst b off n cap sz rows f hF hn hc hm hz hx hh => omega
 ·cases hr with
  | lst0 => simp at h2; omega
  | lst b off n cap sz rows f hF hn hc hm hz hx hh =>
   have hne : ¬ cap = l := by omega
   have hg : ∀ i, i < u - l → (Abs.sub rows l u)[i]? = rows[l + i]? := by
    intro i hi
    simp only [Abs.sub, List.getElem?_take, if_pos hi, List.getElem?_drop]
   have hlen : (Abs.sub rows l u).length = u - l := by simp [Abs.sub]; omega
   simp only [sliced, if_neg hne, Option.map_some, add_spot]
   refine .lst b (off + l * sz) (u - l) (cap - l) sz _ (fun i j => f (l + i) j) hF hlen (by omega) (by omega) ?_ ?_ ?_
   ·intro r hr'
    exact hz r (List.mem_of_mem_drop (List.mem_of_mem_take hr'))
   ·intro i j hi hj
    have := hx (l + i) j (by omega) hj
    rw [Nat.add_mul] at this
    rw [show off + l * sz + i * sz + j = off + (l * sz + i * sz) + j by omega]
    exact this
   ·intro i r j v hi hj
    have hi' : i < u - l := by rw [← hlen]; exact (List.getElem?_eq_some_iff.1 hi).1
    rw [hg i hi'] at hi
    exact hh (l + i) r j v hi hj

def oRS (F : Nat → Prop) (φ : Nat → Option Value) (w : World) (a : Act) : Option Operand → Option S → Prop
 | none, none => True
 | some x, some s => RS F φ w (a.eval x) s
 | _, _ => False
theorem add_addr (b : Addr) (x y : Nat) : (b.add x).add y = b.add (x + y) := by
 unfold Addr.add
 by_cases h1 : x = 0 <;> by_cases h2 : y = 0 <;> simp_all [Nat.add_assoc]
theorem bounds_slice {t e : Nat} {sz : Nat} (hu : P.underlying t = some (.slice e)) (hs : (sizeOf e).run P w = .ok sz w) {ad : Option Addr} {n cap : Nat} (hc : n ≤ cap) {lo hi : Option Operand} {slo shi : Option S} (hlo : oRS F φ w a lo slo) (hhi : oRS F φ w a hi shi) {kk : Nat → Nat → Prop} (hk : bounds n slo shi kk) :
  ∃ l u, l ≤ u ∧ u ≤ n ∧ kk l u ∧ (Instr.sliceAt t (.slice ad n cap) (lo.map a.eval) (hi.map a.eval) none).run P w = .ok (sliced ad l u cap sz) w := by
 have hPe : P.elem t = e := by simp [Program.elem, hu]
 have hu' : P.underlying t = some (.slice (P.elem t)) := by rw [hPe]; exact hu
 have hs' : (sizeOf (P.elem t)).run P w = .ok sz w := by rw [hPe]; exact hs
 unfold bounds at hk
 split at hk
 ·cases lo <;> cases hi <;> try (first | exact hlo.elim | exact hhi.elim)
  refine ⟨0, n, by omega, by omega, hk, ?_⟩
  rw [run_sliceAt_slice w t _ _ _ _ hu']
  simp only [Option.map_none, run_slice_all w t _ _ _ hu', hs', Result.andThen_ok]
 ·cases lo <;> cases hi <;> try (first | exact hlo.elim | exact hhi.elim)
  rename_i x
  obtain ⟨⟨h0, h1⟩, hk⟩ := hk
  have e1 := RS.int_inv hlo
  refine ⟨_, n, by omega, by omega, hk, ?_⟩
  rw [run_sliceAt_slice w t _ _ _ _ hu']
  simp only [Option.map_none, Option.map_some, e1]
  rw [run_slice_l w t _ _ _ hu' _ _ h0 h1, hs', Result.andThen_ok]
 ·cases lo <;> cases hi <;> try (first | exact hlo.elim | exact hhi.elim)
  rename_i x
  obtain ⟨⟨h0, h1⟩, hk⟩ := hk
  have e1 := RS.int_inv hhi
  refine ⟨0, _, by omega, by omega, hk, ?_⟩
  rw [run_sliceAt_slice w t _ _ _ _ hu']
  simp only [Option.map_none, Option.map_some, e1]
  rw [run_slice_h w t _ _ _ hu' _ _ h0 (by omega), hs', Result.andThen_ok]
 ·cases lo <;> cases hi <;> try (first | exact hlo.elim | exact hhi.elim)
  obtain ⟨⟨h0, h1, h2⟩, hk⟩ := hk
  have e1 := RS.int_inv hlo
  have e2 := RS.int_inv hhi
  refine ⟨_, _, by omega, by omega, hk, ?_⟩
  rw [run_sliceAt_slice w t _ _ _ _ hu']
  simp only [Option.map_none, Option.map_some, e1, e2]
  rw [run_slice_lh w t _ _ _ hu' _ _ _ _ h0 h1 (by omega), hs', Result.andThen_ok]
 ·exact hk.elim
theorem bounds2_slice {t e : Nat} {sz : Nat} (hu : P.underlying t = some (.slice e)) (hs : (sizeOf e).run P w = .ok sz w) {ad : Option Addr} {n m cap : Nat} (hnm : n ≤ m) (hc : m ≤ cap) {lo hi : Option Operand} {slo shi : Option S} (hlo : oRS F φ w a lo slo) (hhi : oRS F φ w a hi shi) {kk : Nat → Nat → Prop} (hk : bounds2 n m slo shi kk) :
  ∃ l u, l ≤ u ∧ u ≤ m ∧ l ≤ m ∧ kk l u ∧ (Instr.sliceAt t (.slice ad n cap) (lo.map a.eval) (hi.map a.eval) none).run P w = .ok (sliced ad l u cap sz) w := by
 have hPe : P.elem t = e := by simp [Program.elem, hu]
 have hu' : P.underlying t = some (.slice (P.elem t)) := by rw [hPe]; exact hu
 have hs' : (sizeOf (P.elem t)).run P w = .ok sz w := by rw [hPe]; exact hs
 unfold bounds2 at hk
 split at hk
 ·cases lo <;> cases hi <;> try (first | exact hlo.elim | exact hhi.elim)
  refine ⟨0, n, by omega, by omega, by omega, hk, ?_⟩
  rw [run_sliceAt_slice w t _ _ _ _ hu']
  simp only [Option.map_none, run_slice_all w t _ _ _ hu', hs', Result.andThen_ok]
 ·cases lo <;> cases hi <;> try (first | exact hlo.elim | exact hhi.elim)
  rename_i x
  obtain ⟨⟨h0, h1⟩, hk⟩ := hk
  have e1 := RS.int_inv hlo
  refine ⟨_, n, by omega, by omega, by omega, hk, ?_⟩
  rw [run_sliceAt_slice w t _ _ _ _ hu']
  simp only [Option.map_none, Option.map_some, e1]
  rw [run_slice_l w t _ _ _ hu' _ _ h0 h1, hs', Result.andThen_ok]
 ·cases lo <;> cases hi <;> try (first | exact hlo.elim | exact hhi.elim)
  rename_i x
  obtain ⟨⟨h0, h1⟩, hk⟩ := hk
  have e1 := RS.int_inv hhi
  refine ⟨0, _, by omega, by omega, by omega, hk, ?_⟩
  rw [run_sliceAt_slice w t _ _ _ _ hu']
  simp only [Option.map_none, Option.map_some, e1]
  rw [run_slice_h w t _ _ _ hu' _ _ h0 (by omega), hs', Result.andThen_ok]
 ·cases lo <;> cases hi <;> try (first | exact hlo.elim | exact hhi.elim)
  obtain ⟨⟨h0, h1, h2⟩, hk⟩ := hk
  have e1 := RS.int_inv hlo
  have e2 := RS.int_inv hhi
  refine ⟨_, _, by omega, by omega, by omega, hk, ?_⟩
  rw [run_sliceAt_slice w t _ _ _ _ hu']
  simp only [Option.map_none, Option.map_some, e1, e2]
  rw [run_slice_lh w t _ _ _ hu' _ _ _ _ h0 h1 (by omega), hs', Result.andThen_ok]
 ·exact hk.elim
theorem bounds_string {t : Nat} (hu : P.underlying t = some .string) {s : ByteArray} {lo hi : Option Operand} {slo shi : Option S} (hlo : oRS F φ w a lo slo) (hhi : oRS F φ w a hi shi) {kk : Nat → Nat → Prop} (hk : bounds s.size slo shi kk) :
  ∃ l u, kk l u ∧ (Instr.sliceAt t (.string s) (lo.map a.eval) (hi.map a.eval) none).run P w = .ok (.string (s.extract l u)) w := by
 unfold bounds at hk
 split at hk
 ·cases lo <;> cases hi <;> try (first | exact hlo.elim | exact hhi.elim)
  refine ⟨0, s.size, hk, ?_⟩
  rw [run_sliceAt_string w t _ _ _ _ hu]
  simp only [Option.map_none, run_slice_string_all w t _ hu]
 ·cases lo <;> cases hi <;> try (first | exact hlo.elim | exact hhi.elim)
  obtain ⟨⟨h0, h1⟩, hk⟩ := hk
  have e1 := RS.int_inv hlo
  refine ⟨_, s.size, hk, ?_⟩
  rw [run_sliceAt_string w t _ _ _ _ hu]
  simp only [Option.map_none, Option.map_some, e1]
  rw [run_slice_string_l w t _ hu _ _ h0 h1]
 ·cases lo <;> cases hi <;> try (first | exact hlo.elim | exact hhi.elim)
  obtain ⟨⟨h0, h1⟩, hk⟩ := hk
  have e1 := RS.int_inv hhi
  refine ⟨0, _, hk, ?_⟩
  rw [run_sliceAt_string w t _ _ _ _ hu]
  simp only [Option.map_none, Option.map_some, e1]
  rw [run_slice_string_h w t _ hu _ _ h0 h1]
 ·cases lo <;> cases hi <;> try (first | exact hlo.elim | exact hhi.elim)
  obtain ⟨⟨h0, h1, h2⟩, hk⟩ := hk
  have e1 := RS.int_inv hlo
  have e2 := RS.int_inv hhi
  refine ⟨_, _, hk, ?_⟩
  rw [run_sliceAt_string w t _ _ _ _ hu]
  simp only [Option.map_none, Option.map_some, e1, e2]
  rw [run_slice_string w t s _ _ _ _ hu h0 h1 h2]
 ·exact hk.elim

theorem RT.lst_cap {ad : Option Addr} {n cap sz : Nat} {rows : List (List V)} (hr : RT F w (.slice ad n cap) (.lst sz rows)) : n ≤ cap ∧ n = rows.length := by
 cases hr with
 | lst0 => exact ⟨Nat.zero_le _, rfl⟩
 | lst b off n cap sz rows f hF hn hc => exact ⟨hc, hn.symm⟩

theorem Nx.cut (hr : Rp F φ X w h) (hN : N id) (hid : φ id = none) {l e sz : Nat} {rows : List (List V)} (hob : h l = some (.row e sz rows)) {ad : Option Addr} {M cap : Nat} (hl : φ l = some (.slice ad M cap)) {u : Nat} (hu : u ≤ rows.length) :
  Nx F φ w h N [(l, .dead), (id, .row e sz (rows.take u))] F (addφ φ id (sliced ad 0 u cap sz)) w := by
 have hc0 : sliced ad 0 u cap sz = .slice ad u cap := by
  unfold sliced
  rw [Nat.sub_zero, Nat.sub_zero, Nat.zero_mul]
  split
  ·rfl
  ·cases ad with
   | none => rfl
   | some b => simp [Addr.add]
 have hne : ¬ id = l := fun e => by rw [e, hl] at hid; cases hid
 have hq : ∀ l2 ob2, chGet [(l, Ob.dead), (id, Ob.row e sz (rows.take u))] l2 = some ob2 → (l2 = id ∧ ob2 = .row e sz (rows.take u)) ∨ ob2 = .dead := by
  intro l2 ob2 hx
  simp only [chGet] at hx
  by_cases e1 : id = l2
  ·rw [if_pos e1] at hx
   simp only [Option.some.injEq] at hx
   exact .inl ⟨e1.symm, hx.symm⟩
  ·rw [if_neg e1] at hx
   simp only at hx
   split at hx
   ·cases hx; exact .inr rfl
   ·cases hx
 have hin : (chGet [(l, Ob.dead), (id, Ob.row e sz (rows.take u))] l).isSome := by
  simp [chGet, hne]
 rw [hc0]
 have hro : RO F (addφ φ id (.slice ad u cap)) w id (.row e sz (rows.take u)) ∧ ∀ b, hb (.slice ad u cap) = some b → hb (.slice ad M cap) = some b := by
  refine ⟨?_, fun b hb' => by cases ad <;> cases cap <;> simp_all [hb]⟩
  rcases hr.objs l _ hob with ⟨c, xs, g1, g2, ⟨g3, g3r⟩, g4, g5⟩ | ⟨h00, q, g1⟩
  ·rw [hl] at g1; cases g1
   have hP : P2 (RT F w) (xs.take (u * sz)) (rows.take u).flatten := by
    have hfc : ∀ (rs : List (List V)) (m : Nat), (∀ r ∈ rs, r.length = sz) → (rs.take m).flatten = rs.flatten.take (m * sz) := by
     intro rs
     induction rs with
     | nil => intro m _; simp
     | cons r t ih =>
      intro m hz
      cases m with
      | zero => simp
      | succ m =>
       have e1 : (m + 1) * sz = r.length + m * sz := by rw [hz r (by simp), Nat.add_mul]; omega
       simp only [List.take_succ_cons, List.flatten_cons, e1, List.take_length_add_append, ih m (fun r hr => hz r (by simp [hr]))]
    rw [hfc rows u g5]; exact g4.take _
   have hlen : (rows.take u).length = u := by simp; omega
   have hxl := g3.1
   have hfit : u * sz ≤ rows.length * sz := Nat.mul_le_mul_right _ hu
   refine RO.mkrow (c := .slice ad u cap) (xs := xs.take (u * sz)) (by simp [addφ]) (fun b hb' => g2 b (by cases ad <;> cases cap <;> simp_all [hb])) ⟨?_, ?_⟩ hP (fun r hr' => g5 r (List.mem_of_mem_take hr'))
   ·rw [hlen]; simp only [List.length_take]; omega
   ·rw [hlen]
    rcases g3.2 with ⟨hv, hn⟩ | ⟨g, cap', cur, hv, h1, h2, h3, h4, h5, h6⟩
    ·cases hv
     have : u = 0 := by omega
     exact .inl ⟨by rw [this], this⟩
    ·cases hv
     exact .inr ⟨g, cap, cur, rfl, h1, h2, by omega, h4, h5, by rw [← h6, List.take_take, Nat.min_eq_left hfit]⟩
  ·rw [hl] at g1; cases g1
   subst h00
   have : u = 0 := by simpa using hu
   subst this
   exact .inr ⟨rfl, q, by simp [addφ]⟩
 refine ⟨fun _ h => h, addφ_ext hid _, ?_, rfl, rfl, rfl, fun _ => Nat.le_refl _, Nat.le_refl _, fun b _ hne => (hne rfl).elim, fun b h => .inl h, ?_, ?_, ?_⟩
 ·intro l2 d hl2
  unfold addφ at hl2
  split at hl2
  ·rename_i e1; subst e1; cases hl2; exact .inr ⟨hN, rfl⟩
  ·exact .inl hl2
 ·intro l2 ob2 hx
  rcases hq l2 ob2 hx with ⟨rfl, rfl⟩ | rfl
  ·exact hro.1
  ·trivial
 ·intro l2 ob2 b hx hv hb'
  rcases hq l2 ob2 hx with ⟨rfl, rfl⟩ | rfl
  ·replace hb' := hb'.base; simp only [blkOf, addφ, if_true, Option.bind_some] at hb'
   exact .inr ⟨l, _, hob, rfl, (.inl (by simp [blkOf, hl, hro.2 b hb'])), hin⟩
  ·simp [live] at hv
 ·intro l2 l3 ob2 ob3 b hx hx' hv hv' _ _
  rcases hq l2 ob2 hx with ⟨rfl, rfl⟩ | rfl
  ·rcases hq l3 ob3 hx' with ⟨rfl, rfl⟩ | rfl
   ·rfl
   ·simp [live] at hv'
  ·simp [live] at hv

theorem op_slice {t : Nat} {ti : TI} {x : Operand} {lo hi : Option Operand} {s : S} {slo shi : Option S} (hT : TabOK P T) (ht : TIok P T t ti) (hr : Rp F φ X w h) (hN : N id) (hid : φ id = none) (ho : o.op = .slice t x lo hi none) (hx : RS F φ w (a.eval x) s) (hlo : oRS F φ w a lo slo) (hhi : oRS F φ w a hi shi) (hk : aSlice T h id ti.kind s slo shi k) (hc : Ct F φ w h N o a k K) : o.wp P a w K Q := by
 obtain ⟨i, z, d, hi', h1, h2, h3, h4, h5, hd, hkd⟩ := ht
 generalize hev : a.eval x = cv at hx
 unfold aSlice at hk
 split at hk
 ·rename_i hks
  simp only [hks] at hkd
  subst hkd
  split at hk
  ·rename_i str
   have e := hx.str_inv
   subst e
   obtain ⟨l, u, hk, hrun⟩ := bounds_string hd hlo hhi hk
   refine ct_same hc (.c (.tree (.str _))) hk ?_
   simp only [execOp, ho, hev, Option.map_none]
   rw [Sem.run_bind, hrun]; rfl
  ·exact hk.elim
 ·rename_i e hks
  simp only [hks] at hkd
  subst hkd
  obtain ⟨ei, hei, hk2⟩ := withT2_inv hT hk
  clear hk
  have hk := hk2
  clear hk2
  have hsz := hei.sizeOf w
  split at hk
  ·rename_i sz rows
   cases hq : Nat.beq sz ei.size with
   | false => simp only [hq, cond_false] at hk
   | true =>
    simp only [hq, cond_true] at hk
    have := beq_eqn hq
    subst this
    cases hx with | c hx => cases hx with | tree hx =>
    obtain ⟨ad, cap, rfl⟩ := hx.lst_shape
    obtain ⟨l, u, g1, g2, hk, hrun⟩ := bounds_slice (ad := ad) hd hsz hx.lst_cap.1 hlo hhi hk
    refine ct_same hc (.c (.tree (hx.sub g1 g2))) hk ?_
    simp only [execOp, ho, hev, Option.map_none]
    rw [Sem.run_bind, hrun]; rfl
  ·rename_i l0
   have hl := hx.row_inv
   split at hk
   ·rename_i e2 sz rows hob
    cases hq : Nat.beq sz ei.size with
    | false => simp only [hq, cond_false] at hk
    | true =>
     simp only [hq, cond_true] at hk
     have := beq_eqn hq
     subst this
     have hfz := Nx.freeze (N := N) hr hob hl
     have htree := (hr.objs _ _ hob).row_tree hl
     obtain ⟨ad, cap, rfl⟩ := htree.lst_shape
     obtain ⟨l, u, g1, g2, hk, hrun⟩ := bounds_slice (ad := ad) hd hsz htree.lst_cap.1 hlo hhi hk
     have hrun' : (execOp a.eval o).run P w = .ok (.value (sliced ad l u cap ei.size)) w := by
      simp only [execOp, ho, hev, Option.map_none]
      rw [Sem.run_bind, hrun]; rfl
     rcases hk with hk | hk | ⟨rfl, hk⟩
     ·exact wp_value (w' := w) hrun' (hc _ _ _ _ _ _ hfz (.c (.tree (htree.sub g1 g2))) hk)
     ·have hcap := htree.lst_cap.1
      have hv := RV.vw (F := F) (w := w) l0 ei.size l (u - l) ad (if cap = l then ad else ad.map (·.add (l * ei.size))) rows.length cap (cap - l) hl (by omega) (by omega) (by omega) (fun h0 => by
       subst h0
       split
       ·rfl
       ·cases ad with
        | none => rfl
        | some b => simp [Addr.add]) (fun hpos => by
       rw [if_neg (by omega)]
       cases ad with
       | some b => exact ⟨b, rfl, rfl⟩
       | none =>
        have h0 : cap = 0 := by
         rcases hr.objs _ _ hob with ⟨c0, xs0, k1, _, ⟨k2, _⟩, _⟩ | ⟨_, p, k1⟩
         ·rw [hl] at k1; cases k1
          rcases k2.2 with ⟨k3, _⟩ | ⟨g, cap', cur, k3, _⟩
          ·simp only [Value.slice.injEq] at k3; exact k3.2.2
          ·cases k3
         ·rw [hl] at k1; cases k1
        rw [h0] at hpos; simp at hpos)
      exact ct_same hc (.c hv) hk hrun'
     ·have hnx := Nx.cut (N := N) hr hN hid hob hl g2
      exact wp_value (w' := w) hrun' (hc _ _ _ _ _ _ hnx (.c (.row id _ (by simp [addφ]))) hk)
   ·rename_i sz rows hob
    cases hq : Nat.beq sz ei.size with
    | false => simp only [hq, cond_false] at hk
    | true =>
     simp only [hq, cond_true] at hk
     have := beq_eqn hq
     subst this
     obtain ⟨c', g0, htree⟩ := hr.objs _ _ hob
     rw [hl] at g0; cases g0
     obtain ⟨ad, cap, rfl⟩ := htree.lst_shape
     obtain ⟨l, u, g1, g2, hk, hrun⟩ := bounds_slice (ad := ad) hd hsz htree.lst_cap.1 hlo hhi hk
     refine ct_same hc (.c (.tree (htree.sub g1 g2))) hk ?_
     simp only [execOp, ho, hev, Option.map_none]
     rw [Sem.run_bind, hrun]; rfl
   ·exact hk.elim
  ·cases hx with | c hx => cases hx with | tree hx =>
   cases hx
   obtain ⟨l, u, g1, g2, hk, hrun⟩ := bounds_slice (ad := none) (cap := 0) hd hsz (Nat.le_refl _) hlo hhi hk
   have e1 : l = 0 := by omega
   have e2 : u = 0 := by omega
   subst e1 e2
   refine ct_same hc (.c (.tree .nils)) hk ?_
   simp only [execOp, ho, hev, Option.map_none]
   rw [Sem.run_bind, hrun]
   simp [sliced]
  ·rename_i l0 sz' q n
   split at hk
   ·rename_i e2 sz rows hob
    cases hq : Nat.beq sz ei.size && Nat.beq sz' ei.size with
    | false => simp only [hq, cond_false] at hk
    | true =>
     simp only [hq, cond_true] at hk
     rw [Bool.and_eq_true] at hq
     have hs' := beq_eqn hq.2
     cases hx with | c hx => cases hx with
     | tree hx => cases hx
     | vw l0 _ q n ad a' M cap c' hl hn hc' hcc' ha0' ha' =>
     have hM : M = rows.length ∧ M ≤ cap := by
      have htree := (hr.objs _ _ hob).row_tree hl
      obtain ⟨ad2, cap2, e1⟩ := htree.lst_shape
      cases e1
      exact ⟨rfl, htree.lst_cap.1⟩
     obtain ⟨l, u, g1, g2, g3, hk, hrun⟩ := bounds2_slice (ad := a') (n := n) (m := rows.length - q) (cap := c') hd hsz (by omega) (by omega) hlo hhi hk
     have hv := RV.vw (F := F) (w := w) l0 sz' (q + l) (u - l) ad (if c' = l then a' else a'.map (·.add (l * ei.size))) M cap (c' - l) hl (by omega) (by omega) (by omega) (fun h0 => by
      have e0 : l = 0 := by omega
      subst e0
      rw [ha0' (by omega)]
      split
      ·rfl
      ·cases ad with
       | none => rfl
       | some b => simp [Addr.add]) (fun hpos => by
      obtain ⟨b, hb1, hb2⟩ := ha' (by omega)
      rw [if_neg (by omega)]
      refine ⟨b, hb1, ?_⟩
      rw [hb2, Option.map_some, hs', add_addr, Nat.add_mul])
     refine ct_same hc (.c hv) hk ?_
     simp only [execOp, ho, hev, Option.map_none]
     rw [Sem.run_bind, hrun]; rfl
   ·exact hk.elim
  ·exact hk.elim
 ·exact hk.elim

theorem elemsOf_sound (hφ : ∀ l c, φ l = some c → c.oneCell' = true) {size : Nat} : ∀ (cvs : List Value) (ss : List S) (kk : List V → List (List V) → Prop), P2 (RS F φ w) cvs ss → elemsOf size ss kk →
  ∃ cs rows, P2 (RV F φ w) (cvs.flatMap fun c => c.cells.toList) cs ∧ (∀ c ∈ cvs, c.cells.size = size) ∧ rows.length = ss.length ∧ cs.length = ss.length * size ∧ kk cs rows
 | cvs, [], kk, hp, hk => by
  rw [hp.nil_inv]
  exact ⟨[], [], P2.nil, by simp, rfl, by simp, hk⟩
 | cvs, s :: r, kk, hp, hk => by
  obtain ⟨c, cvs', rfl, h1, h2⟩ := hp.cons_inv
  simp only [elemsOf] at hk
  split at hk
  ·rename_i vs hvs
   cases hq : Nat.beq vs.length size with
   | false => simp only [hq, cond_false] at hk
   | true =>
    simp only [hq, cond_true] at hk
    have e := beq_eqn hq
    obtain ⟨cs, rows, g1, g2, g3, g4, g5⟩ := elemsOf_sound hφ cvs' r _ h2 hk
    have hc := cells_P2 hφ h1 hvs
    refine ⟨_, _, ?_, ?_, ?_, ?_, g5⟩
    ·rw [List.flatMap_cons]; exact hc.append g1
    ·intro c' hc'
     rcases List.mem_cons.1 hc' with rfl | hc'
     ·have := hc.1; simp at this; omega
     ·exact g2 c' hc'
    ·simp [g3]
    ·simp only [List.length_append, List.length_cons, g4, Nat.add_mul]; omega
  ·exact hk.elim

theorem cutRows_spec {size : Nat} : ∀ (rows : List (List V)) (cs : List V), cs.length = rows.length * size → (cutRows size cs rows).length = rows.length ∧ (∀ r ∈ cutRows size cs rows, r.length = size) ∧ (cutRows size cs rows).flatten = cs
 | [], cs, hl => by
  have : cs = [] := by simpa using hl
  subst this
  simp [cutRows]
 | _ :: r, cs, hl => by
  simp only [List.length_cons, Nat.add_mul] at hl
  obtain ⟨g1, g2, g3⟩ := cutRows_spec (size := size) r (dropN size cs) (by rw [dropN_eq, List.length_drop]; omega)
  refine ⟨by simp [cutRows, g1], ?_, ?_⟩
  ·intro r' hr'
   rcases List.mem_cons.1 hr' with rfl | hr'
   ·exact takeN_len _ _ (by omega)
   ·exact g2 r' hr'
  ·simp only [cutRows, List.flatten_cons, g3]
   have : takeN size cs = cs.take size := by
    apply List.ext_getElem?
    intro j
    by_cases hj : j < size
    ·rw [takeN_get _ _ _ hj, List.getElem?_take, if_pos hj]
    ·rw [List.getElem?_take, if_neg hj]
     exact List.getElem?_eq_none (by rw [takeN_len _ _ (by omega)]; omega)
   rw [this, dropN_eq, List.take_append_drop]

theorem fill_rows {size : Nat} : ∀ (is : List Nat) (cvs : List Value) (cells : Array Value) (i0 : Nat), isCount i0 is = true → is.length = cvs.length → (∀ c ∈ cvs, c.cells.size = size) → cells.size = (i0 + is.length) * size →
  ∃ cells', Instr.fill (fun i => some (i * size, size)) cells (is.zip cvs) = some cells' ∧ cells'.toList = cells.toList.take (i0 * size) ++ cvs.flatMap fun c => c.cells.toList
 | [], cvs, cells, i0, _, hl, _, hs => by
  have : cvs = [] := by cases cvs with | nil => rfl | cons => simp at hl
  subst this
  refine ⟨cells, rfl, ?_⟩
  simp only [List.length_nil, Nat.add_zero] at hs
  rw [← hs]; simp [List.take_of_length_le]
 | i :: is, [], cells, i0, _, hl, _, _ => by simp at hl
 | i :: is, c :: cvs, cells, i0, hi, hl, hc, hs => by
  simp only [isCount, Bool.and_eq_true] at hi
  have e := beq_eqn hi.1
  subst e
  have hc0 := hc c (by simp)
  have hroom : i * size + c.cells.size ≤ cells.size := by
   rw [hs, hc0]; simp only [List.length_cons, Nat.add_mul]; omega
  have hf := fold_cells c (i * size) cells hroom
  obtain ⟨cells', g1, g2⟩ := fill_rows is cvs (c.cells.zipIdx.foldl (fun cs (p : Value × Nat) => cs.setIfInBounds (i * size + p.2) p.1) cells) (i + 1) hi.2 (by simpa using hl) (fun c' hc' => hc c' (by simp [hc'])) (by
   have := congrArg List.length hf
   simp only [Array.length_toList, List.length_append, List.length_take, List.length_drop] at this
   rw [this]
   simp only [List.length_cons] at hs
   rw [show i + 1 + is.length = i + (is.length + 1) by omega, ← hs]
   omega)
  refine ⟨cells', ?_, ?_⟩
  ·simp only [List.zip_cons_cons, Instr.fill]
   rw [if_neg]
   ·exact g1
   ·simp; omega
  ·rw [g2, hf, List.flatMap_cons]
   rw [List.take_append_of_le_length (by simp only [List.length_append, List.length_take, Array.length_toList, hc0, Nat.add_mul]; omega)]
   rw [List.take_of_length_le (by simp only [List.length_append, List.length_take, Array.length_toList, hc0, Nat.add_mul]; omega)]
   simp

theorem op_buildSlice {t len : Nat} {ps : Array (Nat × Operand)} {ss : List S} (hT : TabOK P T) (hr : Rp F φ X w h) (hX : ∀ b, w.heap.size ≤ b → X b) (hN : N id) (hid : φ id = none) (ho : o.op = .buildSlice t len ps) (hx : P2 (RS F φ w) (ps.toList.map fun p => a.eval p.2) ss)
  (hk : elemTIe T t fun e ei => aBuildSlice h id e ei len (ps.toList.map (·.1)) ss k) (hc : Ct F φ w h N o a k K) : o.wp P a w K Q := by
 obtain ⟨e, ei, hu, hei, hpos, hk2⟩ := elemTIe_inv hT hk
 clear hk
 have hk := hk2
 clear hk2
 obtain ⟨i, z, d, hi, h1, h2, h3, h4, h5, hd, hkd⟩ := hei
 unfold aBuildSlice at hk
 cases hq : isCount 0 (ps.toList.map (·.1)) && (Nat.beq (ps.toList.map (·.1)).length len && (Nat.beq ss.length len && Nat.ble (len * ei.size) 1000)) with
 | false => simp only [hq, cond_false] at hk
 | true =>
  simp only [hq, cond_true] at hk
  simp only [Bool.and_eq_true] at hq
  obtain ⟨q1, q2, q3, q4⟩ := hq
  have e2 := beq_eqn q2
  have e3 := beq_eqn q3
  have e4 := Nat.le_of_ble_eq_true q4
  obtain ⟨cs, rows, g1, g2, g3, g4, hk⟩ := elemsOf_sound hr.one _ _ _ hx hk
  obtain ⟨F1, ch, vs', hn1, hvs', hk, hsub⟩ := fz_sound (N := N) _ cs _ _ _ hr hX g1 hk
  have hlv : vs'.length = rows.length * ei.size := by
   rw [← hvs'.1, g1.1, g4, g3]
  obtain ⟨r1, r2, r3⟩ := cutRows_spec (size := ei.size) rows vs' hlv
  have hlps : (ps.toList.map fun p => a.eval p.2).length = len := by rw [hx.1, e3]
  let init : Array Value := (Array.range (len * ei.size)).map ((if len * ei.size = 0 then #[] else z.cells)[· % (if len * ei.size = 0 then (#[] : Array Value) else z.cells).size]!)
  have hinit : init.size = len * ei.size := by simp [init]
  obtain ⟨cells', f1, f2⟩ := fill_rows (size := ei.size) (ps.toList.map (·.1)) (ps.toList.map fun p => a.eval p.2) init 0 q1 (by simp) g2 (by rw [hinit, e2, Nat.zero_add])
  simp only [Nat.zero_mul, List.take_zero, List.nil_append] at f2
  have hr1 := hr.next hn1 hX
  have hlc : cells'.size = len * ei.size := by
   have := congrArg List.length f2
   rw [g1.1, g4, e3] at this
   simpa using this
  obtain ⟨hn, hs⟩ := new_row (id := id) hr1 hN hid cells' (n := len) (sz := ei.size) e (cutRows ei.size vs' rows) (by rw [r1, g3, e3]) hlc (by unfold maxLen; have : len * 1 ≤ len * ei.size := Nat.mul_le_mul_left _ hpos; omega) (by rw [r3, f2]; exact hvs') r2
  refine wp_value (w' := _) ?_ (hc _ _ _ _ _ _ (Nx.trans hr hX hn1 hn) hs hk)
  have hzip : (ps.toList.map (·.1)).zip (ps.toList.map fun p => a.eval p.2) = ps.toList.map fun x => (x.1, a.eval x.2) := by
   induction ps.toList with
   | nil => rfl
   | cons p r ih => simp [ih]
  have hroom : ¬ (16777216 < len * ei.size) := by omega
  have hsz : (sizeOf e).run P w = .ok ei.size w := by simp [Go.sizeOf, typeInfo, hi, h1]
  rw [hzip] at f1
  simp only [execOp, ho]
  by_cases h0 : len * ei.size = 0
  ·simp [init, h0] at f1
   simp [Instr.buildSlice, run_underlying hu, hsz, hroom, h0, f1, newRow]
  ·simp [init, h0] at f1
   simp [Instr.buildSlice, run_underlying hu, hsz, hroom, h0, zeroValue, typeInfo, hi, h3, f1, newRow]
end
end Abs
end Go.Proofs.YtkefgcleaalnnaaGreat
