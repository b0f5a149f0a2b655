/- Values compared. -/
import Derived.Test.YtkefgcleaalnnaaGreatAbsU
import Derived.Laws.StructEq
namespace Go.Proofs.YtkefgcleaalnnaaGreat
set_option linter.unusedVariables false
set_option linter.unusedSimpArgs false
namespace Abs

section
variable {P : Program} {T : List (Nat × TI)} {F : Nat → Prop} {φ : Nat → Option Value} {X : Nat → Prop} {w : World} {h : Nat → Option Ob} {id : Nat} {N : Nat → Prop} {a : Act} {o : Oper} {k : S → Ch → Prop} {K : Act → World → Prop} {Q : Exit → Act → World → Prop}

theorem boolC_inv {c : Value} {v : V} {b : Bool} (hv : RV F φ w c v) (hb' : boolC v = some b) : c = .bool b := by
 unfold boolC at hb'
 split at hb' <;> cases hb'
 all_goals cases hv with | tree h => cases h; rfl

def CellsR (F : Nat → Prop) (φ : Nat → Option Value) (w : World) (ti : TI) (c : Value) (vs : List V) : Prop :=
 (isAggK ti.kind = true ∧ ∃ cs : Array Value, c = .agg cs ∧ P2 (RV F φ w) cs.toList vs) ∨ (isAggK ti.kind = false ∧ ∃ v, vs = [v] ∧ RV F φ w c v)

theorem part_cells {t off : Nat} {fi : TI} (ht : TIok P T t fi) {cs : Array Value} {vs : List V} (hp : P2 (RV F φ w) cs.toList vs) (h1 : isAggK fi.kind = true → (takeN fi.size (dropN off vs)).length = fi.size) (h2 : isAggK fi.kind = false → ∃ x, takeN fi.size (dropN off vs) = [x]) :
  ∃ c, (part t cs off).run P w = .ok c w ∧ CellsR F φ w fi c (takeN fi.size (dropN off vs)) := by
 cases hA : isAggK fi.kind with
 | true =>
  have hl := h1 hA
  have hle : fi.size ≤ (dropN off vs).length := by
   have : ∀ (n : Nat) (l : List V), (takeN n l).length ≤ l.length := by
    intro n
    induction n with
    | zero => intro l; simp [takeN]
    | succ n ih => intro l; cases l with
     | nil => simp [takeN]
     | cons x r => simp [takeN, ih r]
   have := this fi.size (dropN off vs)
   omega
  obtain ⟨c, s, hrun, hs, hks⟩ := part_at (off := off) ht hp (k := fun s => s = .agg (takeN fi.size (dropN off vs))) (by
   unfold mkS
   rw [hA, Nat.ble_eq_true_of_le hle]
   rfl)
  subst hks
  cases hs with | agg cs2 _ hp2 => exact ⟨_, hrun, .inl ⟨hA, cs2, rfl, hp2⟩⟩
 | false =>
  obtain ⟨x, hx⟩ := h2 hA
  have hd : ∃ r, dropN off vs = x :: r := by
   cases hd : dropN off vs with
   | nil => rw [hd] at hx; cases hs : fi.size <;> simp [hs, takeN] at hx
   | cons y r =>
    rw [hd] at hx
    cases hs : fi.size with
    | zero => simp [hs, takeN] at hx
    | succ n => simp [hs, takeN] at hx; exact ⟨r, by rw [hx.1]⟩
  obtain ⟨r, hd⟩ := hd
  obtain ⟨c, s, hrun, hs, hks⟩ := part_at (off := off) ht hp (k := fun s => s = .c x) (by
   unfold mkS
   rw [hA, hd]
   rfl)
  subst hks
  cases hs with | c hv => exact ⟨_, hrun, .inr ⟨hA, x, hx, hv⟩⟩

theorem eqW_shape {n t : Nat} {ti : TI} (hti : getA T t = some ti) {xs ys : List V} {b : Bool} (h : eqW T n t xs ys = some b) :
  (isAggK ti.kind = true → xs.length = ti.size ∧ ys.length = ti.size) ∧ (isAggK ti.kind = false → (∃ x, xs = [x]) ∧ ∃ y, ys = [y]) := by
 cases n with
 | zero => simp [eqW] at h
 | succ n =>
  simp only [eqW, hti] at h
  cases hk : ti.kind with
  | struct fs =>
   simp only [hk] at h
   refine ⟨fun _ => ?_, fun h => by simp [isAggK] at h⟩
   cases hq : ti.eq && (Nat.beq xs.length ti.size && Nat.beq ys.length ti.size) with
   | false => simp [hq] at h
   | true =>
    simp only [Bool.and_eq_true] at hq
    exact ⟨beq_eqn hq.2.1, beq_eqn hq.2.2⟩
  | int kk =>
   simp only [hk] at h
   refine ⟨fun h => by simp [isAggK] at h, fun _ => ?_⟩
   split at h
   ·split at h
    ·exact ⟨⟨_, rfl⟩, ⟨_, rfl⟩⟩
    ·cases h
   ·cases h
  | string =>
   simp only [hk] at h
   refine ⟨fun h => by simp [isAggK] at h, fun _ => ?_⟩
   split at h
   ·split at h
    ·exact ⟨⟨_, rfl⟩, ⟨_, rfl⟩⟩
    ·cases h
   ·cases h
  | bool =>
   simp only [hk] at h
   refine ⟨fun h => by simp [isAggK] at h, fun _ => ?_⟩
   split at h
   ·split at h
    ·exact ⟨⟨_, rfl⟩, ⟨_, rfl⟩⟩
    ·cases h
   ·cases h
  | _ => simp [hk] at h

theorem eqW_run (hT : TabOK P T) : ∀ (n d t : Nat) (ti : TI) (xs ys : List V) (b : Bool) (cx cy : Value), n ≤ d → getA T t = some ti → CellsR F φ w ti cx xs → CellsR F φ w ti cy ys → eqW T n t xs ys = some b → (Op.equalIn d t cx cy).run P w = .ok b w
 | 0, d, t, ti, xs, ys, b, cx, cy, _, _, _, _, h => by simp [eqW] at h
 | n + 1, 0, t, ti, xs, ys, b, cx, cy, hnd, _, _, _, _ => by omega
 | n + 1, d + 1, t, ti, xs, ys, b, cx, cy, hnd, hti, hx, hy, h => by
  obtain ⟨i, z, ds, hi, q1, q2, q3, q4, q5, hd, hkd⟩ := hT t ti hti
  simp only [eqW, hti] at h
  cases hk : ti.kind with
  | int kk =>
   simp only [hk] at h hkd
   subst hkd
   split at h
   ·rename_i ka p
    split at h
    ·rename_i kb q
     cases hq : beqK ka kb with
     | false => simp [hq] at h
     | true =>
      simp only [hq, cond_true, Option.some.injEq] at h
      have := beqK_eq hq
      subst this
      subst h
      rcases hx with ⟨hA, _⟩ | ⟨_, v, hv, hx⟩
      ·simp [hk, isAggK] at hA
      rcases hy with ⟨hA, _⟩ | ⟨_, u, hu, hy⟩
      ·simp [hk, isAggK] at hA
      cases hv; cases hu
      cases hx with | tree hx => cases hx; cases hy with | tree hy => cases hy; exact run_equalIn_int w d t _ _ _ _ hd
    ·cases h
   ·cases h
  | bool =>
   simp only [hk] at h hkd
   subst hkd
   split at h
   ·rename_i x
    split at h
    ·rename_i y
     cases hbx : boolC x with
     | none => simp [hbx] at h
     | some p =>
      cases hby : boolC y with
      | none => simp [hbx, hby] at h
      | some q =>
       simp only [hbx, hby, Option.some.injEq] at h
       subst h
       rcases hx with ⟨hA, _⟩ | ⟨_, v, hv, hx⟩
       ·simp [hk, isAggK] at hA
       rcases hy with ⟨hA, _⟩ | ⟨_, u, hu, hy⟩
       ·simp [hk, isAggK] at hA
       cases hv; cases hu
       rw [boolC_inv hx hbx, boolC_inv hy hby]
       exact run_equalIn_bool' w d t _ _ hd
    ·cases h
   ·cases h
  | string =>
   simp only [hk] at h hkd
   subst hkd
   split at h
   ·rename_i p
    split at h
    ·rename_i q
     simp only [Option.some.injEq] at h
     subst h
     rcases hx with ⟨hA, _⟩ | ⟨_, v, hv, hx⟩
     ·simp [hk, isAggK] at hA
     rcases hy with ⟨hA, _⟩ | ⟨_, u, hu, hy⟩
     ·simp [hk, isAggK] at hA
     cases hv; cases hu
     cases hx with | tree hx => cases hx; cases hy with | tree hy => cases hy; exact run_equalIn_string w d t _ _ hd
    ·cases h
   ·cases h
  | struct fs =>
   simp only [hk] at h hkd
   obtain ⟨fields, rfl, ⟨hmap, hall, heq⟩, hf⟩ := hkd
   cases hq : ti.eq && (Nat.beq xs.length ti.size && Nat.beq ys.length ti.size) with
   | false => simp [hq] at h
   | true =>
    simp only [hq, cond_true] at h
    simp only [Bool.and_eq_true] at hq
    obtain ⟨hnames, hheld, _⟩ := heq hq.1
    rcases hx with ⟨_, csx, rfl, hpx⟩ | ⟨hA, _⟩
    rotate_left
    ·simp [hk, isAggK] at hA
    rcases hy with ⟨_, csy, rfl, hpy⟩ | ⟨hA, _⟩
    rotate_left
    ·simp [hk, isAggK] at hA
    have hfo : P.fieldsOf t = fields := by simp [Program.fieldsOf, hd]
    rw [run_equalIn_agg w d t csx csy (by rw [hfo]; exact hd) hheld, hfo]
    have key : ∀ (fl : List Field) (b : Bool), (∀ f ∈ fl, f.name ≠ "_") → eqFs T (eqW T n) (fl.map fun f => (f.offset, f.type)) xs ys = some b → (Op.eqFields d csx csy fl).run P w = .ok b w := by
     intro fl
     induction fl with
     | nil => intro b _ h; simp [eqFs] at h; subst h; simp [Op.eqFields]
     | cons f r ih =>
      intro b hn h
      simp only [List.map_cons, eqFs] at h
      cases hfi : getA T f.type with
      | none => simp [hfi] at h
      | some fi =>
       simp only [hfi] at h
       cases hb1 : eqW T n f.type (takeN fi.size (dropN f.offset xs)) (takeN fi.size (dropN f.offset ys)) with
       | none => simp [hb1] at h
       | some b1 =>
        simp only [hb1] at h
        obtain ⟨s1, s2⟩ := eqW_shape hfi hb1
        obtain ⟨c1, r1, g1⟩ := part_cells (off := f.offset) (hT _ _ hfi) hpx (fun h => (s1 h).1) (fun h => (s2 h).1)
        obtain ⟨c2, r2, g2⟩ := part_cells (off := f.offset) (hT _ _ hfi) hpy (fun h => (s1 h).2) (fun h => (s2 h).2)
        have hr := eqW_run hT n d f.type fi _ _ b1 c1 c2 (by omega) hfi g1 g2 hb1
        have hrest : ∃ b2, (b1 = true → (Op.eqFields d csx csy r).run P w = .ok b2 w) ∧ b = (b1 && b2) := by
         cases r with
         | nil => simp at h; subst h; exact ⟨true, fun _ => by simp [Op.eqFields], by simp⟩
         | cons f' r' =>
          simp only [List.map_cons] at h
          cases hc : eqFs T (eqW T n) ((f'.offset, f'.type) :: r'.map fun f => (f.offset, f.type)) xs ys with
          | none => simp [hc] at h
          | some b2 =>
           simp only [hc, Option.some.injEq] at h
           exact ⟨b2, fun _ => ih b2 (fun g hg => hn g (by simp [hg])) hc, h.symm⟩
        obtain ⟨b2, hb2, rfl⟩ := hrest
        have hnf : f.name ≠ "_" := hn f (by simp)
        simp only [Op.eqFields, if_pos hnf, Sem.run_bind, r1, r2, hr, Result.andThen_ok]
        cases b1 with
        | false => simp
        | true => simp [hb2 rfl]
    rw [← hmap] at h
    exact key fields.toList b hnames h
  | _ => simp [hk] at h

theorem cellsT_inv {t : Nat} {c : Value} {s : S} {vs : List V} (hx : RS F φ w c s) (hs : cellsT T t s = some vs) : ∃ ti, getA T t = some ti ∧ CellsR F φ w ti c vs ∧ (isAggK ti.kind = false → ∃ v, vs = [v] ∧ s = .c v) := by
 unfold cellsT at hs
 split at hs
 ·split at hs
  ·rename_i cs ti hti
   cases hA : isAggK ti.kind with
   | false => simp [hA] at hs
   | true =>
    simp only [hA, cond_true, Option.some.injEq] at hs
    subst hs
    cases hx with | agg cs2 _ hp => exact ⟨ti, hti, .inl ⟨hA, cs2, rfl, hp⟩, fun h => by rw [hA] at h; cases h⟩
  ·cases hs
 ·split at hs
  ·rename_i v ti hti
   cases hA : isAggK ti.kind with
   | true => simp [hA] at hs
   | false =>
    simp only [hA, cond_false, Option.some.injEq] at hs
    subst hs
    cases hx with | c hv => exact ⟨ti, hti, .inr ⟨hA, _, rfl, hv⟩, fun _ => ⟨_, rfl, rfl⟩⟩
  ·cases hs
 ·cases hs

theorem eqW_agg {n t : Nat} {ti : TI} (hti : getA T t = some ti) {xs ys : List V} {b : Bool} (h : eqW T (n + 1) t xs ys = some b) (hA : isAggK ti.kind = true) : (∃ fs, ti.kind = .struct fs) ∧ ti.eq = true := by
 simp only [eqW, hti] at h
 cases hk : ti.kind with
 | struct fs =>
  simp only [hk] at h
  refine ⟨⟨fs, rfl⟩, ?_⟩
  cases hq : ti.eq && (Nat.beq xs.length ti.size && Nat.beq ys.length ti.size) with
  | false => simp [hq] at h
  | true => simp only [Bool.and_eq_true] at hq; exact hq.1
 | array => simp [hk] at h
 | _ => simp [hk, isAggK] at hA
theorem eqW_c {n t : Nat} {ti : TI} (hti : getA T t = some ti) {v : V} {ys : List V} {b : Bool} (h : eqW T (n + 1) t [v] ys = some b) (hA : isAggK ti.kind = false) (hb' : isBase (.c v) = false) : ti.kind = .bool ∧ ∃ u p q, ys = [u] ∧ boolC v = some p ∧ boolC u = some q ∧ b = (p == q) := by
 simp only [eqW, hti] at h
 cases hk : ti.kind with
 | struct fs => simp [hk, isAggK] at hA
 | int kk =>
  simp only [hk] at h
  split at h
  ·rename_i heq
   cases heq
   simp [isBase] at hb'
  ·cases h
 | string =>
  simp only [hk] at h
  split at h
  ·rename_i heq
   cases heq
   simp [isBase] at hb'
  ·cases h
 | bool =>
  simp only [hk] at h
  split at h
  ·rename_i u
   cases hbx : boolC v with
   | none => simp [hbx] at h
   | some p =>
    cases hby : boolC u with
    | none => simp [hbx, hby] at h
    | some q =>
     simp only [hbx, hby, Option.some.injEq] at h
     exact ⟨rfl, u, p, q, rfl, rfl, hby, h.symm⟩
  ·cases h
 | _ => simp [hk] at h

theorem op_aBin {op : BinOp} {t : Nat} {t2 : TypeId} {x y : Operand} {s1 s2 : S} (hT : TabOK P T) (ho : o.op = .binOp op t x y t2) (hx : RS F φ w (a.eval x) s1) (hy : RS F φ w (a.eval y) s2) (hk : aBin T op t s1 s2 fun v => k v []) (hc : Ct F φ w h N o a k K) : o.wp P a w K Q := by
 unfold aBin at hk
 cases hsh : isShift op with
 | true =>
  simp only [hsh, cond_true] at hk
  unfold aShift at hk
  split at hk
  ·obtain ⟨hb', hk⟩ := hk
   have e1 := hx.int_inv
   have e2 := hy.int_inv
   have hlt : ¬ (_ : Int) < 0 := Int.not_lt.2 hb'
   refine ct_same hc (RS.mki _ _) hk ?_
   cases op <;> simp only [isShift] at hsh <;> try (cases hsh)
   all_goals simp [execOp, ho, e1, e2, eqGuard, binOp, Op.shift, hlt, shV]
  ·exact hk.elim
 | false =>
 simp only [hsh, cond_false] at hk
 cases hbt : isBits op with
 | true =>
  simp only [hbt, cond_true] at hk
  unfold aBits at hk
  split at hk
  ·rename_i ka n kb m
   cases hb' : beqK ka kb with
   | false => simp [hb'] at hk
   | true =>
    simp only [hb', cond_true] at hk
    have := beqK_eq hb'
    subst this
    have e1 := hx.int_inv
    have e2 := hy.int_inv
    refine ct_same hc (RS.mki _ _) hk ?_
    cases op <;> simp only [isBits] at hbt <;> try (cases hbt)
    all_goals simp [execOp, ho, e1, e2, eqGuard, binOp, Op.intBits, bitsV]
  ·exact hk.elim
 | false =>
 simp only [hbt, cond_false] at hk
 cases hq : isEq op && !isBase s1 with
 | false => simp only [hq, cond_false] at hk; exact op_bin ho hx hy hk hc
 | true =>
  simp only [hq, cond_true] at hk
  rw [Bool.and_eq_true] at hq
  split at hk
  ·rename_i xs hxs
   split at hk
   ·rename_i ys hys
    split at hk
    ·rename_i b hb'
     obtain ⟨ti, hti, hX, hX2⟩ := cellsT_inv hx hxs
     obtain ⟨ti', hti', hY, hY2⟩ := cellsT_inv hy hys
     rw [hti] at hti'; cases hti'
     have hrun := eqW_run hT 6 10000 t ti xs ys b _ _ (by omega) hti hX hY hb'
     have hfin : ∀ (g : (eqGuard op t x y (a.eval x) (a.eval y)).run P w = .ok () w) (r : (binOp op t (a.eval x) (a.eval y)).run P w = .ok (.bool (eqRes op b)) w), o.wp P a w K Q := by
      intro g r
      refine ct_same hc (RS.mkb _) hk ?_
      simp only [execOp, ho]
      rw [Sem.run_bind, Sem.run_bind, g, Result.andThen_ok, r]
      rfl
     have hop : op = .eql ∨ op = .neq := by
      have := hq.1
      cases op <;> simp [isEq] at this <;> simp
     rcases hX with ⟨hA, csx, hcx, _⟩ | ⟨hA, v, hv, hvx⟩
     ·rcases hY with ⟨_, csy, hcy, _⟩ | ⟨hA', _⟩
      rotate_left
      ·rw [hA] at hA'; cases hA'
      rw [hcx, hcy] at hrun hfin
      obtain ⟨⟨fs, hfs⟩, hte⟩ := eqW_agg hti hb' hA
      obtain ⟨i, z, ds, hi, q1, q2, q3, q4, q5, hd, hkd⟩ := hT t ti hti
      simp only [hfs] at hkd
      obtain ⟨fields, rfl, ⟨hmap, hall, heq⟩, hf⟩ := hkd
      refine hfin (run_eqGuard_agg w op t x y csx csy (heq hte).2.2) ?_
      rcases hop with rfl | rfl
      ·rw [run_eql_struct, hrun]; rfl
      ·rw [run_neq_struct, hrun]; rfl
     ·obtain ⟨v', hv', rfl⟩ := hX2 hA
      subst hv'
      cases hv
      obtain ⟨hkb, u, p, q, rfl, hp, hq', rfl⟩ := eqW_c hti hb' hA (by simpa using hq.2)
      obtain ⟨i, z, ds, hi, q1, q2, q3, q4, q5, hd, hkd⟩ := hT t ti hti
      simp only [hkb] at hkd
      subst hkd
      rcases hY with ⟨hA', _⟩ | ⟨_, u', hu', hvy⟩
      ·rw [hA] at hA'; cases hA'
      cases hu'
      rw [boolC_inv hvx hp, boolC_inv hvy hq'] at hfin
      refine hfin (by cases op <;> simp [eqGuard]) ?_
      rcases hop with rfl | rfl
      ·exact run_eql_bool w t p q hd
      ·simp [binOp, Op.equal, Op.maxDepth, run_equalIn_bool' w 9999 t p q hd, eqRes]
    ·exact hk.elim
   ·exact hk.elim
  ·exact hk.elim
theorem op_aBinC {op : BinOp} {t : Nat} {t2 : TypeId} {x y : Operand} {s1 s2 : S} (hT : TabOK P T) (ho : o.op = .binOp op t x y t2) (hx : RS F φ w (a.eval x) s1) (hy : RS F φ w (a.eval y) s2) (hk : aBinC T op t y s1 s2 fun v => k v []) (hc : Ct F φ w h N o a k K) : o.wp P a w K Q := by
 unfold aBinC at hk
 cases hq : isEq op && isNilC y with
 | false => simp only [hq, cond_false] at hk; exact op_aBin hT ho hx hy hk hc
 | true =>
  simp only [hq, cond_true] at hk
  rw [Bool.and_eq_true] at hq
  have ey : y = .const .nilIface := by
   have := hq.2
   unfold isNilC at this
   split at this
   ·rfl
   ·cases this
  subst ey
  unfold aIfc at hk
  split at hk
  ·rename_i ti hti
   split at hk
   ·rename_i hki
    split at hk
    ·obtain ⟨i, z, ds, hi, q1, q2, q3, q4, q5, hd, hkd⟩ := hT t ti hti
     simp only [hki] at hkd
     obtain ⟨ms, rfl⟩ := hkd
     have ex : a.eval x = .nilIface := by
      generalize a.eval x = cx at hx; cases hx with | c hx => cases hx with | tree hx => cases hx; rfl
     have hrun : (Op.equal t .nilIface .nilIface).run P w = .ok true w := by
      have gen : ∀ n, (Op.equalIn (n + 1) t .nilIface .nilIface).run P w = .ok true w := by
       intro n
       simp only [Op.equalIn, Sem.run_bind, run_underlying hd, Result.andThen_ok]
       rfl
      exact gen 9999
     have hg : ∀ op, (eqGuard op t x (.const .nilIface) .nilIface .nilIface).run P w = .ok () w := by
      intro op
      unfold eqGuard
      cases op <;> simp
     refine ct_same hc (RS.mkb _) hk ?_
     have e2 : a.eval (.const .nilIface) = .nilIface := rfl
     cases op <;> simp only [isEq] at hq <;> try (cases hq.1)
     ·have hb2 : (binOp .eql t .nilIface .nilIface).run P w = .ok (.bool true) w := by
       show (do pure (.bool (← Op.equal t .nilIface .nilIface)) : Sem Value).run P w = _
       rw [Sem.run_bind, hrun]; rfl
      simp only [execOp, ho, ex, e2, Sem.run_bind, hg, Result.andThen_ok, hb2]
      rfl
     ·have hb2 : (binOp .neq t .nilIface .nilIface).run P w = .ok (.bool false) w := by
       show (do pure (.bool (!(← Op.equal t .nilIface .nilIface))) : Sem Value).run P w = _
       rw [Sem.run_bind, hrun]; rfl
      simp only [execOp, ho, ex, e2, Sem.run_bind, hg, Result.andThen_ok, hb2]
      rfl
    ·exact hk.elim
   ·exact hk.elim
  ·exact hk.elim
theorem op_min {x y : Operand} {s1 s2 : S} {c : Call} (ho : o.op = .call c) (hcal : c.callee = .builtin .min) (ha : c.args.toList = [x, y]) (hx : RS F φ w (a.eval x) s1) (hy : RS F φ w (a.eval y) s2) (hk : aMin s1 s2 k) (hc : Ct F φ w h N o a k K) : o.wp P a w K Q := by
 unfold aMin at hk
 split at hk
 ·have e1 := hx.int_inv
  have e2 := hy.int_inv
  refine ct_same hc (RS.mki _ _) hk (run_call_builtin ho hcal ha ?_)
  simp only [builtin, List.map_cons, List.map_nil, e1, e2, Sem.run_bind, run_min_int2, Result.andThen_ok, Sem.run_pure]
 ·exact hk.elim
theorem op_max {x y : Operand} {s1 s2 : S} {c : Call} (ho : o.op = .call c) (hcal : c.callee = .builtin .max) (ha : c.args.toList = [x, y]) (hx : RS F φ w (a.eval x) s1) (hy : RS F φ w (a.eval y) s2) (hk : aMax s1 s2 k) (hc : Ct F φ w h N o a k K) : o.wp P a w K Q := by
 unfold aMax at hk
 split at hk
 ·have e1 := hx.int_inv
  have e2 := hy.int_inv
  refine ct_same hc (RS.mki _ _) hk (run_call_builtin ho hcal ha ?_)
  simp only [builtin, List.map_cons, List.map_nil, e1, e2, Sem.run_bind, run_max_int2, Result.andThen_ok, Sem.run_pure]
 ·have e1 := hx.str_inv
  have e2 := hy.str_inv
  refine ct_same hc (.c (.tree (.str _))) hk (run_call_builtin ho hcal ha ?_)
  have hrun : ∀ (ts : Array TypeId) (t : TypeId) (x y : ByteArray), (Builtin.max_ ts t #[.string x, .string y]).run P w = .ok (.string (bif Op.bytesLess x.toList y.toList then y else x)) w := by
   intro ts t x y
   cases h : Op.bytesLess x.toList y.toList <;> simp [Builtin.max_, Builtin.max2, Op.stringOp, asBool, h]
  simp only [builtin, List.map_cons, List.map_nil, e1, e2, Sem.run_bind, hrun, Result.andThen_ok, Sem.run_pure]
 ·exact hk.elim
end
end Abs
end Go.Proofs.YtkefgcleaalnnaaGreat
