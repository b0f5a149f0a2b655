/- Parts of rows that are written: cleared, copied into. -/
import Derived.Test.YtkefgcleaalnnaaGreatAbsU
import Derived.Laws.CopyRow
namespace Go.Proofs.YtkefgcleaalnnaaGreat
set_option linter.unusedVariables false
set_option linter.unusedSimpArgs false
namespace Abs

section
variable {P : Program} {T : List (Nat × TI)} {F : Nat → Prop} {φ : Nat → Option Value} {X : Nat → Prop} {w : World} {h : Nat → Option Ob} {id : Nat} {N : Nat → Prop} {a : Act} {o : Oper} {k : S → Ch → Prop} {K : Act → World → Prop} {Q : Exit → Act → World → Prop} {PC : Nat → List S → List Ob → (S → List Ob → Prop) → Prop} {mt : List Nat}

theorem flat_len {sz : Nat} : ∀ (rs : List (List V)), (∀ r ∈ rs, r.length = sz) → rs.flatten.length = rs.length * sz
 | [], _ => by simp
 | r :: t, hz => by simp only [List.flatten_cons, List.length_append, List.length_cons, flat_len t (fun r hr => hz r (by simp [hr])), hz r (by simp), Nat.add_mul]; omega
theorem flat_cut {sz : Nat} : ∀ (rs : List (List V)) (m : Nat), (∀ r ∈ rs, r.length = sz) → (rs.drop m).flatten = rs.flatten.drop (m * sz) ∧ (rs.take m).flatten = rs.flatten.take (m * sz)
 | [], m, _ => by simp
 | r :: t, m, hz => by
  have hr := hz r (by simp)
  cases m with
  | zero => simp
  | succ m =>
   obtain ⟨i1, i2⟩ := flat_cut t m (fun r hr => hz r (by simp [hr]))
   have e1 : (m + 1) * sz = r.length + m * sz := by rw [hr, Nat.add_mul]; omega
   simp only [List.drop_succ_cons, List.take_succ_cons, List.flatten_cons, e1, List.drop_length_add_append, List.take_length_add_append, i1, i2, and_self]

theorem Nx.touch (hr : Rp F φ X w h) {l : Nat} {ob : Ob} (hob : h l = some ob) : Nx F φ w h N [(l, ob)] F φ w := by
 have hq : ∀ l2 x, chGet [(l, ob)] l2 = some x → l2 = l ∧ x = ob := by
  intro l2 x hx
  simp only [chGet] at hx
  split at hx
  ·rename_i e; subst e; cases hx; exact ⟨rfl, rfl⟩
  ·cases hx
 refine ⟨fun _ h => h, fun _ _ h => h, fun _ _ h => .inl h, rfl, rfl, rfl, fun _ => Nat.le_refl _, Nat.le_refl _, fun b _ hne => (hne rfl).elim, fun b h => .inl h, ?_, ?_, ?_⟩
 ·intro l2 x hx
  obtain ⟨rfl, rfl⟩ := hq l2 x hx
  exact hr.objs _ _ hob
 ·intro l2 x b hx hv hb'
  obtain ⟨rfl, rfl⟩ := hq l2 x hx
  exact .inr ⟨l2, x, hob, hv, hb', by simp [chGet]⟩
 ·intro l2 l3 x y b hx hy _ _ _ _
  rw [(hq l2 x hx).1, (hq l3 y hy).1]

theorem row_over (hr : Rp F φ X w h) {l e sz : Nat} {rows nr : List (List V)} (hob : h l = some (.row e sz rows)) (hsz0 : 0 < sz) {ad : Option Addr} {M cap : Nat} (hl : φ l = some (.slice ad M cap)) {p : Nat} (hfit : p + nr.length ≤ M) (hz : ∀ r ∈ nr, r.length = sz) (vs : List Value) (hvs : P2 (RT F w) vs nr.flatten) :
  M = rows.length ∧ ∃ w', ((nr = [] ∧ w' = w) ∨ (nr ≠ [] ∧ ∃ b, ad = some ⟨b, 0, none⟩ ∧ ¬ cap = p ∧ (storeCells ⟨b, p * sz, none⟩ vs 0).run P w = .ok () w')) ∧ Nx F φ w h N [(l, .row e sz (overR rows nr p))] F φ w' := by
 have hM : M = rows.length := by
  rcases hr.objs l _ hob with ⟨c, xs, g1, g2, ⟨g3, g3r⟩, g4, g5⟩ | ⟨h00, q, g1⟩
  ·rw [hl] at g1; cases g1
   rcases g3.2 with ⟨hv, hn⟩ | ⟨g, cap', cur, hv, _⟩
   ·cases hv; omega
   ·cases hv; rfl
  ·rw [hl] at g1; cases g1; rw [h00]; rfl
 refine ⟨hM, ?_⟩
 by_cases h0 : nr = []
 ·refine ⟨w, .inl ⟨h0, rfl⟩, ?_⟩
  have : overR rows nr p = rows := by rw [h0]; simp [overR]
  rw [this]; exact Nx.touch hr hob
 ·have hpos : 0 < nr.length := List.length_pos_iff.2 h0
  rcases hr.objs l _ hob with ⟨c, xs, g1, g2, ⟨g3, g3r⟩, g4, g5⟩ | ⟨h00, q, g1⟩
  rotate_left
  ·rw [h00] at hM; simp at hM; omega
  rw [hl] at g1; cases g1
  rcases g3.2 with ⟨hv, hn⟩ | ⟨g, cap', cur, hv, _, hh, hcap, hm, hszc, htake⟩
  ·cases hv; omega
  cases hv
  have hxl : xs.length = rows.length * sz := g3.1
  have hvl : vs.length = nr.length * sz := by rw [hvs.1, flat_len nr hz]
  have hfit1 : p * sz + nr.length * sz ≤ rows.length * sz := by rw [← Nat.add_mul]; exact Nat.mul_le_mul_right _ (by omega)
  have hfit2 : rows.length * sz ≤ cap * sz := Nat.mul_le_mul_right _ hcap
  have hone : ∀ v ∈ vs, v.oneCell' = true := P2.ones hvs
  have hst := run_storeCells_at P g (p * sz) e vs 0 cur w hh (by omega) hone
  have hnbF : ¬ F g := g2 g (by cases cap with | zero => exact g3r.elim | succ => rfl)
  have hflat : (overR rows nr p).flatten = rows.flatten.take (p * sz) ++ nr.flatten ++ rows.flatten.drop (p * sz + nr.length * sz) := by
   unfold overR
   rw [List.flatten_append, List.flatten_append, (flat_cut rows _ g5).2, (flat_cut rows _ g5).1, Nat.add_mul]
  have hlen : (overR rows nr p).length = rows.length := by simp [overR]; omega
  refine ⟨_, .inr ⟨h0, g, rfl, by omega, hst⟩, ?_⟩
  refine Nx.set hr hob rfl (.inl (by cases cap with | zero => exact g3r.elim | succ => simp [blkOf, hl, hb])) _ cur e hh ?_
  have hkeep : ∀ (A : Array Value) b', F b' → (w.setRow g A).heap[b']? = w.heap[b']? := by
   intro A b' hF'
   exact setRow_other w g b' _ (fun e => hnbF (e ▸ hF'))
  refine RO.mkrow (xs := xs.take (p * sz) ++ vs ++ xs.drop (p * sz + vs.length)) hl g2 ⟨?_, .inr ⟨g, cap, _, by rw [hlen], Nat.zero_le _, setRow_heap w g cur _ e (0, 0) hh, by rw [hlen]; exact hcap, hm, ?_, ?_⟩⟩ ?_ ?_
  ·simp only [List.length_append, List.length_take, List.length_drop, hlen, hvl]; omega
  ·simp only [List.size_toArray, List.length_append, List.length_take, List.length_drop, hvl, Array.length_toList, Nat.add_zero]; omega
  ·simp only [hlen, Nat.add_zero, hvl]
   rw [← htake]
   apply List.ext_getElem?
   intro q
   have hcs2 : cur.size = cap * sz := hszc
   have hA : min (p * sz) cur.size = p * sz := by omega
   have hB : min (p * sz) (min (rows.length * sz) cur.size) = p * sz := by omega
   simp only [List.getElem?_take, List.getElem?_append, List.length_take, List.length_append, Array.length_toList, List.getElem?_drop, hvl, hA, hB, Nat.add_zero]
   by_cases q1 : q < p * sz
   ·simp [q1, show q < rows.length * sz by omega, show q < p * sz + nr.length * sz by omega]
   ·by_cases q2 : q < p * sz + nr.length * sz
    ·simp [q1, q2, show q < rows.length * sz by omega]
    ·have hD : p * sz + nr.length * sz + (q - (p * sz + nr.length * sz)) = q := by omega
     simp only [q1, q2, if_false, hD]
  ·rw [hflat, hvl]
   exact (((g4.take _).append hvs).append (g4.drop _)).mono fun _ _ hh => hh.up (fun _ h => h) (hkeep _)
  ·intro r hr'
   unfold overR at hr'
   rcases List.mem_append.1 hr' with h6 | h6
   ·rcases List.mem_append.1 h6 with h7 | h7
    ·exact g5 r (List.mem_of_mem_take h7)
    ·exact hz r h7
   ·exact g5 r (List.mem_of_mem_drop h6)

theorem zeroCells_list (z : Array Value) (hz : 0 < z.size) : ∀ n : Nat, (Builtin.zeroCells z n).toList = (List.replicate n z.toList).flatten := by
 intro n
 have hl : (List.replicate n z.toList).flatten.length = n * z.size := by simp
 apply List.ext_getElem
 ·simp [Builtin.zeroCells]
 ·intro i h1 h2
  have hi : i < n * z.size := by rw [← hl]; exact h2
  have hm : i % z.size < z.size := Nat.mod_lt _ hz
  have hget : ∀ (n i : Nat), i < n * z.size → (List.replicate n z.toList).flatten[i]? = z.toList[i % z.size]? := by
   intro n
   induction n with
   | zero => intro i hi; simp at hi
   | succ n ih =>
    intro i hi
    rw [List.replicate_succ, List.flatten_cons, List.getElem?_append]
    split
    ·rename_i hlt
     rw [Nat.mod_eq_of_lt (by simpa using hlt)]
    ·rename_i hge
     have hge' : z.size ≤ i := by simpa using hge
     rw [Nat.add_mul, Nat.one_mul] at hi
     rw [Array.length_toList, ih (i - z.size) (by omega), Nat.mod_eq_sub_mod hge']
  have e1 := hget n i hi
  rw [List.getElem?_eq_getElem h2] at e1
  have e2 : (Builtin.zeroCells z n).toList[i] = z[i % z.size]'hm := by
   simp [Builtin.zeroCells, hm]
  rw [e2]
  have e3 : z.toList[i % z.size]? = some (z[i % z.size]'hm) := by simp [hm]
  rw [e3] at e1
  exact (Option.some.inj e1).symm
theorem rep_flat {cs : List Value} {zs : List V} (hP : P2 (RT F w) cs zs) (n : Nat) : P2 (RT F w) (List.replicate n cs).flatten (List.replicate n zs).flatten := by
 induction n with
 | zero => exact P2.nil
 | succ m ih => rw [List.replicate_succ, List.replicate_succ, List.flatten_cons, List.flatten_cons]; exact hP.append ih

theorem op_clear {x : Operand} {s : S} {c : Call} {t : Nat} (hT : TabOK P T) (hr : Rp F φ X w h) (ho : o.op = .call c) (hcal : c.callee = .builtin .clear) (ha : c.args.toList = [x]) (hat : c.argTypes = #[t]) (hx : RS F φ w (a.eval x) s)
  (hk : elemTIe T t fun _ ei => aClear h ei s k) (hc : Ct F φ w h N o a k K) : o.wp P a w K Q := by
 obtain ⟨e, ei, hu, hei, hpos, hk2⟩ := elemTIe_inv hT hk
 clear hk
 have hk := hk2
 clear hk2
 obtain ⟨i, z, d, hi, h1, h2, h3, h4, h5, hd, hkd⟩ := hei
 generalize hev : a.eval x = cv at hx
 have hz0 : P2 (RT F w) z.cells.toList ei.zero := constVs_tree h5
 have hzl : ei.zero.length = ei.size := by rw [← hz0.1, ← h4.1]; simp
 have hzs : 0 < z.cells.size := by rw [h4.1]; exact hpos
 have hzero : (zeroValue e).run P w = .ok z w := by simp [zeroValue, typeInfo, hi, h3]
 have main : ∀ (l e0 sz : Nat) (rows : List (List V)) (p n M cap c' : Nat) (ad aa : Option Addr), sz = ei.size → h l = some (.row e0 sz rows) → φ l = some (.slice ad M cap) → p + n ≤ M → cv = .slice aa n c' → (0 < n → ∀ b, ad = some b → aa = some (b.add (p * ei.size))) → k .bot [(l, .row e0 sz (overR rows (List.replicate n ei.zero) p))] → o.wp P a w K Q := by
  intro l e0 sz rows p n M cap c' ad aa hs0 hob hl hfit hcv haa hk
  obtain ⟨hM, w', hw', hnx⟩ := row_over (P := P) (N := N) hr hob (hs0 ▸ hpos) hl (p := p) (nr := List.replicate n ei.zero) (by simpa using hfit) (by intro r hr'; rw [(List.mem_replicate.1 hr').2, hzl, hs0]) (List.replicate n z.cells.toList).flatten (rep_flat hz0 n)
  refine wp_value (v := .tuple #[]) (w' := w') (run_call_builtin ho hcal ha ?_) (hc _ _ _ _ _ _ hnx (.bot _) hk)
  simp only [builtin, hat, List.map_cons, List.map_nil, hev, hcv, Sem.run_bind]
  rcases hw' with ⟨h0, rfl⟩ | ⟨h0, b, rfl, hcp, hst⟩
  ·have hn : n = 0 := by simpa using h0
   subst hn
   cases aa <;> simp [Builtin.clear_, run_underlying hu]
  ·have hn0 : 0 < n := by
    rcases Nat.eq_zero_or_pos n with e | e
    ·exact absurd (by rw [e]; rfl) h0
    ·exact e
   obtain ⟨m, rfl⟩ : ∃ m, n = m + 1 := ⟨n - 1, by omega⟩
   rw [haa (by omega) _ rfl, add_spot, Nat.zero_add]
   have := zeroCells_list z.cells hzs (m + 1)
   rw [hs0] at hst
   simp [Builtin.clear_, run_underlying hu, hzero, this, hst]
 unfold aClear at hk
 split at hk
 ·cases hx with | c hx => cases hx with | tree hx =>
  cases hx
  refine ct_same hc (.bot (.tuple #[])) hk (run_call_builtin ho hcal ha ?_)
  simp only [builtin, hat, List.map_cons, List.map_nil, hev, Sem.run_bind]
  simp [Builtin.clear_, run_underlying hu]
 ·rename_i l
  have hl := hx.row_inv
  split at hk
  ·rename_i e' sz rows hob
   cases hq : Nat.beq sz ei.size with
   | false => simp [hq] at hk
   | true =>
    simp only [hq, cond_true] at hk
    have hs := beq_eqn hq
    obtain ⟨ad, n, cap, g1, g2⟩ := (hr.objs l _ hob).row_shape
    rw [hl] at g1; cases g1
    exact main l e' sz rows 0 rows.length n cap cap ad ad hs hob hl (by omega) (by rw [g2]) (fun _ b hb' => by rw [hb']; simp [Addr.add]) hk
  ·exact hk.elim
 ·rename_i l sz' p n
  split at hk
  ·rename_i e' sz rows hob
   cases hq : Nat.beq sz ei.size && Nat.beq sz' ei.size with
   | false => simp [hq] at hk
   | true =>
    simp only [hq, cond_true] at hk
    rw [Bool.and_eq_true] at hq
    have hs := beq_eqn hq.1
    have hs' := beq_eqn hq.2
    cases hx with | c hx => cases hx with
    | tree hx => cases hx
    | vw l _ p n ad aa M cap c' hl hn hc' hcc' ha0' ha' =>
     refine main l e' sz rows p n M cap c' ad aa hs hob hl hn rfl (fun h0 b hb' => ?_) hk
     obtain ⟨b', e1, e2⟩ := ha' (by omega)
     rw [hb'] at e1; cases e1
     rw [e2, hs']
  ·exact hk.elim
 ·exact hk.elim

theorem op_copy {x y : Operand} {s1 s2 : S} {c : Call} {t : Nat} (hT : TabOK P T) (hr : Rp F φ X w h) (ho : o.op = .call c) (hcal : c.callee = .builtin .copy) (ha : c.args.toList = [x, y]) (hat : c.argTypes = #[t, t]) (hx : RS F φ w (a.eval x) s1) (hy : RS F φ w (a.eval y) s2)
  (hk : elemTIe T t fun _ ei => aCopy h ei s1 s2 k) (hc : Ct F φ w h N o a k K) : o.wp P a w K Q := by
 obtain ⟨e, ei, hu, hei, hpos, hk2⟩ := elemTIe_inv hT hk
 clear hk
 have hk := hk2
 clear hk2
 have hsz := hei.sizeOf w
 generalize hev : a.eval x = cv at hx
 unfold aCopy at hk
 obtain ⟨ax, cx, ys, rows2, hcy, hAt, hP2, hlen, hz2, hk2⟩ := rowsOf_inv hr hy hk
 clear hk
 have hk := hk2
 clear hk2
 have hread : ∀ m, m ≤ rows2.length → (Builtin.firstCells ei.size m (.slice ax rows2.length cx)).run P w = .ok (ys.take (m * ei.size)).toArray w := by
  intro m hm
  have hfit : m * ei.size ≤ ys.length := by rw [hlen]; exact Nat.mul_le_mul_right _ hm
  rcases hAt with rfl | ⟨b, off, rfl, hcell⟩
  ·have h0 : m * ei.size = 0 := by simpa using hfit
   have : m = 0 := by
    rcases Nat.mul_eq_zero.1 h0 with h1 | h1
    ·exact h1
    ·omega
   subst this
   cases ax <;> simp [Builtin.firstCells, loadCells, loadCellsFrom]
  ·have hl2 : (ys.take (m * ei.size)).length = m * ei.size := by simp; omega
   have := run_loadCells_list (P := P) w ⟨b, off, none⟩ (ys.take (m * ei.size)) (by
    intro j v hj
    have hj' : j < m * ei.size := by rw [← hl2]; exact (List.getElem?_eq_some_iff.1 hj).1
    rw [List.getElem?_take, if_pos hj'] at hj
    rw [add_spot, hcell j (by omega), hj])
   rw [hl2] at this
   simpa [Builtin.firstCells] using this
 have main : ∀ (l e0 sz : Nat) (rows : List (List V)) (p n M cap c' : Nat) (ad aa : Option Addr), sz = ei.size → h l = some (.row e0 sz rows) → φ l = some (.slice ad M cap) → p + n ≤ M → cv = .slice aa n c' → (0 < n → ∀ b, ad = some b → aa = some (b.add (p * ei.size))) → k (.c (.int .i64 ((min rows2.length n : Nat) : Int))) [(l, .row e0 sz (overR rows (rows2.take n) p))] → o.wp P a w K Q := by
  intro l e0 sz rows p n M cap c' ad aa hs0 hob hl hfit hcv haa hk
  have htl : (rows2.take n).length = min n rows2.length := List.length_take ..
  have htf : (rows2.take n).flatten = rows2.flatten.take (n * ei.size) := (flat_cut rows2 n hz2).2
  obtain ⟨hM, w', hw', hnx⟩ := row_over (P := P) (N := N) hr hob (hs0 ▸ hpos) hl (p := p) (nr := rows2.take n) (by omega) (by intro r hr'; rw [hz2 r (List.mem_of_mem_take hr'), hs0]) (ys.take (n * ei.size)) (by rw [htf]; exact hP2.take _)
  refine wp_value (v := goInt ((min rows2.length n : Nat) : Int)) (w' := w') (run_call_builtin ho hcal ha ?_) (hc _ _ _ _ _ _ hnx (.c (.tree (.int _ _))) hk)
  have hmn : Nat.min rows2.length n = min rows2.length n := rfl
  have hrd := hread (min rows2.length n) (Nat.min_le_left _ _)
  have htk : ys.take (min rows2.length n * ei.size) = ys.take (n * ei.size) := by
   rcases Nat.le_total rows2.length n with h1 | h1
   ·rw [Nat.min_eq_left h1, ← hlen, List.take_length, List.take_of_length_le (by rw [hlen]; exact Nat.mul_le_mul_right _ h1)]
   ·rw [Nat.min_eq_right h1]
  rw [htk] at hrd
  simp only [builtin, hat, List.map_cons, List.map_nil, hev, hcy, hcv, Sem.run_bind]
  rcases hw' with ⟨h0, rfl⟩ | ⟨h0, b, rfl, hcp, hst⟩
  ·have hn : n = 0 ∨ rows2 = [] := by simpa using h0
   have h00 : ys.take (n * ei.size) = [] := by
    rcases hn with rfl | rfl
    ·simp
    ·have : ys = [] := by simpa using hlen
     simp [this]
   rw [h00] at hrd
   cases aa <;> simp [Builtin.copy_, run_underlying hu, Builtin.lenOf, hsz, hmn, hrd, storeCells]
  ·have hn0 : 0 < n := by
    rcases Nat.eq_zero_or_pos n with e | e
    ·exact absurd (by rw [e]; rfl) h0
    ·exact e
   have haa' := haa hn0 _ rfl
   subst haa'
   rw [hs0] at hst
   simp [Builtin.copy_, run_underlying hu, Builtin.lenOf, hsz, hmn, hrd, add_spot, hst]
 split at hk
 ·cases hx with | c hx => cases hx with | tree hx =>
  cases hx
  refine ct_same hc (.c (.tree (.int _ _))) hk (run_call_builtin ho hcal ha ?_)
  have hrd := hread 0 (Nat.zero_le _)
  simp only [builtin, hat, List.map_cons, List.map_nil, hev, hcy, Sem.run_bind]
  simp [Builtin.copy_, run_underlying hu, Builtin.lenOf, hsz, hrd, goInt]
 ·rename_i l
  have hl := hx.row_inv
  split at hk
  ·rename_i e' sz rows hob
   cases hq : Nat.beq sz ei.size with
   | false => simp [hq] at hk
   | true =>
    simp only [hq, cond_true] at hk
    have hs := beq_eqn hq
    obtain ⟨ad, n, cap, g1, g2⟩ := (hr.objs l _ hob).row_shape
    rw [hl] at g1; cases g1
    exact main l e' sz rows 0 rows.length n cap cap ad ad hs hob hl (by omega) (by rw [g2]) (fun _ b hb' => by rw [hb']; simp [Addr.add]) hk
  ·exact hk.elim
 ·rename_i l sz' p n
  split at hk
  ·rename_i e' sz rows hob
   cases hq : Nat.beq sz ei.size && Nat.beq sz' ei.size with
   | false => simp [hq] at hk
   | true =>
    simp only [hq, cond_true] at hk
    rw [Bool.and_eq_true] at hq
    have hs := beq_eqn hq.1
    have hs' := beq_eqn hq.2
    cases hx with | c hx => cases hx with
    | tree hx => cases hx
    | vw l _ p n ad aa M cap c' hl hn hc' hcc' ha0' ha' =>
     refine main l e' sz rows p n M cap c' ad aa hs hob hl hn rfl (fun h0 b hb' => ?_) hk
     obtain ⟨b', e1, e2⟩ := ha' (by omega)
     rw [hb'] at e1; cases e1
     rw [e2, hs']
  ·exact hk.elim
 ·exact hk.elim
theorem first_run {size m cx : Nat} {ax : Option Addr} {n : Nat} {ys : List Value} (hAt : At w ax ys) (hm : m * size ≤ ys.length) (hsz : 0 < size) : (Builtin.firstCells size m (.slice ax n cx)).run P w = .ok (ys.take (m * size)).toArray w := by
 rcases hAt with rfl | ⟨b, off, rfl, hcell⟩
 ·have h0 : m * size = 0 := by simpa using hm
  have : m = 0 := by
   rcases Nat.mul_eq_zero.1 h0 with h1 | h1
   ·exact h1
   ·omega
  subst this
  cases ax <;> simp [Builtin.firstCells, loadCells, loadCellsFrom]
 ·have hl2 : (ys.take (m * size)).length = m * size := by simp; omega
  have := run_loadCells_list (P := P) w ⟨b, off, none⟩ (ys.take (m * size)) (by
   intro j v hj
   have hj' : j < m * size := by rw [← hl2]; exact (List.getElem?_eq_some_iff.1 hj).1
   rw [List.getElem?_take, if_pos hj'] at hj
   rw [add_spot, hcell j (by omega), hj])
  rw [hl2] at this
  simpa [Builtin.firstCells] using this
theorem op_appendV {x y : Operand} {s1 s2 : S} {c : Call} {t : Nat} (hT : TabOK P T) (hr : Rp F φ X w h) (hN : N id) (hid : φ id = none) (ho : o.op = .call c) (hcal : c.callee = .builtin .append) (ha : c.args.toList = [x, y]) (hat : c.argTypes = #[t, t])
  (hx : RS F φ w (a.eval x) s1) (hy : RS F φ w (a.eval y) s2) (hk : elemTIe T t fun e ei => aAppendV h id e ei s1 s2 k) (hc : Ct F φ w h N o a k K) : o.wp P a w K Q := by
 by_cases hs : ∃ l sz' p n, s1 = .c (.vw l sz' p n)
 rotate_left
 ·refine op_append hT hr hN hid ho hcal ha hat hx hy ?_ hc
  have : ∀ e ei, aAppendV h id e ei s1 s2 k = aAppend h id e ei s1 s2 k := by
   intro e ei
   unfold aAppendV
   split
   ·exact absurd ⟨_, _, _, _, rfl⟩ hs
   ·rfl
  simpa only [this] using hk
 ·obtain ⟨l, sz', p, n, rfl⟩ := hs
  obtain ⟨e, ei, hu, hei, hpos, hk2⟩ := elemTIe_inv hT hk
  clear hk
  have hk := hk2
  clear hk2
  have hszr := hei.sizeOf w
  generalize hev : a.eval x = cv at hx
  unfold aAppendV at hk
  simp only at hk
  obtain ⟨ax, cx, ys, rows2, hcy, hAt, hP2, hlen, hz2, hk2⟩ := rowsOf_inv hr hy hk
  clear hk
  have hk := hk2
  clear hk2
  split at hk
  ·rename_i e' sz rows hob
   cases hq : Nat.beq sz ei.size && Nat.beq sz' ei.size with
   | false => simp [hq] at hk
   | true =>
    simp only [hq, cond_true] at hk
    rw [Bool.and_eq_true] at hq
    have hs := beq_eqn hq.1
    have hs' := beq_eqn hq.2
    obtain ⟨hfit, hk⟩ := hk
    cases hx with | c hx => cases hx with
    | tree hx => cases hx
    | vw l _ p n ad aa M cap c' hl hn hc' hcc' ha0' ha' =>
     have hcap : M ≤ cap ∧ M = rows.length := by
      have htree := (hr.objs _ _ hob).row_tree hl
      obtain ⟨ad2, cap2, e1⟩ := htree.lst_shape
      cases e1
      exact ⟨htree.lst_cap.1, rfl⟩
     obtain ⟨hM, w', hw', hnx⟩ := row_over (P := P) (N := N) hr hob (hs ▸ hpos) hl (p := p + n) (nr := rows2) (by omega) (by intro r hr'; rw [hz2 r hr', hs]) ys hP2
     have hread := first_run (P := P) (n := rows2.length) (cx := cx) hAt (Nat.le_of_eq hlen.symm) hpos
     rw [← hlen, List.take_length] at hread
     have hcap2 : n + rows2.length ≤ c' := by omega
     have hv : RS F φ w' (.slice aa (n + rows2.length) c') (.c (.vw l sz' p (n + rows2.length))) := .c (.vw l sz' p (n + rows2.length) ad aa M cap c' hl (by omega) hcap2 hcc' ha0' ha')
     refine wp_value (v := .slice aa (n + rows2.length) c') (w' := w') (run_call_builtin ho hcal ha ?_) (hc _ _ _ _ _ _ hnx hv hk)
     simp only [builtin, hat, List.map_cons, List.map_nil, hev, hcy, Sem.run_bind]
     rcases hw' with ⟨h0, rfl⟩ | ⟨h0, b, rfl, hcp, hst⟩
     ·subst h0
      have hys : ys = [] := by simpa using hlen
      subst hys
      cases aa with
      | none => cases ax <;> simp [Builtin.append_, run_underlying hu, hszr, Builtin.lenOf, show n ≤ c' by omega, Builtin.firstCells, loadCells, loadCellsFrom]
      | some q => cases ax <;> simp [Builtin.append_, run_underlying hu, hszr, Builtin.lenOf, show n ≤ c' by omega, Builtin.firstCells, loadCells, loadCellsFrom, storeCells]
     ·have hp0 : 0 < rows2.length := List.length_pos_iff.2 h0
      obtain ⟨b2, e1, e2⟩ := ha' (by omega)
      cases e1
      subst e2
      rw [hs] at hst
      have e3 : ((⟨b, 0, none⟩ : Addr).add (p * sz')).add (n * ei.size) = ⟨b, (p + n) * ei.size, none⟩ := by
       rw [add_addr, add_spot, hs', Nat.add_mul, Nat.zero_add]
      simp [Builtin.append_, run_underlying hu, hszr, Builtin.lenOf, hcap2, hread, e3, hst]
  ·exact hk.elim
theorem op_slice3 {t : Nat} {x l b m : Operand} {s1 s0 s2 s3 : S} (hT : TabOK P T) (hr : Rp F φ X w h) (ho : o.op = .slice t x (some l) (some b) (some m)) (hx : RS F φ w (a.eval x) s1) (hl1 : RS F φ w (a.eval l) s0) (hb1 : RS F φ w (a.eval b) s2) (hm : RS F φ w (a.eval m) s3)
  (hk : elemTIe T t fun _ ei => aSlice3 h ei s1 s0 s2 s3 k) (hc : Ct F φ w h N o a k K) : o.wp P a w K Q := by
 obtain ⟨e, ei, hu, hei, hpos, hk2⟩ := elemTIe_inv hT hk
 clear hk
 have hk := hk2
 clear hk2
 have hsz := hei.sizeOf w
 unfold aSlice3 at hk
 split at hk
 ·rename_i k0 a0
  split at hk
  ·rename_i k1 b0
   split at hk
   ·rename_i k2 m0
    have e1 := hl1.int_inv
    have e2 := hb1.int_inv
    have e3 := hm.int_inv
    generalize hev : a.eval x = cv at hx
    split at hk
    ·rename_i l0
     have hl := hx.row_inv
     split at hk
     ·rename_i e' sz rows hob
      cases hq : Nat.beq sz ei.size with
      | false => simp [hq] at hk
      | true =>
       simp only [hq, cond_true] at hk
       obtain ⟨⟨g1, g2, g3, g4⟩, hk⟩ := hk
       have htree := (hr.objs _ _ hob).row_tree hl
       obtain ⟨ad, cap, rfl⟩ := htree.lst_shape
       have hcap := htree.lst_cap.1
       obtain ⟨a1, rfl⟩ := Int.eq_ofNat_of_zero_le g1
       obtain ⟨b1, rfl⟩ := Int.eq_ofNat_of_zero_le (show 0 ≤ b0 by omega)
       obtain ⟨m1, rfl⟩ := Int.eq_ofNat_of_zero_le (show 0 ≤ m0 by omega)
       have q1 : a1 ≤ b1 := by omega
       have q2 : b1 ≤ m1 := by omega
       have q3 : m1 ≤ cap := by omega
       refine ct_same hc (.bot (.slice (if m1 = a1 then ad else ad.map (·.add (a1 * ei.size))) (b1 - a1) (m1 - a1))) hk ?_
       simp [execOp, ho, hev, e1, e2, e3, Instr.sliceAt, run_underlying hu, Instr.slice, Instr.sliceBounds, Instr.sliceBound, asIntOf, hsz, q1, q2, q3]
     ·exact hk.elim
    ·exact hk.elim
   ·exact hk.elim
  ·exact hk.elim
 ·exact hk.elim
end
end Abs
end Go.Proofs.YtkefgcleaalnnaaGreat
