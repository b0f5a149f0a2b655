/- Each operation does what the abstract walk says. -/
import Derived.Test.YtkefgcleaalnnaaGreatAbsC
import Derived.Test.YtkefgcleaalnnaaGreatRegion
namespace Go.Proofs.YtkefgcleaalnnaaGreat
set_option linter.unusedVariables false
set_option linter.unusedSimpArgs false
namespace Abs

section
variable {P : Program} {T : List (Nat × TI)} {F : Nat → Prop} {φ : Nat → Option Value} {X : Nat → Prop} {w : World} {h : Nat → Option Ob} {id : Nat} {N : Nat → Prop} {a : Act} {o : Oper} {k : S → Ch → Prop} {K : Act → World → Prop} {Q : Exit → Act → World → Prop}

def Ct (F : Nat → Prop) (φ : Nat → Option Value) (w : World) (h : Nat → Option Ob) (N : Nat → Prop) (o : Oper) (a : Act) (k : S → Ch → Prop) (K : Act → World → Prop) : Prop :=
 ∀ c w' F' φ' v ch, Nx F φ w h N ch F' φ' w' → RS F' φ' w' c v → k v ch → K (a.put o.dst c) w'

theorem ct_same (hc : Ct F φ w h N o a k K) {c : Value} {v : S} (hs : RS F φ w c v) (hk : k v []) (hrun : (execOp a.eval o).run P w = .ok (.value c) w) : o.wp P a w K Q :=
 wp_value hrun (hc c w F φ v [] Nx.refl hs hk)

theorem load_at {t : Nat} {ti : TI} (ht : TIok P T t ti) {b off : Nat} {vs : List V} (hx : ∀ (j : Nat) (v : V), vs[j]? = some v → ∃ c, w.cell? ⟨b, off + j, none⟩ = some c ∧ RV F φ w c v) {k : S → Prop} (hk : mkS ti vs k) :
  ∃ c s, (Instr.loadAt t (.pointer (some ⟨b, off, none⟩))).run P w = .ok c w ∧ RS F φ w c s ∧ k s := by
 unfold mkS at hk
 have hag := ht.isAgg w
 have hsz := ht.sizeOf w
 cases hA : isAggK ti.kind with
 | true =>
  simp only [hA, cond_true] at hk
  cases hle : Nat.ble ti.size vs.length with
  | false => simp [hle] at hk
  | true =>
   simp only [hle, cond_true] at hk
   have hle' : ti.size ≤ vs.length := Nat.le_of_ble_eq_true hle
   have hcell : ∀ j, j < ti.size → w.cell? ((⟨b, off, none⟩ : Addr).add j) = some ((w.cell? ⟨b, off + j, none⟩).getD undef) := by
    intro j hj
    rw [add_spot]
    obtain ⟨c, hc, _⟩ := hx j vs[j] (List.getElem?_eq_getElem (by omega))
    simp [hc]
   refine ⟨.agg ((List.range ti.size).map fun j => (w.cell? ⟨b, off + j, none⟩).getD undef).toArray, .agg (takeN ti.size vs), ?_, ?_, hk⟩
   ·simp only [Instr.loadAt, Instr.sureAddr, loadVar, Sem.run_bind, Sem.run_pure, Result.andThen_ok, hag, hA, if_true, hsz, run_loadCells (P := P) w ⟨b, off, none⟩ ti.size _ hcell]
   ·refine .agg _ _ ⟨by simp [takeN_len _ _ hle'], fun j x v h1 h2 => ?_⟩
    have hj : j < ti.size := by
     have := (List.getElem?_eq_some_iff.1 h2).1
     rwa [takeN_len _ _ hle'] at this
    rw [takeN_get _ _ _ hj] at h2
    obtain ⟨c, hc, hv⟩ := hx j v h2
    simp [hj, hc] at h1
    subst h1
    exact hv
 | false =>
  simp only [hA, cond_false] at hk
  cases vs with
  | nil => simp at hk
  | cons v r =>
   simp only at hk
   obtain ⟨c, hc, hv⟩ := hx 0 v (by simp)
   refine ⟨c, .c v, ?_, .c hv, hk⟩
   simp only [Nat.add_zero] at hc
   simp [Instr.loadAt, Instr.sureAddr, loadVar, hag, hA, hc]

theorem flat_get {sz : Nat} : ∀ {rows : List (List V)} (hz : ∀ r ∈ rows, r.length = sz) {i : Nat} {r : List V} {j : Nat} {v : V}, rows[i]? = some r → r[j]? = some v → rows.flatten[i * sz + j]? = some v
 | [], _, i, r, j, v, h, _ => by simp at h
 | r0 :: rest, hz, 0, r, j, v, h, h2 => by
  simp at h; subst h
  have hj : j < r0.length := (List.getElem?_eq_some_iff.1 h2).1
  simp only [List.flatten_cons, Nat.zero_mul, Nat.zero_add]
  rw [List.getElem?_append_left hj]; exact h2
 | r0 :: rest, hz, i + 1, r, j, v, h, h2 => by
  have h0 := hz r0 (by simp)
  have := flat_get (rows := rest) (fun r hr => hz r (by simp [hr])) (i := i) (by simpa using h) h2
  simp only [List.flatten_cons]
  rw [List.getElem?_append_right (by rw [h0, Nat.add_mul]; omega), h0, show (i + 1) * sz + j - sz = i * sz + j by rw [Nat.add_mul]; omega]
  exact this
theorem beq_eqn {a b : Nat} (h : Nat.beq a b = true) : a = b := Nat.eq_of_beq_eq_true h

theorem RO.row_cell {l e sz : Nat} {rows : List (List V)} {b n cap : Nat} (hro : RO F φ w l (.row e sz rows)) (hl : φ l = some (.slice (some ⟨b, 0, none⟩) n cap)) {i : Nat} {cs : List V} (hi : rows[i]? = some cs) {j : Nat} {v : V} (hj : cs[j]? = some v) :
  ∃ c, w.cell? ⟨b, i * sz + j, none⟩ = some c ∧ RT F w c v := by
 rcases hro with ⟨c, xs, h1, h2, ⟨h3, _⟩, h4, h5⟩ | ⟨h0, _⟩
 rotate_left
 ·subst h0; simp at hi
 rw [hl] at h1; cases h1
 obtain ⟨c, hc, hv⟩ := h4.get (flat_get h5 hi hj)
 refine ⟨c, ?_, hv⟩
 have h3' : w.ownsRow 0 e sz (.slice (some ⟨b, 0, none⟩) n cap) n xs := by
  rcases h3.2 with ⟨hv', _⟩ | ⟨g, cap', cur, hv', _⟩
  ·cases hv'
  ·cases hv'; exact h3
 have hlt : i * sz + j < xs.length := (List.getElem?_eq_some_iff.1 hc).1
 rw [(own_cell h3' hlt).1]; exact hc

theorem own_shape {e sz n : Nat} {c : Value} {xs : List Value} (h : w.ownsRow 0 e sz c n xs) : ∃ ad cap, c = .slice ad n cap := by
 rcases h.2 with ⟨hv, hn⟩ | ⟨g, cap, cur, hv, _⟩
 ·exact ⟨none, 0, by rw [hv, hn]⟩
 ·exact ⟨_, cap, hv⟩
theorem own_shape1 {e sz n : Nat} {c : Value} {xs : List Value} (h : w.ownsRow 0 e sz c n xs) (hn : n ≠ 0) : ∃ g cap, c = .slice (some ⟨g, 0, none⟩) n cap := by
 rcases h.2 with ⟨hv, hn'⟩ | ⟨g, cap, cur, hv, _⟩
 ·exact (hn hn').elim
 ·exact ⟨g, cap, hv⟩
theorem RowAt.shape {e sz : Nat} {c : Value} {rows : List (List V)} (h : RowAt F w e sz c rows) : ∃ ad cap, c = .slice ad rows.length cap := by
 rcases h with ⟨xs, _, ⟨h3, _⟩, _⟩ | ⟨rfl, p, rfl⟩
 ·exact own_shape h3
 ·exact ⟨_, _, rfl⟩
theorem RowAt.shape1 {e sz : Nat} {c : Value} {rows : List (List V)} (h : RowAt F w e sz c rows) (hn : rows.length ≠ 0) : ∃ g cap, c = .slice (some ⟨g, 0, none⟩) rows.length cap := by
 rcases h with ⟨xs, _, ⟨h3, _⟩, _⟩ | ⟨rfl, p, rfl⟩
 ·exact own_shape1 h3 hn
 ·exact (hn rfl).elim
theorem RowAt.cell {e sz : Nat} {rows : List (List V)} {b n cap : Nat} (h : RowAt F w e sz (.slice (some ⟨b, 0, none⟩) n cap) rows) {i : Nat} {cs : List V} (hi : rows[i]? = some cs) {j : Nat} {v : V} (hj : cs[j]? = some v) :
  ∃ c, w.cell? ⟨b, i * sz + j, none⟩ = some c ∧ RT F w c v :=
 RO.row_cell (φ := fun _ => some (.slice (some ⟨b, 0, none⟩) n cap)) (l := 0) (e := e) (h.elim (fun ⟨xs, h2⟩ => .inl ⟨_, xs, rfl, h2⟩) (fun ⟨h0, p, h1⟩ => .inr ⟨h0, p, by rw [h1]⟩)) rfl hi hj
theorem op_load {t : Nat} {ti : TI} (ht : TIok P T t ti) (hr : Rp F φ X w h) {x : Operand} {s : S} (ho : o.op = .load t x) (hx : RS F φ w (a.eval x) s) (hk : aLoad h ti s k) (hc : Ct F φ w h N o a k K) : o.wp P a w K Q := by
 have fin : ∀ b off (vs : List V), a.eval x = .pointer (some ⟨b, off, none⟩) → (∀ (j : Nat) (v : V), vs[j]? = some v → ∃ c, w.cell? ⟨b, off + j, none⟩ = some c ∧ RV F φ w c v) → (mkS ti vs fun v => k v []) → o.wp P a w K Q := by
  intro b off vs he hcells hm
  obtain ⟨c, s', hrun, hs, hks⟩ := load_at ht hcells hm
  refine ct_same hc hs hks ?_
  simp only [execOp, ho, he, hrun, Sem.run_bind, Result.andThen_ok, Sem.run_pure]
 generalize hev : a.eval x = cv at hx
 unfold aLoad at hk
 split at hk
 ·rename_i l off
  cases hx with | c hv => cases hv with
   | tree hv => cases hv
   | ptr l off b hl =>
    split at hk
    ·rename_i cells _ hob
     obtain ⟨b', cs, E, h1, h2, h3, h4, _⟩ := hr.objs l _ hob
     rw [hl] at h1; cases h1
     refine fin b off _ hev (fun j v hj => ?_) hk
     rw [dropN_eq, List.getElem?_drop] at hj
     obtain ⟨c, hc1, hc2⟩ := h4.get hj
     refine ⟨c, ?_, hc2⟩
     simpa [World.cell?, h3] using hc1
    ·exact hk.elim
 ·rename_i cells
  cases hx with | c hv => cases hv with
   | tree hv => cases hv with
    | cptr b off cells f hF hx hr' => exact fin b off cells hev (fun j v hj => ⟨f j, hx j (List.getElem?_eq_some_iff.1 hj).1, .tree (hr' j v hj)⟩) hk
 ·rename_i l sz i off
  cases hx with | c hv => cases hv with
   | tree hv => cases hv
   | eptr l sz i off b n cap hl =>
    split at hk
    ·rename_i e sz' rows hob
     cases hq : Nat.beq sz' sz with
     | false => simp [hq] at hk
     | true =>
      simp only [hq, cond_true] at hk
      have := beq_eqn hq
      subst this
      obtain ⟨cs, hcs, hk⟩ := hk
      refine fin b _ _ hev (fun j v hj => ?_) hk
      rw [dropN_eq, List.getElem?_drop] at hj
      obtain ⟨c, hc1, hc2⟩ := (hr.objs l _ hob).row_cell hl hcs hj
      exact ⟨c, by rw [Nat.add_assoc]; exact hc1, .tree hc2⟩
    ·rename_i e e2 sz2 ins hob
     cases hq : Nat.beq sz 1 && (Nat.beq off 0 && !isAggK ti.kind) with
     | false => simp [hq] at hk
     | true =>
      simp only [hq, cond_true] at hk
      rw [Bool.and_eq_true, Bool.and_eq_true] at hq
      have := beq_eqn hq.1
      subst this
      have := beq_eqn hq.2.1
      subst this
      obtain ⟨c, rows, hi, hk⟩ := hk
      obtain ⟨c0, g1, g2, ⟨g3, _⟩, g4, _⟩ := hr.objs l _ hob
      rw [hl] at g1; cases g1
      have hil := (List.getElem?_eq_some_iff.1 hi).1
      have hn : n = ins.length := by obtain ⟨_, _, hv⟩ := own_shape g3; cases hv; rfl
      subst hn
      obtain ⟨ad, cap', hsh⟩ := (g4 _ (List.mem_of_getElem? hi)).shape
      refine fin b _ [.inn l i c] hev (fun j v hj => ?_) ?_
      ·cases j with
       | succ j => simp at hj
       | zero =>
        simp at hj; subst hj
        refine ⟨c, ?_, .inn l i c ⟨_, _, _, hsh⟩⟩
        rw [show i * 1 + 0 + 0 = i by omega, (own_cell g3 (by simpa using hil)).1]
        simp [hi]
      ·unfold mkS
       rw [show isAggK ti.kind = false by simpa using hq.2.2]
       exact hk
    ·exact hk.elim
 ·rename_i l i sz j off c
  cases hx with | c hv => cases hv with
   | tree hv => cases hv
   | iptr l i sz j off b n cap =>
    split at hk
    ·rename_i e e2 sz' ins hob
     cases hq : Nat.beq sz' sz with
     | false => simp [hq] at hk
     | true =>
      simp only [hq, cond_true] at hk
      have := beq_eqn hq
      subst this
      obtain ⟨rows, hi, cs, hcs, hk⟩ := hk
      obtain ⟨c0, g1, g2, g3, g4, _⟩ := hr.objs l _ hob
      have hra := g4 _ (List.mem_of_getElem? hi)
      refine fin b _ _ hev (fun p v hp => ?_) hk
      rw [dropN_eq, List.getElem?_drop] at hp
      obtain ⟨c, hc1, hc2⟩ := hra.cell hcs hp
      exact ⟨c, by rw [Nat.add_assoc]; exact hc1, .tree hc2⟩
    ·exact hk.elim
 ·exact hk.elim
end
end Abs
end Go.Proofs.YtkefgcleaalnnaaGreat
