/- Appends. -/
import Derived.Test.YtkefgcleaalnnaaGreatAbsG
namespace Go.Proofs.YtkefgcleaalnnaaGreat
set_option linter.unusedVariables false
set_option linter.unusedSimpArgs false
namespace Abs

section
variable {P : Program} {T : List (Nat × TI)} {F : Nat → Prop} {φ : Nat → Option Value} {X : Nat → Prop} {w : World} {h : Nat → Option Ob} {id : Nat} {N : Nat → Prop} {a : Act} {o : Oper} {k : S → Ch → Prop} {K : Act → World → Prop} {Q : Exit → Act → World → Prop} {PC : Nat → List S → List Ob → (S → List Ob → Prop) → Prop} {mt : List Nat}

theorem RT.cells {c : Value} {sz : Nat} {rows : List (List V)} (h : RT F w c (.lst sz rows)) : ∃ ax cx ys, c = .slice ax rows.length cx ∧ At w ax ys ∧ P2 (RT F w) ys rows.flatten ∧ ys.length = rows.length * sz := by
 cases h with
 | lst0 a cap sz h => exact ⟨a, cap, [], rfl, .inl rfl, P2.nil, by simp⟩
 | lst b off n cap sz rows f hF hn hc hm hz hx hr =>
  have hflen : ∀ (rs : List (List V)), (∀ r ∈ rs, r.length = sz) → rs.flatten.length = rs.length * sz := by
   intro rs
   induction rs with
   | nil => intro _; simp
   | cons r t ih => intro hz; simp only [List.flatten_cons, List.length_append, List.length_cons, ih (fun r hr => hz r (by simp [hr])), hz r (by simp), Nat.add_mul]; omega
  have hcell : ∀ p, p < rows.length * sz → ∃ u v, w.cell? ⟨b, off + p, none⟩ = some u ∧ rows.flatten[p]? = some v ∧ RT F w u v := by
   intro p hp
   have hs : 0 < sz := by
    rcases Nat.eq_zero_or_pos sz with h0 | h0
    ·rw [h0] at hp; simp at hp
    ·exact h0
   have hi : p / sz < rows.length := Nat.div_lt_of_lt_mul (by rw [Nat.mul_comm]; exact hp)
   have hj : p % sz < sz := Nat.mod_lt _ hs
   have hpe : p / sz * sz + p % sz = p := by rw [Nat.mul_comm]; exact Nat.div_add_mod p sz
   have hrl : rows[p / sz].length = sz := hz _ (List.getElem_mem hi)
   have g1 := List.getElem?_eq_getElem hi
   have g2 : rows[p / sz][p % sz]? = some (rows[p / sz][p % sz]'(by omega)) := List.getElem?_eq_getElem (by omega)
   refine ⟨f (p / sz) (p % sz), _, ?_, ?_, hr _ _ _ _ g1 g2⟩
   ·have := hx (p / sz) (p % sz) (by omega) hj
    rwa [Nat.add_assoc, hpe] at this
   ·have := flat_get hz g1 g2
    rwa [hpe] at this
  refine ⟨some ⟨b, off, none⟩, cap, (List.range (rows.length * sz)).map (fun p => (w.cell? ⟨b, off + p, none⟩).getD undef), by rw [hn], .inr ⟨b, off, rfl, ?_⟩, ⟨by simp [hflen rows hz], ?_⟩, by simp⟩
  ·intro p hp
   have hp' : p < rows.length * sz := by simpa using hp
   obtain ⟨u, v, h1, _⟩ := hcell p hp'
   simp [hp', h1]
  ·intro p x v h1 h2
   have hp' : p < rows.length * sz := by
    have := (List.getElem?_eq_some_iff.1 h2).1
    rwa [hflen rows hz] at this
   obtain ⟨u, v', g1, g2, g3⟩ := hcell p hp'
   rw [h2] at g2; cases g2
   simp [hp', g1] at h1
   subst h1
   exact g3

theorem run_append_cap0 (t ty e : TypeId) (size bytes : Nat) (hE : Elem P t e size bytes) (p : Addr) (ax : Option Addr) (m cx : Nat) (h0 : 0 < m) (h63 : m * bytes ≤ 140737488355328) :
  (Builtin.append_ #[t, t] ty #[.slice (some p) 0 0, .slice ax m cx]).run P w = (Builtin.append_ #[t, t] ty #[.slice none 0 0, .slice ax m cx]).run P w := by
 obtain ⟨ht, i, z, hi, hz, hsize, hby, hzs, hsz⟩ := hE
 have hn : Builtin.nextslicecap m 0 = m := by simp [Builtin.nextslicecap, h0]
 have hb' : ¬ (2 ^ 48 < m * i.bytes) := by rw [hby]; omega
 simp [Builtin.append_, run_underlying ht, Go.sizeOf, typeInfo, hi, Builtin.lenOf, Builtin.firstCells, loadCells, loadCellsFrom, hn, hb', show ¬ m = 0 by omega]
theorem run_append_00 (t ty e : TypeId) (size bytes : Nat) (hE : Elem P t e size bytes) (p : Addr) (ax : Option Addr) (cx : Nat) :
  (Builtin.append_ #[t, t] ty #[.slice (some p) 0 0, .slice ax 0 cx]).run P w = .ok (.slice (some p) 0 0) w := by
 obtain ⟨ht, i, z, hi, hz, hsize, hby, hzs, hsz⟩ := hE
 cases ax <;> simp [Builtin.append_, run_underlying ht, Go.sizeOf, typeInfo, hi, Builtin.lenOf, Builtin.firstCells, loadCells, loadCellsFrom, storeCells]
theorem run_push2 (t ty e : TypeId) (size bytes : Nat) (hE : Elem P t e size bytes) (c : Value) (n : Nat) (xs : List Value) (hown : w.ownsRow 0 e size c n xs) (hrm : roomy c)
  (ax : Option Addr) (m cx : Nat) (ys : List Value) (hat : At w ax ys) (hl : ys.length = m * size) (h1 : ∀ u ∈ ys, u.oneCell' = true) (hm : n + m ≤ maxLen) (h63 : (n + m) * bytes ≤ 140737488355328) :
  ∃ c' w', (Builtin.append_ #[t, t] ty #[c, .slice ax m cx]).run P w = .ok c' w' ∧ w'.ownsRow 0 e size c' (n + m) (xs ++ ys) ∧ w.grownBy w' (hb c) ∧ ∀ b, hb c' = some b → hb c = some b ∨ b = w.heap.size := by
 rcases hown.2 with ⟨rfl, hn⟩ | ⟨g, cap, cur, rfl, _⟩
 ·subst hn
  have hx : xs = [] := by have := hown.1; simpa using this
  subst hx
  obtain ⟨ht, i, z, hi, hz, hsize, hby, hzs, hsz⟩ := hE
  by_cases h0 : m = 0
  ·subst h0
   have hy : ys = [] := by simpa using hl
   subst hy
   refine ⟨.slice none 0 0, w, ?_, World.ownsRow_nil _ _ _ _, grown_refl _ _, fun b hb' => by simp [hb] at hb'⟩
   cases ax with
   | none => simp [Builtin.append_, run_underlying ht, Go.sizeOf, typeInfo, hi, Builtin.lenOf, Builtin.firstCells]
   | some p => simp [Builtin.append_, run_underlying ht, Go.sizeOf, typeInfo, hi, Builtin.lenOf, Builtin.firstCells, loadCells, loadCellsFrom]
  ·have hp : 0 < ys.length := by rw [hl]; exact Nat.mul_pos (by omega) hsz
   rcases hat with hy | ⟨b, off, rfl, hc⟩
   ·rw [hy] at hp; simp at hp
   ·obtain ⟨v', w', hr, h2, h3, h4, h5⟩ := run_append_own_at (P := P) w 0 t ty e i z size bytes ht hi hz hsize hby hzs hsz (.slice none 0 0) 0 [] hown ⟨b, off, none⟩ m cx ys hl
     (by intro j u hu
         have hj : j < ys.length := (List.getElem?_eq_some_iff.1 hu).1
         rw [add_spot, hc j hj, hu]) h1 hm h63 (Nat.zero_le _)
    refine ⟨v', w', hr, h2, h3, fun b' hb' => ?_⟩
    have : v'.ownBlock = hb v' ∨ hb v' = none := by
     rcases h2.2 with ⟨rfl, _⟩ | ⟨g, cap, cur, rfl, _⟩
     ·exact .inr rfl
     ·cases cap with
      | zero => exact .inr rfl
      | succ => exact .inl rfl
    rcases this with h6 | h6
    ·rw [← h6] at hb'
     rcases h5 with h5 | h5
     ·rw [h5] at hb'; simp [Value.ownBlock] at hb'
     ·rw [h5] at hb'; cases hb'; exact .inr rfl
    ·rw [h6] at hb'; cases hb'
 ·obtain ⟨a', c', w', hr, h2, h3, h4⟩ := run_push_any (P := P) t ty e size bytes hE 0 g n cap xs hown ax m cx ys hat hl h1 hm h63 (Nat.zero_le _)
  have hbg : hb (.slice (some ⟨g, 0, none⟩) n cap) = some g := by cases cap with | zero => exact hrm.elim | succ => rfl
  refine ⟨.slice a' (n + m) c', w', hr, h2, by rw [hbg]; exact h3, fun b hb' => ?_⟩
  rw [hbg]
  cases a' with
  | none => simp [hb] at hb'
  | some p =>
   have := hb_slice hb'
   subst this
   rcases h4 with h4 | h4
   ·simp [blk] at h4; exact .inl (by rw [h4])
   ·simp [blk] at h4; exact .inr h4

theorem run_push3 (t ty e : TypeId) (size bytes : Nat) (hE : Elem P t e size bytes) (c : Value) (n : Nat) (xs : List Value) (hown : (w.ownsRow 0 e size c n xs ∧ roomy c) ∨ (n = 0 ∧ xs = [] ∧ ∃ p, c = .slice (some p) 0 0))
  (ax : Option Addr) (m cx : Nat) (ys : List Value) (hat : At w ax ys) (hl : ys.length = m * size) (h1 : ∀ u ∈ ys, u.oneCell' = true) (hm : n + m ≤ maxLen) (h63 : (n + m) * bytes ≤ 140737488355328) :
  ∃ c' w', (Builtin.append_ #[t, t] ty #[c, .slice ax m cx]).run P w = .ok c' w' ∧ (w'.ownsRow 0 e size c' (n + m) (xs ++ ys) ∨ (n + m = 0 ∧ xs ++ ys = [] ∧ ∃ p, c' = .slice (some p) 0 0)) ∧ w.grownBy w' (hb c) ∧ ∀ b, hb c' = some b → hb c = some b ∨ b = w.heap.size := by
 rcases hown with ⟨hown, hrm⟩ | ⟨rfl, rfl, p, rfl⟩
 ·obtain ⟨c', w', h1, h2, h3⟩ := run_push2 (P := P) t ty e size bytes hE c n xs hown hrm ax m cx ys hat hl h1 hm h63
  exact ⟨c', w', h1, .inl h2, h3⟩
 ·rcases Nat.eq_zero_or_pos m with rfl | h0
  ·have hy : ys = [] := by simpa using hl
   subst hy
   exact ⟨_, w, run_append_00 t ty e size bytes hE p ax cx, .inr ⟨rfl, rfl, p, rfl⟩, grown_refl _ _, fun b hb' => by simp [hb] at hb'⟩
  ·obtain ⟨c', w', g1, g2, g3, g4⟩ := run_push2 (P := P) t ty e size bytes hE (.slice none 0 0) 0 [] (World.ownsRow_nil _ _ _ _) trivial ax m cx ys hat hl h1 hm h63
   refine ⟨c', w', ?_, .inl g2, g3, g4⟩
   rw [run_append_cap0 t ty e size bytes hE p ax m cx h0 (by simpa using h63)]
   exact g1

theorem elemTIe_inv (hT : TabOK P T) {t : Nat} {k : Nat → TI → Prop} (hk : elemTIe T t k) : ∃ e ei, P.underlying t = some (.slice e) ∧ TIok P T e ei ∧ 0 < ei.size ∧ k e ei := by
 unfold elemTIe at hk
 split at hk
 ·rename_i ti hti
  split at hk
  ·rename_i e he
   split at hk
   ·rename_i ei hei
    cases hq : Nat.blt 0 ei.size with
    | false => simp [hq] at hk
    | true =>
     simp only [hq, cond_true] at hk
     obtain ⟨i, z, d, hi, h1, h2, h3, h4, h5, hd, hkd⟩ := hT t ti hti
     rw [he] at hkd
     subst hkd
     exact ⟨e, ei, hd, hT e ei hei, Nat.le_of_ble_eq_true hq, hk⟩
   ·exact hk.elim
  ·exact hk.elim
 ·exact hk.elim

theorem rowsOf_inv {size : Nat} {c : Value} {s : S} (hr : Rp F φ X w h) (hx : RS F φ w c s) {k : List (List V) → Prop} (hk : rowsOf h size s k) :
  ∃ ax cx ys rows, c = .slice ax rows.length cx ∧ At w ax ys ∧ P2 (RT F w) ys rows.flatten ∧ ys.length = rows.length * size ∧ (∀ r ∈ rows, r.length = size) ∧ k rows := by
 have hzz : ∀ {c : Value} {sz : Nat} {rows : List (List V)}, RT F w c (.lst sz rows) → ∀ r ∈ rows, r.length = sz := by
  intro c sz rows hh
  cases hh with
  | lst0 => intro r hr; cases hr
  | lst b off n cap sz rows f hF hn hc hm hz => exact hz
 unfold rowsOf at hk
 split at hk
 ·rename_i sz rows
  cases hq : Nat.beq sz size with
  | false => simp [hq] at hk
  | true =>
   simp only [hq, cond_true] at hk
   have := beq_eqn hq
   subst this
   cases hx with | c hx => cases hx with | tree hx =>
    obtain ⟨ax, cx, ys, h1, h2, h3, h4⟩ := hx.cells
    exact ⟨ax, cx, ys, rows, h1, h2, h3, h4, hzz hx, hk⟩
 ·cases hx with | c hx => cases hx with | tree hx => cases hx; exact ⟨none, 0, [], [], rfl, .inl rfl, P2.nil, by simp, by simp, hk⟩
 ·rename_i l
  have hl := hx.row_inv
  split at hk
  ·rename_i e' sz rows hob
   cases hq : Nat.beq sz size with
   | false => simp [hq] at hk
   | true =>
    simp only [hq, cond_true] at hk
    have := beq_eqn hq
    subst this
    rcases hr.objs l _ hob with ⟨c', xs, g1, g2, ⟨g3, _⟩, g4, g5⟩ | ⟨rfl, p, g1⟩
    rotate_left
    ·rw [hl] at g1; cases g1
     exact ⟨some p, 0, [], [], rfl, .inl rfl, P2.nil, by simp, by simp, hk⟩
    rw [hl] at g1; cases g1
    have hsh : ∃ ax cx, c = .slice ax rows.length cx := by
     rcases g3.2 with ⟨hv, hn⟩ | ⟨g, cap, cur, hv, _⟩
     ·exact ⟨none, 0, by rw [hv, hn]⟩
     ·exact ⟨_, cap, hv⟩
    obtain ⟨ax, cx, rfl⟩ := hsh
    exact ⟨ax, cx, xs, rows, rfl, own_at g3, g4, g3.1, g5, hk⟩
  ·rename_i sz rows hob
   cases hq : Nat.beq sz size with
   | false => simp [hq] at hk
   | true =>
    simp only [hq, cond_true] at hk
    have := beq_eqn hq
    subst this
    obtain ⟨c', h1, h2⟩ := hr.objs l _ hob
    rw [hl] at h1; cases h1
    obtain ⟨ax, cx, ys, g1, g2, g3, g4⟩ := h2.cells
    exact ⟨ax, cx, ys, rows, g1, g2, g3, g4, hzz h2, hk⟩
  ·exact hk.elim
 ·rename_i l sz' o n
  split at hk
  ·rename_i e' sz rows hob
   cases hq : Nat.beq sz size && Nat.beq sz' size with
   | false => simp [hq] at hk
   | true =>
    simp only [hq, cond_true] at hk
    rw [Bool.and_eq_true] at hq
    have := beq_eqn hq.1
    subst this
    have := beq_eqn hq.2
    subst this
    cases hx with | c hx => cases hx with
    | tree hx => cases hx
    | vw l _ o n ad a' N cap c' hl hn hc' hcc' ha0' ha' =>
    have hro := hr.objs l _ hob
    rcases hro with ⟨c', xs, g1, g2, ⟨g3, g3r⟩, g4, g5⟩ | ⟨rfl, p, g1⟩
    rotate_left
    ·rw [hl] at g1; cases g1
     have e1 : o = 0 := by omega
     have e2 : n = 0 := by omega
     subst e1 e2
     exact ⟨a', c', [], [], rfl, .inl rfl, P2.nil, by simp, by simp, by simpa [sub] using hk⟩
    rw [hl] at g1; cases g1
    have hxl := g3.1
    have hN : N = rows.length ∧ N ≤ cap := by
     rcases g3.2 with ⟨hv, hn0⟩ | ⟨g, cap', cur, hv, _, _, hcap, _⟩
     ·cases hv; omega
     ·cases hv; omega
    have hlen : (sub rows o (o + n)).length = n := by simp [sub]; omega
    have hflen : ∀ (rs : List (List V)), (∀ r ∈ rs, r.length = sz') → rs.flatten.length = rs.length * sz' := by
     intro rs
     induction rs with
     | nil => intro _; simp
     | cons r t ih => intro hz; simp only [List.flatten_cons, List.length_append, List.length_cons, ih (fun r hr => hz r (by simp [hr])), hz r (by simp), Nat.add_mul]; omega
    have hfd : ∀ (rs : List (List V)) (m : Nat), (∀ r ∈ rs, r.length = sz') → (rs.drop m).flatten = rs.flatten.drop (m * sz') ∧ (rs.take m).flatten = rs.flatten.take (m * sz') := by
     intro rs
     induction rs with
     | nil => intro m _; simp
     | cons r t ih =>
      intro m hz
      have hr := hz r (by simp)
      cases m with
      | zero => simp
      | succ m =>
       obtain ⟨i1, i2⟩ := ih m (fun r hr => hz r (by simp [hr]))
       have e1 : (m + 1) * sz' = r.length + m * sz' := by rw [hr, Nat.add_mul]; omega
       simp only [List.drop_succ_cons, List.take_succ_cons, List.flatten_cons, e1, List.drop_length_add_append, List.take_length_add_append, i1, i2, and_self]
    have hsf : (sub rows o (o + n)).flatten = (rows.flatten.drop (o * sz')).take (n * sz') := by
     unfold sub
     rw [Nat.add_sub_cancel_left, (hfd _ n (fun r hr => g5 r (List.mem_of_mem_drop hr))).2, (hfd rows o g5).1]
    have hsz : ∀ r ∈ sub rows o (o + n), r.length = sz' := fun r hr => g5 r (List.mem_of_mem_drop (List.mem_of_mem_take hr))
    have hP : P2 (RT F w) ((xs.drop (o * sz')).take (n * sz')) (sub rows o (o + n)).flatten := by
     rw [hsf]
     refine ⟨by simp [g4.1], fun j x y hj1 hj2 => ?_⟩
     simp only [List.getElem?_take, List.getElem?_drop] at hj1 hj2
     split at hj1
     ·rename_i hlt; rw [if_pos hlt] at hj2; exact g4.2 _ x y hj1 hj2
     ·cases hj1
    have hfit : o * sz' + n * sz' ≤ xs.length := by
     rw [hxl, ← Nat.add_mul]; exact Nat.mul_le_mul_right _ (by omega)
    rcases Nat.eq_zero_or_pos n with hn0 | hn0
    ·subst hn0
     refine ⟨a', c', [], sub rows o (o + 0), by rw [hlen], .inl rfl, ?_, ?_, hsz, hk⟩
     ·rw [List.eq_nil_of_length_eq_zero hlen]; exact P2.nil
     ·rw [hlen]; simp
    ·rcases g3.2 with ⟨hv, hn1⟩ | ⟨g, cap', cur, hv, _, hh, hcap, hmx, hcs, htk⟩
     ·omega
     ·cases hv
      obtain ⟨b0, hb0, hba⟩ := ha' (by omega)
      cases hb0
      refine ⟨some ⟨g, o * sz', none⟩, c', (xs.drop (o * sz')).take (n * sz'), sub rows o (o + n), ?_, .inr ⟨g, o * sz', rfl, ?_⟩, hP, ?_, hsz, hk⟩
      ·rw [hlen, hba, add_spot, Nat.zero_add]
      ·intro j hj
       have hj' : j < n * sz' := by simp at hj; omega
       rw [List.getElem?_take, if_pos hj', List.getElem?_drop, ← htk, List.getElem?_take, if_pos (by rw [hxl] at hfit; omega)]
       simp [World.cell?, hh]
      ·rw [hlen]; simp only [List.length_take, List.length_drop]; omega
  ·exact hk.elim
 ·exact hk.elim

theorem P2.ones {cs : List Value} {vs : List V} (h : P2 (RT F w) cs vs) : ∀ u ∈ cs, u.oneCell' = true := by
 intro u hu
 obtain ⟨j, hj, rfl⟩ := List.getElem_of_mem hu
 have hj2 : j < vs.length := by rw [← h.1]; exact hj
 exact (h.2 j _ _ (List.getElem?_eq_getElem hj) (List.getElem?_eq_getElem hj2)).one

theorem Elem_of {t e : Nat} {ei : TI} (ht : P.underlying t = some (.slice e)) (he : TIok P T e ei) (hs : 0 < ei.size) : Elem P t e ei.size ei.bytes := by
 obtain ⟨i, z, d, hi, h1, h2, h3, h4, h5, hd, hkd⟩ := he
 exact ⟨ht, i, z, hi, h3, h1, h2, h4.1, hs⟩

theorem op_append {x y : Operand} {s1 s2 : S} {c : Call} {t : Nat} (hT : TabOK P T) (hr : Rp F φ X w h) (hN : N id) (hid : φ id = none) (ho : o.op = .call c) (hcal : c.callee = .builtin .append) (ha : c.args.toList = [x, y]) (hat : c.argTypes = #[t, t])
  (hx : RS F φ w (a.eval x) s1) (hy : RS F φ w (a.eval y) s2) (hk : elemTIe T t fun e ei => aAppend h id e ei s1 s2 k) (hc : Ct F φ w h N o a k K) : o.wp P a w K Q := by
 obtain ⟨e, ei, hu, hei, hpos, hk2⟩ := elemTIe_inv hT hk
 clear hk
 have hk := hk2
 clear hk2
 have hE := Elem_of hu hei hpos
 unfold aAppend at hk
 obtain ⟨ax, cx, ys, rows2, hcy, hAt, hP2, hlen, hz2, hk2⟩ := rowsOf_inv hr hy hk
 clear hk
 have hk := hk2
 clear hk2
 have key : ∀ (c1 : Value) (n : Nat) (xs : List Value) (rows1 : List (List V)) (ch0 : Ch), a.eval x = c1 → n = rows1.length → ((w.ownsRow 0 e ei.size c1 n xs ∧ roomy c1) ∨ (n = 0 ∧ xs = [] ∧ ∃ p, c1 = .slice (some p) 0 0)) → P2 (RT F w) xs rows1.flatten → (∀ r ∈ rows1, r.length = ei.size) →
   (c1 = .slice none 0 0 ∧ ch0 = [] ∨ ∃ l ob, h l = some ob ∧ live ob = true ∧ φ l = some c1 ∧ ch0 = [(l, .dead)]) → roomOK ei (rows1.length + rows2.length) → ∃ c' w', (Builtin.append_ #[t, t] o.type #[c1, .slice ax rows2.length cx]).run P w = .ok c' w' ∧ Nx F φ w h N (ch0 ++ [(id, .row e ei.size (rows1 ++ rows2))]) F (addφ φ id c') w' := by
  intro c1 n xs rows1 ch0 hev hn hown hP1 hz1 hch hroom
  subst hn
  obtain ⟨c', w', hrun, hown', hg, hblk⟩ := run_push3 (P := P) t o.type e ei.size ei.bytes hE c1 _ xs hown ax rows2.length cx ys hAt hlen hP2.ones (by have := hroom.1; unfold maxLen; omega) hroom.2
  have hsh : c'.oneCell' = true := by
   rcases hown' with hown' | ⟨_, _, p, rfl⟩
   ·rcases hown'.2 with ⟨rfl, _⟩ | ⟨g, cap, cur, rfl, _⟩ <;> rfl
   ·rfl
  have hφ := addφ_ext hid c'
  have hblive : ∀ b, hb c1 = some b → ∃ l ob, h l = some ob ∧ live ob = true ∧ φ l = some c1 ∧ ch0 = [(l, .dead)] := by
   intro b hb'
   rcases hch with ⟨rfl, _⟩ | hh
   ·simp [hb] at hb'
   ·exact hh
  have hF1 : ∀ b, hb c1 = some b → ¬ F b ∧ b < w.heap.size := by
   intro b hb'
   obtain ⟨l, ob, k1, k2, k3, _⟩ := hblive b hb'
   have := (hr.objs l ob k1).lt k2 (b := b) (.inl (by simp [blkOf, k3, hb']))
   exact ⟨this.2, this.1⟩
  have hkF : ∀ b, F b → w'.heap[b]? = w.heap[b]? := by
   intro b hFb
   refine hg.block b (hr.bd b hFb) (fun e => ?_)
   exact (hF1 b e.symm).1 hFb
  have hq : ∀ l2 ob2, chGet (ch0 ++ [(id, Ob.row e ei.size (rows1 ++ rows2))]) l2 = some ob2 → (l2 = id ∧ ob2 = .row e ei.size (rows1 ++ rows2)) ∨ ob2 = .dead := by
   intro l2 ob2 hx
   rw [chGet_append] at hx
   simp only [chGet] at hx
   by_cases e1 : id = l2
   ·subst e1; simp at hx; exact .inl ⟨rfl, hx.symm⟩
   ·simp only [if_neg e1] at hx
    rcases hch with ⟨_, rfl⟩ | ⟨l, ob, _, _, _, rfl⟩
    ·simp [chGet] at hx
    ·simp only [chGet] at hx
     split at hx
     ·cases hx; exact .inr rfl
     ·cases hx
  have hin : ∀ b, hb c1 = some b → ∃ l2 o2, h l2 = some o2 ∧ live o2 = true ∧ Blk φ l2 o2 b ∧ (chGet (ch0 ++ [(id, Ob.row e ei.size (rows1 ++ rows2))]) l2).isSome := by
   intro b hb'
   obtain ⟨l, ob, k1, k2, k3, rfl⟩ := hblive b hb'
   refine ⟨l, ob, k1, k2, (.inl (by simp [blkOf, k3, hb'])), ?_⟩
   rw [chGet_append]
   simp only [chGet]
   by_cases e1 : id = l
   ·simp [e1]
   ·simp [e1]
  have hnx : Nx F φ w h N (ch0 ++ [(id, .row e ei.size (rows1 ++ rows2))]) F (addφ φ id c') w' := by
   refine ⟨fun _ h => h, hφ, ?_, hg.os, hg.tape, hg.output, fun _ => sem_mono _ hrun, hg.size, ?_, fun b hb' => .inl hb', ?_, ?_, ?_⟩
   ·intro l d hl
    unfold addφ at hl
    split at hl
    ·rename_i e1; subst e1; cases hl; exact .inr ⟨hN, hsh⟩
    ·exact .inl hl
   ·intro b hb' hne
    by_cases e1 : hb c1 = some b
    ·exact hin b e1
    ·exact (hne (hg.block b hb' (fun e2 => e1 e2.symm))).elim
   ·intro l2 ob2 hx
    rcases hq l2 ob2 hx with ⟨rfl, rfl⟩ | rfl
    ·rcases hown' with hown' | ⟨h00, _, p, rfl⟩
     rotate_left
     ·have hz1 : rows1 = [] := List.eq_nil_of_length_eq_zero (by omega)
      have hz2 : rows2 = [] := List.eq_nil_of_length_eq_zero (by omega)
      subst hz1 hz2
      exact .inr ⟨rfl, p, by simp [addφ]⟩
     refine RO.mkrow (c := c') (xs := xs ++ ys) (by simp [addφ]) ?_ ?_ ?_ ?_
     ·intro b hb' hFb
      rcases hblk b hb' with h6 | h6
      ·exact (hF1 b h6).1 hFb
      ·have := hr.bd b hFb; omega
     ·rw [List.length_append]; exact hown'
     ·rw [List.flatten_append]
      exact (hP1.append hP2).mono fun _ _ hh => hh.up (fun _ h => h) hkF
     ·intro r hr'
      rcases List.mem_append.1 hr' with h6 | h6
      ·exact hz1 r h6
      ·exact hz2 r h6
    ·trivial
   ·intro l2 ob2 b hx hv hb'
    rcases hq l2 ob2 hx with ⟨rfl, rfl⟩ | rfl
    ·replace hb' := hb'.base; simp only [blkOf, addφ, if_true, Option.bind_some] at hb'
     rcases hblk b hb' with h6 | h6
     ·exact .inr (hin b h6)
     ·exact .inl (by omega)
    ·simp [live] at hv
   ·intro l2 l3 ob2 ob3 b hx hx' hv hv' _ _
    rcases hq l2 ob2 hx with ⟨rfl, rfl⟩ | rfl
    ·rcases hq l3 ob3 hx' with ⟨rfl, rfl⟩ | rfl
     ·rfl
     ·simp [live] at hv'
    ·simp [live] at hv
  exact ⟨c', w', hrun, hnx⟩
 have done : ∀ (c1 c' : Value) (w' : World) (ch : Ch) (F2 : Nat → Prop), a.eval x = c1 → (Builtin.append_ #[t, t] o.type #[c1, .slice ax rows2.length cx]).run P w = .ok c' w' → Nx F φ w h N ch F2 (addφ φ id c') w' → k (.c (.row id)) ch → o.wp P a w K Q := by
  intro c1 c' w' ch F2 hev hrun hnx hk
  refine wp_value (v := c') (w' := w') (run_call_builtin ho hcal ha ?_) (hc _ _ _ _ _ _ hnx (.c (.row id c' (by simp [addφ]))) hk)
  simp only [builtin, hat, List.map_cons, List.map_nil, hev, hcy, Sem.run_bind, hrun, Result.andThen_ok, Sem.run_pure]
 have still : ∀ (l : Nat) (c1 c' : Value) (w' : World) (rows1 : List (List V)), h l = some (.row e ei.size rows1) → φ l = some c1 → roomOK ei (rows1.length + rows2.length) → (Builtin.append_ #[t, t] o.type #[c1, .slice ax rows2.length cx]).run P w = .ok c' w' → Nx F φ w h N ([(l, .dead)] ++ [(id, .row e ei.size (rows1 ++ rows2))]) F (addφ φ id c') w' →
   ∃ F2, Nx F φ w h N [(l, .frow ei.size rows1), (id, .frow ei.size (rows1 ++ rows2))] F2 (addφ φ id c') w' := by
  intro l c1 c' w' rows1 hob hl hroom hrun h1
  have hro := hr.objs l _ hob
  have hli : l ≠ id := fun q => by rw [q, hid] at hl; cases hl
  have hrT : Rp F φ (fun _ => True) w h := ⟨hr.objs, hr.inj, fun _ _ _ _ _ _ => trivial, hr.bd, hr.one, hr.tb⟩
  have hr2 := hrT.next h1 (fun _ _ => trivial)
  have hob2 : updF h ([(l, Ob.dead)] ++ [(id, Ob.row e ei.size (rows1 ++ rows2))]) id = some (.row e ei.size (rows1 ++ rows2)) := by
   unfold updF; rw [chGet_append]; simp [chGet]
  have hfz := Nx.freeze (N := N) hr2 hob2 (show addφ φ id c' id = some c' by simp [addφ])
  have h12 := Nx.trans hrT (fun _ _ => trivial) h1 hfz
  have hsm : ∀ l2, (chGet ([(l, Ob.dead)] ++ [(id, Ob.row e ei.size (rows1 ++ rows2))] ++ [(id, Ob.frow ei.size (rows1 ++ rows2))]) l2).isSome → (chGet [(l, Ob.frow ei.size rows1), (id, Ob.frow ei.size (rows1 ++ rows2))] l2).isSome := by
   intro l2
   rw [chGet_append, chGet_append]
   simp only [chGet]
   by_cases q1 : id = l2 <;> by_cases q2 : l = l2 <;> simp [q1, q2]
  have hgid : chGet ([(l, Ob.dead)] ++ [(id, Ob.row e ei.size (rows1 ++ rows2))] ++ [(id, Ob.frow ei.size (rows1 ++ rows2))]) id = some (.frow ei.size (rows1 ++ rows2)) := by
   rw [chGet_append]; simp [chGet]
  obtain ⟨c0, hc0, hT1⟩ := h12.objs id _ hgid
  have hc0' : c' = c0 := by simpa [addφ] using hc0
  subst hc0'
  have hold : RT (fun b => (F b ∨ hb c' = some b) ∨ hb c1 = some b) w' c1 (.lst ei.size rows1) := by
   have hB : (∀ b, b < w.heap.size → w'.heap[b]? = w.heap[b]?) → RT (fun b => (F b ∨ hb c' = some b) ∨ hb c1 = some b) w' c1 (.lst ei.size rows1) := by
    intro hk
    refine (hro.row_tree hl).up (fun b hb' => hb'.elim (fun q => .inl (.inl q)) .inr) (fun b hb' => hk b ?_)
    rcases hb' with hb' | hb'
    ·exact hr.bd b hb'
    ·exact (hro.lt rfl (.inl (by simp [blkOf, hl, hb']))).1
   rcases hro with ⟨c'', xs, g1, g2, ⟨g3, g3r⟩, g4, g5⟩ | ⟨rfl, p, g1⟩
   rotate_left
   ·rw [hl] at g1; cases g1; exact .lst0 _ 0 _ (Nat.zero_le _)
   rw [hl] at g1; cases g1
   rcases g3.2 with ⟨hv, hn⟩ | ⟨g, cap, cur, hv, _, hh, hcap, hm, hsz, htake⟩
   ·subst hv
    have : rows1 = [] := by simpa using hn
    subst this
    exact .lst0 none 0 _ (Nat.zero_le _)
   ·subst hv
    rcases push_old (P := P) t o.type e ei.size ei.bytes hE 0 g rows1.length cap xs g3 ax rows2.length cx ys hAt hlen hP2.ones (by have := hroom.1; unfold maxLen; omega) hroom.2 hrun with ⟨c2, rfl⟩ | hk
    ·cases hr1 : rows1 with
     | nil => exact .lst0 _ _ _ hm
     | cons a0 r0 =>
      rw [hr1] at hT1 hcap
      generalize hL : (a0 :: r0) ++ rows2 = L at hT1
      generalize hM : (a0 :: r0).length + rows2.length = M at hT1
      cases hT1 with
      | lst0 => simp at hM
      | lst b off n cap2 sz rows f hF hn hc2 hm2 hz hx hr3 =>
       subst hL hM
       refine .lst g 0 _ cap ei.size _ f (.inl hF) rfl hcap hm (fun r hr => hz r (List.mem_append_left _ hr)) (fun i j hi hj => hx i j (Nat.lt_of_lt_of_le hi (Nat.le_add_right _ _)) hj) ?_
       intro i r j v hi hj
       refine (hr3 i r j v ?_ hj).up (fun _ q => .inl q) (fun _ _ => rfl)
       rw [List.getElem?_append_left (List.getElem?_eq_some_iff.1 hi).1]; exact hi
    ·exact hB hk
  refine ⟨fun b => (F b ∨ hb c' = some b) ∨ hb c1 = some b, fun b q => .inl (h12.hF b q), h12.hφ, h12.nφ, h12.os, h12.tape, h12.output, h12.drawn, h12.size, ?_, ?_, ?_, ?_, ?_⟩
  ·intro b q1 q2
   obtain ⟨l2, o2, k1, k2, k3, k4⟩ := h12.keep b q1 q2
   exact ⟨l2, o2, k1, k2, k3, hsm l2 k4⟩
  ·intro b hb'
   rcases hb' with hb' | hb'
   ·rcases h12.nF b hb' with k | ⟨k1, k | ⟨l2, o2, k2, k3, k4, k5⟩⟩
    ·exact .inl k
    ·exact .inr ⟨k1, .inl k⟩
    ·exact .inr ⟨k1, .inr ⟨l2, o2, k2, k3, k4, hsm l2 k5⟩⟩
   ·have hbk : ∀ q, Blk φ l q b := fun _ => .inl (by simp [blkOf, hl, hb'])
    exact .inr ⟨Nat.lt_of_lt_of_le (hro.lt rfl (hbk _)).1 h12.size, .inr ⟨l, _, hob, rfl, hbk _, by simp only [chGet]; by_cases q : id = l <;> simp [q]⟩⟩
  ·intro l2 o2 hx
   simp only [chGet] at hx
   by_cases q2 : id = l2
   ·subst q2
    simp at hx; subst hx
    exact ⟨c', by simp [addφ], hT1.up (fun _ q => .inl q) (fun _ _ => rfl)⟩
   ·simp only [if_neg q2] at hx
    by_cases q1 : l = l2
    ·subst q1
     simp at hx; subst hx
     exact ⟨c1, h12.hφ _ _ hl, hold⟩
    ·simp [q1] at hx
  ·intro l2 o2 b hx hv
   simp only [chGet] at hx
   by_cases q2 : id = l2
   ·simp [q2] at hx; subst hx; simp [live] at hv
   ·simp only [if_neg q2] at hx
    by_cases q1 : l = l2
    ·simp [q1] at hx; subst hx; simp [live] at hv
    ·simp [q1] at hx
  ·intro l2 l3 o2 o3 b hx _ hv
   simp only [chGet] at hx
   by_cases q2 : id = l2
   ·simp [q2] at hx; subst hx; simp [live] at hv
   ·simp only [if_neg q2] at hx
    by_cases q1 : l = l2
    ·simp [q1] at hx; subst hx; simp [live] at hv
    ·simp [q1] at hx
 generalize hev : a.eval x = c1 at hx
 split at hk
 ·cases hx with | c hx => cases hx with | tree hx =>
   cases hx
   obtain ⟨c', w', h1, h2⟩ := key _ 0 [] [] [] hev rfl (.inl ⟨World.ownsRow_nil _ _ _ _, trivial⟩) P2.nil (by simp) (.inl ⟨rfl, rfl⟩) (by simpa using hk.c)
   exact done _ c' w' _ _ hev h1 h2 (by simpa using hk.p)
 ·rename_i l
  have hl := hx.row_inv
  split at hk
  ·rename_i e' sz rows1 hob
   cases hq : Nat.beq e' e && Nat.beq sz ei.size with
   | false => simp [hq] at hk
   | true =>
    simp only [hq, cond_true] at hk
    rw [Bool.and_eq_true] at hq
    have e1 := beq_eqn hq.1
    have e2 := beq_eqn hq.2
    subst e1 e2
    have hX : roomOK ei (rows1.length + rows2.length) → ∃ c' w', (Builtin.append_ #[t, t] o.type #[c1, .slice ax rows2.length cx]).run P w = .ok c' w' ∧ Nx F φ w h N ([(l, .dead)] ++ [(id, .row e' ei.size (rows1 ++ rows2))]) F (addφ φ id c') w' := by
     intro hroom
     rcases hr.objs l _ hob with ⟨c', xs, g1, g2, g3, g4, g5⟩ | ⟨rfl, p, g1⟩
     ·rw [hl] at g1; cases g1
      exact key _ _ xs rows1 [(l, .dead)] hev rfl (.inl g3) g4 g5 (.inr ⟨l, _, hob, rfl, hl, rfl⟩) hroom
     ·rw [hl] at g1; cases g1
      exact key _ _ [] [] [(l, .dead)] hev rfl (.inr ⟨rfl, rfl, p, rfl⟩) P2.nil (by simp) (.inr ⟨l, _, hob, rfl, hl, rfl⟩) hroom
    rcases hk with ⟨hroom, hkp⟩ | ⟨hroom, hkp⟩
    ·obtain ⟨c', w', h1, h2⟩ := hX hroom
     exact done _ c' w' _ _ hev h1 h2 hkp
    ·obtain ⟨c', w', h1, h2⟩ := hX hroom
     obtain ⟨F2, h3⟩ := still l _ c' w' rows1 hob hl hroom h1 h2
     exact done _ c' w' _ _ hev h1 h3 hkp
  ·exact hk.elim
 ·exact hk.elim
end
end Abs
end Go.Proofs.YtkefgcleaalnnaaGreat
