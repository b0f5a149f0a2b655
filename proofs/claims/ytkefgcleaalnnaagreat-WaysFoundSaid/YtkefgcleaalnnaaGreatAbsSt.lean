/- The bytes of a text appended to a row of bytes. -/
import Derived.Test.YtkefgcleaalnnaaGreatAbsVw
import Derived.Lib.AppendStr
namespace Go.Proofs.YtkefgcleaalnnaaGreat
set_option linter.unusedVariables false
set_option linter.unusedSimpArgs false
namespace Abs

section
variable {P : Program} {T : List (Nat × TI)} {F : Nat → Prop} {φ : Nat → Option Value} {X : Nat → Prop} {w : World} {h : Nat → Option Ob} {id : Nat} {N : Nat → Prop} {a : Act} {o : Oper} {k : S → Ch → Prop} {K : Act → World → Prop} {Q : Exit → Act → World → Prop}

theorem byteRows_len (s : ByteArray) : (byteRows s).length = s.size := by unfold byteRows; rw [List.length_map, Array.length_toList]; rfl
theorem byteRows_flat (s : ByteArray) : (byteRows s).flatten = s.data.toList.map fun b => V.int .u8 (b.toNat : Int) := by
 unfold byteRows
 induction s.data.toList with
 | nil => rfl
 | cons b r ih => simp only [List.map_cons, List.flatten_cons, ih]; rfl
theorem byteRows_rt (s : ByteArray) : P2 (RT F w) (Go.Lib.strCells s) (byteRows s).flatten := by
 rw [byteRows_flat]
 unfold Go.Lib.strCells
 refine ⟨by simp, fun j x y h1 h2 => ?_⟩
 rw [List.getElem?_map] at h1 h2
 cases hk : s.data.toList[j]? with
 | none => rw [hk] at h1; simp at h1
 | some b => rw [hk] at h1 h2; simp at h1 h2; subst h1 h2; exact .int _ _
theorem byteRows_one (s : ByteArray) : ∀ r ∈ byteRows s, r.length = 1 := by
 intro r hr
 obtain ⟨b, _, rfl⟩ := List.mem_map.1 hr
 rfl
theorem isByte_inv {e : Nat} {ei : TI} (he : TIok P T e ei) (hb' : isByte ei = true) : ∃ i, P.info? e = some i ∧ i.zero = some (.int .u8 0) ∧ i.size = 1 ∧ i.bytes = 1 ∧ ei.size = 1 ∧ ei.bytes = 1 := by
 obtain ⟨i, z, d, hi, h1, h2, h3, ⟨h4, h5⟩, h6, _⟩ := he
 unfold isByte at hb'
 split at hb'
 ·rename_i hk
  split at hb'
  ·rename_i n hz
   simp only [Bool.and_eq_true] at hb'
   obtain ⟨⟨e1, e2⟩, e3⟩ := hb'
   have e1 := Nat.eq_of_beq_eq_true e1
   have e2 := Nat.eq_of_beq_eq_true e2
   have e3 : n = 0 := by simpa using e3
   subst e3
   refine ⟨i, hi, ?_, by omega, by omega, e1, e2⟩
   rw [h3]
   congr 1
   rw [hz] at h6
   have hag : aggV z = false := by rw [h5, hk]; rfl
   have hz1 : z.cells = #[z] := by cases z <;> first | rfl | (cases hag; done)
   rw [hz1] at h6
   have hc : constV z = some (.int .u8 0) := by
    cases hq : constV z with
    | none => simp [constVs, hq] at h6
    | some v => simp [constVs, hq] at h6; rw [h6]
   unfold constV at hc
   split at hc <;> simp at hc
   rw [hc.1, hc.2]
  ·simp at hb'
 ·cases hb'
theorem run_pushS (t u ty e : TypeId) (i : TypeInfo) (ht : P.underlying t = some (.slice e)) (hu : P.underlying u = some .string) (hi : P.info? e = some i) (hz : i.zero = some (.int .u8 0)) (hsize : i.size = 1) (hby : i.bytes = 1)
  (c : Value) (n : Nat) (xs : List Value) (hown : (w.ownsRow 0 e 1 c n xs ∧ roomy c) ∨ (n = 0 ∧ xs = [] ∧ ∃ p, c = .slice (some p) 0 0)) (s : ByteArray) (hm : n + s.size ≤ maxLen) (h63 : n + s.size ≤ 140737488355328) :
  ∃ c' w', (Builtin.append_ #[t, u] ty #[c, .string s]).run P w = .ok c' w' ∧ (w'.ownsRow 0 e 1 c' (n + s.size) (xs ++ Go.Lib.strCells s) ∨ (n + s.size = 0 ∧ xs ++ Go.Lib.strCells s = [] ∧ ∃ p, c' = .slice (some p) 0 0)) ∧ w.grownBy w' (hb c) ∧ ∀ b, hb c' = some b → hb c = some b ∨ w.heap.size ≤ b := by
 have hnew : ∀ {w' : World} {c' : Value} {m : Nat} {ys : List Value}, w'.ownsRow w.heap.size e 1 c' m ys → ∀ b, hb c' = some b → w.heap.size ≤ b := by
  intro w' c' m ys ho b hb'
  rcases ho.2 with ⟨rfl, _⟩ | ⟨g, cap, cur, rfl, hg, _⟩
  ·simp [hb] at hb'
  ·cases cap with
   | zero => simp [hb] at hb'
   | succ => simp [hb] at hb'; omega
 have hlow : ∀ {w' : World} {c' : Value} {m : Nat} {ys : List Value}, w'.ownsRow w.heap.size e 1 c' m ys → w'.ownsRow 0 e 1 c' m ys := fun ho => ⟨ho.1, ho.2.imp id fun ⟨g, cap, cur, h1, _, h3⟩ => ⟨g, cap, cur, h1, Nat.zero_le _, h3⟩⟩
 have hnil : ∃ c' w', (Builtin.append_ #[t, u] ty #[.slice none 0 0, .string s]).run P w = .ok c' w' ∧ w'.ownsRow 0 e 1 c' (0 + s.size) ([] ++ Go.Lib.strCells s) ∧ w.grownBy w' none ∧ ∀ b, hb c' = some b → w.heap.size ≤ b := by
  obtain ⟨v', w', h1, h2, h3, -⟩ := Go.Lib.run_append_own_string (P := P) w w.heap.size t u ty e i ht hu hi hz hsize hby (.slice none 0 0) 0 [] (World.ownsRow_nil _ _ _ _) s (by omega) (by omega) (Nat.le_refl _)
  exact ⟨v', w', h1, hlow h2, h3, hnew h2⟩
 rcases hown with ⟨hown, hrm⟩ | ⟨rfl, rfl, p, rfl⟩
 ·rcases hown.2 with ⟨rfl, rfl⟩ | ⟨g, cap, cur, rfl, _, hg, hnc, hcm, hcs, htk⟩
  ·have hx : xs = [] := by have := hown.1; simpa using this
   subst hx
   obtain ⟨c', w', h1, h2, h3, h4⟩ := hnil
   exact ⟨c', w', h1, .inl h2, h3, fun b hb' => .inr (h4 b hb')⟩
  ·have hbg : hb (.slice (some ⟨g, 0, none⟩) n cap) = some g := by cases cap with | zero => exact hrm.elim | succ => rfl
   obtain ⟨v', w', h1, h2, h3, -⟩ := Go.Lib.run_append_own_string (P := P) w 0 t u ty e i ht hu hi hz hsize hby _ n xs hown s hm h63 (Nat.zero_le _)
   refine ⟨v', w', h1, .inl h2, by rw [hbg]; exact h3, fun b hb' => ?_⟩
   rw [hbg]
   have hcs' : cur.size = cap := by simpa using hcs
   by_cases hroom : n + s.size ≤ cap
   ·have hr := Go.Lib.run_append_room_string (P := P) w t u ty e i ht hu hi hsize g n cap cur hg s hroom (by omega)
    rw [hr] at h1
    injection h1 with h5 h6
    subst h5
    exact .inl (hb_slice hb' ▸ rfl)
   ·have holds : ∀ j u, xs[j]? = some u → w.cell? ((⟨g, 0, none⟩ : Addr).add j) = some u := hown.cells (g := g) rfl
    have hr := Go.Lib.run_append_grow_string (P := P) w t u ty e i (.int .u8 0) ht hu hi hz ⟨g, 0, none⟩ n cap xs (by rw [hsize]; exact hown.1) holds s (by omega) (by unfold maxLen at hm; omega) (by rw [hby]; exact growslice_fits (by omega) (by omega))
    rw [hr] at h1
    injection h1 with h5 h6
    subst h5
    have := hb_slice hb'
    exact .inr (by rw [this]; exact Nat.le_refl _)
 ·by_cases h0 : s.size = 0
  ·have hn : Go.Lib.strCells s = [] := List.eq_nil_of_length_eq_zero (by rw [Go.Lib.strCells_length]; exact h0)
   refine ⟨.slice (some p) 0 0, w, ?_, .inr ⟨by omega, by rw [hn]; rfl, p, rfl⟩, grown_refl _ _, fun b hb' => by simp [hb] at hb'⟩
   have hf := Go.Lib.run_firstCells_string (P := P) w 1 s
   rw [h0, hn] at hf
   simp [Builtin.append_, run_underlying ht, run_underlying hu, sizeOf, typeInfo, hi, hsize, Builtin.lenOf, h0, hf, storeCells]
  ·obtain ⟨c', w', h1, h2, h3, h4⟩ := hnil
   refine ⟨c', w', ?_, .inl h2, h3, fun b hb' => .inr (h4 b hb')⟩
   rw [← h1]
   have hn : Builtin.nextslicecap s.size 0 = s.size := by simp [Builtin.nextslicecap, show 0 < s.size by omega]
   have hf := Go.Lib.run_firstCells_string (P := P) w 1 s
   have hb1 : ¬ ((9223372036854775807 : Int) < (s.size : Int)) := by omega
   have hb2 : ¬ (281474976710656 < s.size * i.bytes) := by rw [hby]; omega
   simp [Builtin.append_, run_underlying ht, run_underlying hu, Go.sizeOf, typeInfo, hi, hsize, hby, Builtin.lenOf, Builtin.firstCells, loadCells, loadCellsFrom, hn, h0, hb1, hb2, show ¬ (281474976710656 < s.size) by omega]

theorem op_appendS {x y : Operand} {s1 s2 : S} {c : Call} {t u : Nat} (hT : TabOK P T) (hr : Rp F φ X w h) (hN : N id) (hid : φ id = none) (ho : o.op = .call c) (hcal : c.callee = .builtin .append) (ha : c.args.toList = [x, y]) (hat : c.argTypes = #[t, u])
  (hx : RS F φ w (a.eval x) s1) (hy : RS F φ w (a.eval y) s2) (hk : aAppendS T h id t u s1 s2 k) (hc : Ct F φ w h N o a k K) : o.wp P a w K Q := by
 unfold aAppendS at hk
 split at hk
 rotate_left
 ·exact hk.elim
 rename_i ui hui
 split at hk
 rotate_left
 ·exact hk.elim
 rename_i huk
 have hu : P.underlying u = some .string := by
  obtain ⟨i, z, d, hi, h1, h2, h3, h4, h5, hd, hkd⟩ := hT u ui hui
  rw [huk] at hkd
  rw [hd, hkd]
 obtain ⟨e, ei, ht, hei, hpos, hk2⟩ := elemTIe_inv hT hk
 clear hk
 have hk := hk2
 clear hk2
 split at hk
 rotate_left
 ·exact hk.elim
 rename_i s
 have hys := hy.str_inv
 have key : isByte ei = true → ∀ (c1 : Value) (xs : List Value) (rows1 : List (List V)) (ch0 : Ch), a.eval x = c1 → ((w.ownsRow 0 e 1 c1 rows1.length xs ∧ roomy c1) ∨ (rows1.length = 0 ∧ xs = [] ∧ ∃ p, c1 = .slice (some p) 0 0)) → P2 (RT F w) xs rows1.flatten → (∀ r ∈ rows1, r.length = 1) →
   (c1 = .slice none 0 0 ∧ ch0 = [] ∨ ∃ l ob, h l = some ob ∧ live ob = true ∧ φ l = some c1 ∧ ch0 = [(l, .dead)]) → roomOK ei (rows1.length + s.size) → k (.c (.row id)) (ch0 ++ [(id, .row e 1 (rows1 ++ byteRows s))]) → o.wp P a w K Q := by
  intro hby c1 xs rows1 ch0 hev hown hP1 hz1 hch hroom hk
  obtain ⟨i, hi, hz, hs1, hb1, hes, heb⟩ := isByte_inv hei hby
  obtain ⟨c', w', hrun, hown', hg, hblk⟩ := run_pushS (P := P) (w := w) t u o.type e i ht hu hi hz hs1 hb1 c1 _ xs hown s (by have := hroom.1; unfold maxLen; omega) (by have := hroom.2; rw [heb] at this; omega)
  have hsh : c'.oneCell' = true := by
   rcases hown' with hown' | ⟨_, _, p, rfl⟩
   ·rcases hown'.2 with ⟨rfl, _⟩ | ⟨g, cap, cur, rfl, _⟩ <;> rfl
   ·rfl
  have hφ := addφ_ext hid c'
  have hblive : ∀ b, hb c1 = some b → ∃ l ob, h l = some ob ∧ live ob = true ∧ φ l = some c1 ∧ ch0 = [(l, .dead)] := by
   intro b hb'
   rcases hch with ⟨rfl, _⟩ | hh
   ·simp [hb] at hb'
   ·exact hh
  have hF1 : ∀ b, hb c1 = some b → ¬ F b ∧ b < w.heap.size := by
   intro b hb'
   obtain ⟨l, ob, k1, k2, k3, _⟩ := hblive b hb'
   have := (hr.objs l ob k1).lt k2 (b := b) (.inl (by simp [blkOf, k3, hb']))
   exact ⟨this.2, this.1⟩
  have hkF : ∀ b, F b → w'.heap[b]? = w.heap[b]? := by
   intro b hFb
   refine hg.block b (hr.bd b hFb) (fun e => ?_)
   exact (hF1 b e.symm).1 hFb
  have hq : ∀ l2 ob2, chGet (ch0 ++ [(id, Ob.row e 1 (rows1 ++ byteRows s))]) l2 = some ob2 → (l2 = id ∧ ob2 = .row e 1 (rows1 ++ byteRows s)) ∨ ob2 = .dead := by
   intro l2 ob2 hx
   rw [chGet_append] at hx
   simp only [chGet] at hx
   by_cases e1 : id = l2
   ·subst e1; simp at hx; exact .inl ⟨rfl, hx.symm⟩
   ·simp only [if_neg e1] at hx
    rcases hch with ⟨_, rfl⟩ | ⟨l, ob, _, _, _, rfl⟩
    ·simp [chGet] at hx
    ·simp only [chGet] at hx
     split at hx
     ·cases hx; exact .inr rfl
     ·cases hx
  have hin : ∀ b, hb c1 = some b → ∃ l2 o2, h l2 = some o2 ∧ live o2 = true ∧ Blk φ l2 o2 b ∧ (chGet (ch0 ++ [(id, Ob.row e 1 (rows1 ++ byteRows s))]) l2).isSome := by
   intro b hb'
   obtain ⟨l, ob, k1, k2, k3, rfl⟩ := hblive b hb'
   refine ⟨l, ob, k1, k2, (.inl (by simp [blkOf, k3, hb'])), ?_⟩
   rw [chGet_append]
   simp only [chGet]
   by_cases e1 : id = l
   ·simp [e1]
   ·simp [e1]
  have hnx : Nx F φ w h N (ch0 ++ [(id, .row e 1 (rows1 ++ byteRows s))]) F (addφ φ id c') w' := by
   refine ⟨fun _ h => h, hφ, ?_, hg.os, hg.tape, hg.output, fun _ => sem_mono _ hrun, hg.size, ?_, fun b hb' => .inl hb', ?_, ?_, ?_⟩
   ·intro l d hl
    unfold addφ at hl
    split at hl
    ·rename_i e1; subst e1; cases hl; exact .inr ⟨hN, hsh⟩
    ·exact .inl hl
   ·intro b hb' hne
    by_cases e1 : hb c1 = some b
    ·exact hin b e1
    ·exact (hne (hg.block b hb' (fun e2 => e1 e2.symm))).elim
   ·intro l2 ob2 hx
    rcases hq l2 ob2 hx with ⟨rfl, rfl⟩ | rfl
    ·rcases hown' with hown' | ⟨h00, _, p, rfl⟩
     rotate_left
     ·have hz1 : rows1 = [] := List.eq_nil_of_length_eq_zero (by omega)
      have hz2 : byteRows s = [] := List.eq_nil_of_length_eq_zero (by rw [byteRows_len]; omega)
      rw [hz1, hz2]
      exact .inr ⟨rfl, p, by simp [addφ]⟩
     refine RO.mkrow (c := c') (xs := xs ++ Go.Lib.strCells s) (by simp [addφ]) ?_ ?_ ?_ ?_
     ·intro b hb' hFb
      rcases hblk b hb' with h6 | h6
      ·exact (hF1 b h6).1 hFb
      ·have := hr.bd b hFb; omega
     ·rw [List.length_append, byteRows_len]; exact hown'
     ·rw [List.flatten_append]
      exact (hP1.append (byteRows_rt s)).mono fun _ _ hh => hh.up (fun _ h => h) hkF
     ·intro r hr'
      rcases List.mem_append.1 hr' with h6 | h6
      ·exact hz1 r h6
      ·exact byteRows_one s r h6
    ·trivial
   ·intro l2 ob2 b hx hv hb'
    rcases hq l2 ob2 hx with ⟨rfl, rfl⟩ | rfl
    ·replace hb' := hb'.base; simp only [blkOf, addφ, if_true, Option.bind_some] at hb'
     rcases hblk b hb' with h6 | h6
     ·exact .inr (hin b h6)
     ·exact .inl (by omega)
    ·simp [live] at hv
   ·intro l2 l3 ob2 ob3 b hx hx' hv hv' _ _
    rcases hq l2 ob2 hx with ⟨rfl, rfl⟩ | rfl
    ·rcases hq l3 ob3 hx' with ⟨rfl, rfl⟩ | rfl
     ·rfl
     ·simp [live] at hv'
    ·simp [live] at hv
  refine wp_value (v := c') (w' := w') (run_call_builtin ho hcal ha ?_) (hc _ _ _ _ _ _ hnx (.c (.row id c' (by simp [addφ]))) hk)
  simp only [builtin, hat, List.map_cons, List.map_nil, hev, hys, Sem.run_bind, hrun, Result.andThen_ok, Sem.run_pure]
 split at hk
 ·cases hq : isByte ei with
  | false => simp [hq] at hk
  | true =>
   simp only [hq, cond_true] at hk
   obtain ⟨h1, h2⟩ := hk
   have hxe : a.eval x = .slice none 0 0 := by
    generalize a.eval x = cx at hx
    cases hx with | c hx => cases hx with | tree hx => cases hx; rfl
   exact key hq (.slice none 0 0) [] [] [] hxe (.inl ⟨World.ownsRow_nil _ _ _ _, trivial⟩) P2.nil (by simp) (.inl ⟨rfl, rfl⟩) (by simpa using h1) (by simpa using h2)
 ·rename_i l
  split at hk
  rotate_left
  ·exact hk.elim
  rename_i e' sz rows hob
  cases hq : isByte ei && (Nat.beq e' e && Nat.beq sz 1) with
  | false => simp [hq] at hk
  | true =>
   simp only [hq, cond_true] at hk
   simp only [Bool.and_eq_true] at hq
   obtain ⟨hq, h5, h6⟩ := hq
   have h5 := Nat.eq_of_beq_eq_true h5
   have h6 := Nat.eq_of_beq_eq_true h6
   subst h5 h6
   obtain ⟨h1, h2⟩ := hk
   have hl := hx.row_inv
   rcases hr.objs l _ hob with ⟨c1, xs, g1, g2, g3, g4, g5⟩ | ⟨rfl, p, g1⟩
   ·rw [hl] at g1
    exact key hq c1 xs rows [(l, .dead)] (Option.some.inj g1) (.inl g3) g4 g5 (.inr ⟨l, _, hob, rfl, hl.trans g1, rfl⟩) h1 h2
   ·rw [hl] at g1
    exact key hq _ [] [] [(l, .dead)] (Option.some.inj g1) (.inr ⟨rfl, rfl, p, rfl⟩) P2.nil (by simp) (.inr ⟨l, _, hob, rfl, hl.trans g1, rfl⟩) h1 h2
 ·exact hk.elim
end
end Abs
end Go.Proofs.YtkefgcleaalnnaaGreat
