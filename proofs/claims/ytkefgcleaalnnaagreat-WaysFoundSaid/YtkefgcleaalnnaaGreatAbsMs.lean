/- Maps of slices: the slices' rows lie in a pool; given away to be appended to, and taken back. -/
import Derived.Test.YtkefgcleaalnnaaGreatAbsX
import Derived.Test.YtkefgcleaalnnaaGreatAbsVw
namespace Go.Proofs.YtkefgcleaalnnaaGreat
set_option linter.unusedVariables false
set_option linter.unusedSimpArgs false
namespace Abs
open Go.ChangeMaps (setBlock)
open Go.MapKept

section
variable {P : Program} {T : List (Nat × TI)} {F : Nat → Prop} {φ φ2 : Nat → Option Value} {X : Nat → Prop} {w : World} {h : Nat → Option Ob} {id : Nat} {N : Nat → Prop} {a : Act} {o : Oper} {k : S → Ch → Prop} {K : Act → World → Prop} {Q : Exit → Act → World → Prop}

theorem RO.rowAt' {l e sz : Nat} {rows : List (List V)} {c : Value} (h : RO F φ w l (.row e sz rows)) (hl : φ l = some c) : RowAt F w e sz c rows := by
 rcases h with ⟨c', xs, h1, h2⟩ | ⟨h0, p, h1⟩
 ·rw [hl] at h1; cases h1; exact .inl ⟨xs, h2⟩
 ·rw [hl] at h1; cases h1; exact .inr ⟨h0, p, rfl⟩
theorem RowAt.tree {e sz : Nat} {c : Value} {rows : List (List V)} (h : RowAt F w e sz c rows) : RT (fun b => F b ∨ hb c = some b) w c (.lst sz rows) := by
 refine RO.row_tree (φ := fun _ => some c) (l := 0) (e := e) ?_ rfl
 rcases h with ⟨xs, h2⟩ | ⟨h0, p, rfl⟩
 ·exact .inl ⟨c, xs, rfl, h2⟩
 ·exact .inr ⟨h0, p, rfl⟩
theorem get2_inv {l id : Nat} {A B : Ob} {l2 : Nat} {x : Ob} (hx : chGet [(l, A), (id, B)] l2 = some x) : (l2 = id ∧ x = B) ∨ (l2 ≠ id ∧ l2 = l ∧ x = A) := by
 simp only [chGet] at hx
 by_cases e : id = l2
 ·subst e; simp at hx; exact .inl ⟨rfl, hx.symm⟩
 ·simp only [if_neg e] at hx
  by_cases e2 : l = l2
  ·subst e2; simp at hx; exact .inr ⟨Ne.symm e, rfl, hx.symm⟩
  ·simp [e2] at hx
theorem op_lenS {x : Operand} {s : S} {c : Call} (hT : TabOK P T) (ho : o.op = .call c) (hcal : c.callee = .builtin .len) (ha : c.args.toList = [x]) (hr : Rp F φ X w h)
  (hx : RS F φ w (a.eval x) s) (hk : kindOf T c.argTypes fun kd => aLenS h kd s k) (hc : Ct F φ w h N o a k K) : o.wp P a w K Q := by
 have old : (kindOf T c.argTypes fun kd => lenOf h kd s fun n => k (.c (.int .i64 n)) []) → o.wp P a w K Q := fun hk => op_len hT ho hcal ha hr hx hk hc
 by_cases hm : ∃ l q p clock es, s = .c (.mp l) ∧ h l = some (.pmap q p clock es)
 ·obtain ⟨l, q, p, clock, es, rfl, hob⟩ := hm
  obtain ⟨t, ti, ht, hti, hk2⟩ := kindOf_inv hT hk
  clear hk
  have hk := hk2
  clear hk2
  unfold aLenS at hk
  simp only [hob] at hk
  obtain ⟨i, z, d, hi, _, _, _, _, _, hd, hkd⟩ := hti
  have fin : ∀ n : Int, (Builtin.len_ c.argTypes o.type #[a.eval x]).run P w = .ok (goInt n) w → k (.c (.int .i64 n)) [] → o.wp P a w K Q := by
   intro n hrun hkn
   refine ct_same hc (RS.mki _ _) hkn (run_call_builtin ho hcal ha ?_)
   simp only [builtin, List.map_cons, List.map_nil, Sem.run_bind, hrun, Result.andThen_ok, Sem.run_pure, goInt]
  generalize hev : a.eval x = cv at hx
  split at hk
  ·rename_i k1 k2 hks
   rw [hks] at hkd
   subst hkd
   have hl : φ l = some cv := by
    cases hx with | c hv => cases hv with
     | tree hv => cases hv
     | mp l c hl => exact hl
   obtain ⟨b, ents, g1, g2, g3, g4, g5⟩ := hr.objs l _ hob
   rw [hl] at g1; cases g1
   have hlen : ents.size = es.length := by have := g4.1; simpa using this
   exact fin _ (by simp [Builtin.len_, ht, hev, run_underlying hd, Sem.run, getObj, g3, hlen]) hk
  ·exact hk.elim
 ·refine old ?_
  have : (fun kd => aLenS h kd s k) = fun kd => lenOf h kd s fun n => k (.c (.int .i64 n)) [] := by
   funext kd
   unfold aLenS
   split
   ·split
    ·rename_i l _ q p clock es hob
     exact absurd ⟨_, q, p, clock, es, rfl, hob⟩ hm
    ·rfl
   ·rfl
  rw [this] at hk
  exact hk
theorem op_appendM {x y : Operand} {l i : Nat} {q : Value} {s2 : S} {c : Call} {t : Nat} {e : Nat} {ei : TI} (hT : TabOK P T) (hr : Rp F φ X w h) (hN : N id) (hid : φ id = none) (ho : o.op = .call c) (hcal : c.callee = .builtin .append) (ha : c.args.toList = [x, y]) (hat : c.argTypes = #[t, t])
  (hE0 : elemTIe T t fun e' ei' => e' = e ∧ ei' = ei) (hx : RS F φ w (a.eval x) (.c (.inn l i q))) (hy : RS F φ w (a.eval y) s2) (hk : aAppendG h id e ei (.c (.inn l i q)) s2 k) (hc : Ct F φ w h N o a k K) : o.wp P a w K Q := by
 obtain ⟨e4, ei4, hu, hei, hpos, rfl, rfl⟩ := elemTIe_inv hT hE0
 have hE := Elem_of hu hei hpos
 unfold aAppendG at hk
 simp only at hk
 obtain ⟨ax, cx, ys, rows2, hcy, hAt, hP2, hlen, hz2, hk2⟩ := rowsOf_inv hr hy hk
 clear hk
 have hk := hk2
 clear hk2
 split at hk
 ·rename_i e' sz ins hob
  cases hq : Nat.beq e' e4 && Nat.beq sz ei4.size with
  | false => simp [hq] at hk
  | true =>
   simp only [hq, cond_true] at hk
   rw [Bool.and_eq_true] at hq
   have := beq_eqn hq.1
   subst this
   have hsz := beq_eqn hq.2
   obtain ⟨rows1, hes, hroom, hk⟩ := hk
   have hev : a.eval x = q := by
    generalize a.eval x = v at hx
    cases hx with | c hx => cases hx with
     | tree hx => cases hx
     | inn _ _ _ _ => rfl
   have hro := hr.objs l _ hob
   have hlt0 := fun b' (hB : Blk φ l (.pool e' sz ins) b') => hro.lt rfl hB
   have hlid : l ≠ id := fun e => by
    obtain ⟨cv, hcv⟩ := hro.has rfl
    rw [e, hid] at hcv; cases hcv
   obtain ⟨g1, g4, g6⟩ := hro
   have hil : i < ins.length := (List.getElem?_eq_some_iff.1 hes).1
   have hmem := List.mem_of_getElem? hes
   have hra : RowAt F w e' sz q rows1 := g4 _ hmem rows1 rfl
   have hqB : ∀ b', hb q = some b' → Blk φ l (.pool e' sz ins) b' := fun b' hb' => .inr ⟨_, hmem, rows1, rfl, hb'⟩
   have hF1 : ∀ b', hb q = some b' → ¬ F b' ∧ b' < w.heap.size := fun b' hb' => ⟨(hlt0 b' (hqB b' hb')).2, (hlt0 b' (hqB b' hb')).1⟩
   obtain ⟨xs, hown, hP1, hz1⟩ : ∃ xs, ((w.ownsRow 0 e' ei4.size q rows1.length xs ∧ roomy q) ∨ (rows1.length = 0 ∧ xs = [] ∧ ∃ p, q = .slice (some p) 0 0)) ∧ P2 (RT F w) xs rows1.flatten ∧ ∀ r ∈ rows1, r.length = ei4.size := by
    rcases hra with ⟨xs, k1, k2, k3, k4⟩ | ⟨k0, p, k1⟩
    ·exact ⟨xs, .inl (by rw [← hsz]; exact k2), k3, by rw [← hsz]; exact k4⟩
    ·subst k0
     exact ⟨[], .inr ⟨rfl, rfl, p, k1⟩, P2.nil, by simp⟩
   obtain ⟨c', w', hrun, hown', hg, hblk⟩ := run_push3 (P := P) t o.type e' ei4.size ei4.bytes hE q _ xs hown ax rows2.length cx ys hAt hlen hP2.ones (by have := hroom.1; unfold maxLen; omega) hroom.2
   have hsh : c'.oneCell' = true := by
    rcases hown' with hown' | ⟨_, _, p, rfl⟩
    ·rcases hown'.2 with ⟨rfl, _⟩ | ⟨g, cap, cur, rfl, _⟩ <;> rfl
    ·rfl
   have hφ := addφ_ext hid c'
   have hkF : ∀ b', F b' → w'.heap[b']? = w.heap[b']? := by
    intro b' hFb
    refine hg.block b' (hr.bd b' hFb) (fun e => ?_)
    exact (hF1 b' e.symm).1 hFb
   have hkeep : ∀ b', b' < w.heap.size → hb q ≠ some b' → w'.heap[b']? = w.heap[b']? := fun b' h1 h2 => hg.block b' h1 (fun e => h2 e.symm)
   have hel : ∀ (j : Nat) (p : Value × Option (List (List V))) (r : List (List V)), (ins.set i (q, none))[j]? = some p → p.2 = some r → j ≠ i ∧ ins[j]? = some p := by
    intro j p r hp hpr
    rw [List.getElem?_set] at hp
    by_cases e : i = j
    ·subst e; rw [if_pos rfl, if_pos hil] at hp; cases hp; cases hpr
    ·rw [if_neg e] at hp; exact ⟨Ne.symm e, hp⟩
   have hnx : Nx F φ w h N [(l, .pool e' sz (ins.set i (q, none))), (id, .row e' ei4.size (rows1 ++ rows2))] F (addφ φ id c') w' := by
    refine ⟨fun _ h => h, hφ, ?_, hg.os, hg.tape, hg.output, fun _ => sem_mono _ hrun, hg.size, ?_, fun b hb' => .inl hb', ?_, ?_, ?_⟩
    ·intro l2 d hl2
     unfold addφ at hl2
     split at hl2
     ·rename_i e1; subst e1; cases hl2; exact .inr ⟨hN, hsh⟩
     ·exact .inl hl2
    ·intro b' hb' hne
     by_cases e1 : hb q = some b'
     ·exact ⟨l, _, hob, rfl, hqB b' e1, by simp [chGet, Ne.symm hlid]⟩
     ·exact (hne (hkeep b' hb' e1)).elim
    ·intro l2 ob2 hx2
     rcases get2_inv hx2 with ⟨rfl, rfl⟩ | ⟨_, rfl, rfl⟩
     ·rcases hown' with hown' | ⟨h00, _, p, rfl⟩
      rotate_left
      ·have hz1 : rows1 = [] := List.eq_nil_of_length_eq_zero (by omega)
       have hz2 : rows2 = [] := List.eq_nil_of_length_eq_zero (by omega)
       subst hz1 hz2
       exact .inr ⟨rfl, p, by simp [addφ]⟩
      refine RO.mkrow (c := c') (xs := xs ++ ys) (by simp [addφ]) ?_ ?_ ?_ ?_
      ·intro b' hb' hFb
       rcases hblk b' hb' with h6 | h6
       ·exact (hF1 b' h6).1 hFb
       ·have := hr.bd b' hFb; omega
      ·rw [List.length_append]; exact hown'
      ·rw [List.flatten_append]
       exact (hP1.append hP2).mono fun _ _ hh => hh.up (fun _ h => h) hkF
      ·intro r hr'
       rcases List.mem_append.1 hr' with h6 | h6
       ·exact hz1 r h6
       ·exact hz2 r h6
     ·refine ⟨hφ _ _ g1, ?_, ?_⟩
      ·intro v hv r hr'
       obtain ⟨j, hj⟩ := List.getElem?_of_mem hv
       obtain ⟨hji, k1⟩ := hel j v r hj hr'
       have hra2 := g4 v (List.mem_of_getElem? k1) r hr'
       exact hra2.up (fun _ h => h) hkF fun b' hb' => ⟨hkeep b' (hra2.lt hb').1 (fun e2 => hji (g6 j i v _ r rows1 b' k1 hes hr' rfl hb' e2)), (hra2.lt hb').2⟩
      ·intro j1 j2 p q' r1 r2 b' h1 h2 hr1 hr2 hb1 hb2
       obtain ⟨_, k1⟩ := hel j1 p r1 h1 hr1
       obtain ⟨_, k2⟩ := hel j2 q' r2 h2 hr2
       exact g6 j1 j2 p q' r1 r2 b' k1 k2 hr1 hr2 hb1 hb2
    ·intro l2 ob2 b' hx2 hv hb'
     rcases get2_inv hx2 with ⟨rfl, rfl⟩ | ⟨_, rfl, rfl⟩
     ·replace hb' := hb'.base; simp only [blkOf, addφ, if_true, Option.bind_some] at hb'
      rcases hblk b' hb' with h6 | h6
      ·exact .inr ⟨l, _, hob, rfl, hqB b' h6, by simp [chGet, Ne.symm hlid]⟩
      ·exact .inl (by omega)
     ·refine .inr ⟨l2, _, hob, rfl, ?_, by simp [chGet, Ne.symm hlid]⟩
      rcases hb' with hb' | ⟨p, hp, r, hpr, hb'⟩
      ·unfold blkOf at hb'
       rw [hφ _ _ g1] at hb'
       simp [hb] at hb'
      ·obtain ⟨j, hj⟩ := List.getElem?_of_mem hp
       obtain ⟨_, k1⟩ := hel j p r hj hpr
       exact .inr ⟨p, List.mem_of_getElem? k1, r, hpr, hb'⟩
    ·have hcross : ∀ b', Blk (addφ φ id c') id (.row e' ei4.size (rows1 ++ rows2)) b' → Blk (addφ φ id c') l (.pool e' sz (ins.set i (q, none))) b' → False := by
      intro b' k1 k2
      replace k1 := k1.base; simp only [blkOf, addφ, if_true, Option.bind_some] at k1
      have k2' : ∃ p, p ∈ ins ∧ ∃ j r, j ≠ i ∧ ins[j]? = some p ∧ p.2 = some r ∧ hb p.1 = some b' := by
       rcases k2 with k2 | ⟨p, hp, r, hpr, hb'⟩
       ·unfold blkOf at k2
        rw [hφ _ _ g1] at k2
        simp [hb] at k2
       ·obtain ⟨j, hj⟩ := List.getElem?_of_mem hp
        obtain ⟨hji, k1⟩ := hel j p r hj hpr
        exact ⟨p, List.mem_of_getElem? k1, j, r, hji, k1, hpr, hb'⟩
      obtain ⟨p, hp, j, r, hji, hj, hpr, hb'⟩ := k2'
      rcases hblk b' k1 with h6 | h6
      ·exact hji (g6 j i p _ r rows1 b' hj hes hpr rfl hb' h6)
      ·have := (hlt0 b' (.inr ⟨p, hp, r, hpr, hb'⟩)).1
       omega
     intro l2 l3 ob2 ob3 b' hx2 hx3 hv2 hv3 k1 k2
     rcases get2_inv hx2 with ⟨rfl, rfl⟩ | ⟨_, rfl, rfl⟩ <;> rcases get2_inv hx3 with ⟨rfl, rfl⟩ | ⟨_, rfl, rfl⟩
     ·rfl
     ·exact (hcross b' k1 k2).elim
     ·exact (hcross b' k2 k1).elim
     ·rfl
   refine wp_value (v := c') (w' := w') (run_call_builtin ho hcal ha ?_) (hc _ _ _ _ _ _ hnx (.c (.row id c' (by simp [addφ]))) hk)
   simp only [builtin, hat, List.map_cons, List.map_nil, hev, hcy, Sem.run_bind, hrun, Result.andThen_ok, Sem.run_pure]
 ·exact hk.elim
theorem Nx.virt {id : Nat} (hN : N id) (hid : φ id = none) (c : Value) (hc1 : c.oneCell' = true) (hc0 : hb c = none) (ob : Ob) (ho : RO F (addφ φ id c) w id ob) (hi : ∀ b, insB ob b → False) : Nx F φ w h N [(id, ob)] F (addφ φ id c) w := by
 have hg : ∀ l x, chGet [(id, ob)] l = some x → l = id ∧ x = ob := by
  intro l x hx
  simp only [chGet] at hx
  split at hx
  ·rename_i e; subst e; cases hx; exact ⟨rfl, rfl⟩
  ·cases hx
 refine ⟨fun _ h => h, addφ_ext hid c, ?_, rfl, rfl, rfl, fun _ => Nat.le_refl _, Nat.le_refl _, fun b _ hne => (hne rfl).elim, fun b h => .inl h, ?_, ?_, ?_⟩
 ·intro l c' hl
  unfold addφ at hl
  split at hl
  ·rename_i e; subst e; cases hl; exact .inr ⟨hN, hc1⟩
  ·exact .inl hl
 ·intro l x hx
  obtain ⟨rfl, rfl⟩ := hg l x hx
  exact ho
 ·intro l x b hx _ hbk
  obtain ⟨rfl, rfl⟩ := hg l x hx
  rcases hbk with hbk | hbk
  ·simp only [blkOf, addφ, if_true, Option.bind_some, hc0] at hbk
   cases hbk
  ·exact (hi b hbk).elim
 ·intro l l' x x' b hx hx' _ _ _ _
  rw [(hg l x hx).1, (hg l' x' hx').1]
theorem op_makeMapS {t : Nat} {ei : TI} (hr : Rp F φ X w h) (hX : ∀ b, w.heap.size ≤ b → X b) (hN : N id) (hid : φ id = none) (hN1 : N (id + 1)) (hid1 : φ (id + 1) = none) (ho : o.op = .makeMap t none) (hk : aMakeMapS T id ei k) (hc : Ct F φ w h N o a k K) : o.wp P a w K Q := by
 unfold aMakeMapS at hk
 split at hk
 ·rename_i e2 _
  cases hk with
  | fr hk => exact op_makeMap hr hN hid ho hk hc
  | gr hk =>
   unfold withT2 at hk
   split at hk
   ·rename_i ei2 _
    have hn1 : Nx F φ w h N [(id + 1, .pool e2 ei2.size [])] F (addφ φ (id + 1) (.slice none 0 0)) w := by
     refine Nx.virt hN1 hid1 _ rfl rfl _ ⟨by simp [addφ], by simp, by simp⟩ (by rintro b ⟨p, hp, _⟩; cases hp)
    have hr1 := hr.next hn1 hX
    have hid2 : addφ φ (id + 1) (.slice none 0 0) id = none := by unfold addφ; rw [if_neg (by omega)]; exact hid
    have hn : Nx F (addφ φ (id + 1) (.slice none 0 0)) w (updF h [(id + 1, .pool e2 ei2.size [])]) N [(id, .pmap false (id + 1) 0 [])] F (addφ (addφ φ (id + 1) (.slice none 0 0)) id (.map (some w.heap.size))) (w.alloc (.map #[] 0)) := by
     refine Nx.new hr1 hN hid2 _ rfl _ _ (fun b hb' => by simpa [hb] using hb'.symm) ?_
     exact ⟨w.heap.size, #[], by simp [addφ], fun hF => by have := hr.bd _ hF; omega, heap_alloc_new w _, P2.nil, by simp, by simp⟩
    refine wp_value (v := .map (some w.heap.size)) (w' := w.alloc (.map #[] 0)) ?_ (hc _ _ _ _ _ _ (Nx.trans hr hX hn1 hn) (.c (.mp _ _ (by simp [addφ]))) hk)
    simp [execOp, ho, Instr.makeMap]
   ·exact hk.elim
 ·exact op_makeMap hr hN hid ho hk hc
theorem Nx.gfreeze {l p e sz clock : Nat} {q : Bool} {es es' : Ents} {ins : List (Value × Option (List (List V)))} (hr : Rp F φ X w h) (hl : h l = some (.pmap q p clock es)) (hp : h p = some (.pool e sz ins)) (hlen : es'.length = es.length)
  (he : ∀ (j : Nat) (x y : Nat × S × S), es[j]? = some x → es'[j]? = some y → y.1 = x.1 ∧ y.2.1 = x.2.1 ∧ ((x.2.2 = .c .nils ∧ y.2.2 = .c .nils) ∨ ∃ i c rows, x.2.2 = .c (.inn p i c) ∧ ins[i]? = some (c, some rows) ∧ y.2.2 = .c (.lst sz rows))) :
  Nx F φ w h N [(l, .map clock es'), (p, .dead)] (fun b => F b ∨ insB (.pool e sz ins) b) φ w := by
 have hrp := hr.objs p _ hp
 have hlt := fun b (hB : Blk φ p (.pool e sz ins) b) => hrp.lt rfl hB
 obtain ⟨b0, ents, g1, g2, g3, g4, g5, g6⟩ := hr.objs l _ hl
 obtain ⟨k1, k2, k3⟩ := hrp
 have hlp : l ≠ p := fun e => by rw [e, hp] at hl; cases hl
 have hq : ∀ l2 x, chGet [(l, Ob.map clock es'), (p, Ob.dead)] l2 = some x → (l2 = p ∧ x = .dead) ∨ (l2 ≠ p ∧ l2 = l ∧ x = .map clock es') := fun l2 x hx => get2_inv hx
 refine ⟨fun _ h => .inl h, fun _ _ h => h, fun _ _ h => .inl h, rfl, rfl, rfl, fun _ => Nat.le_refl _, Nat.le_refl _, fun b _ hne => (hne rfl).elim, ?_, ?_, ?_, ?_⟩
 ·intro b hb'
  rcases hb' with hb' | hb'
  ·exact .inl hb'
  ·exact .inr ⟨(hlt b (.inr hb')).1, .inr ⟨p, _, hp, rfl, .inr hb', by simp [chGet]⟩⟩
 ·intro l2 x hx
  rcases hq l2 x hx with ⟨rfl, rfl⟩ | ⟨_, rfl, rfl⟩
  ·trivial
  refine ⟨b0, ents, g1, ?_, g3, ?_, g5⟩
  ·rintro (q | q)
   ·exact g2 q
   ·exact hlp (hr.inj l2 p _ _ b0 hl hp rfl rfl (.inl (by simp [blkOf, g1, hb])) (.inr q))
  ·refine ⟨by rw [g4.1, hlen], fun j x y h1 h2 => ?_⟩
   have hj : j < es.length := by rw [← hlen]; exact (List.getElem?_eq_some_iff.1 h2).1
   have hg := g4.2 j x _ h1 (List.getElem?_eq_getElem hj)
   obtain ⟨e1, e2, e3⟩ := he j _ y (List.getElem?_eq_getElem hj) h2
   refine ⟨hg.1.trans e1.symm, by rw [e2]; exact hg.2.1.up (fun _ h => .inl h) (fun _ _ => rfl), ?_⟩
   have hv := hg.2.2
   generalize x.val = u at hv ⊢
   rcases e3 with ⟨e3, e4⟩ | ⟨i, c, rows, e3, e4, e5⟩
   ·rw [e4]
    rw [e3] at hv
    cases hv with | c hv => cases hv with | tree hv => exact hv.up (fun _ h => .inl h) (fun _ _ => rfl)
   ·rw [e5]
    rw [e3] at hv
    have hm := List.mem_of_getElem? e4
    have hu : u = c := by
     cases hv with | c hv => cases hv with
      | tree hv => cases hv
      | inn _ _ _ _ => rfl
    subst hu
    refine (k2 _ hm rows rfl).tree.up (fun b hb' => ?_) (fun _ _ => rfl)
    rcases hb' with q | q
    ·exact .inl q
    ·exact .inr ⟨_, hm, rows, rfl, q⟩
 ·intro l2 x b hx hv hb'
  rcases hq l2 x hx with ⟨rfl, rfl⟩ | ⟨_, rfl, rfl⟩
  ·simp [live] at hv
  ·exact .inr ⟨l2, _, hl, rfl, .inl hb'.base, by simp [chGet, Ne.symm hlp]⟩
 ·intro l2 l3 x x' b hx hx' hv hv' _ _
  rcases hq l2 x hx with ⟨rfl, rfl⟩ | ⟨_, rfl, rfl⟩
  ·simp [live] at hv
  ·rcases hq l3 x' hx' with ⟨rfl, rfl⟩ | ⟨_, rfl, rfl⟩
   ·simp [live] at hv'
   ·rfl
theorem op_rangeS {t kt e : Nat} {m : Operand} {s1 : S} (hr : Rp F φ X w h) (hX : ∀ b, w.heap.size ≤ b → X b) (hN : N id) (hid : φ id = none) (ho : o.op = .range t m) (hm : P.underlying t = some (.map kt e)) (h1 : RS F φ w (a.eval m) s1) (hk : aRangeS h id s1 k) (hc : Ct F φ w h N o a k K) : o.wp P a w K Q := by
 unfold aRangeS at hk
 split at hk
 ·rename_i l
  split at hk
  ·rename_i q p clock es hob
   split at hk
   ·rename_i e' sz ins hop
    have hl := h1.mp_inv
    obtain ⟨es', hlen, he, hk⟩ := hk
    have hlp : l ≠ p := fun e => by rw [e, hop] at hob; cases hob
    have hn1 := Nx.gfreeze (N := N) hr hob hop hlen he
    have hr1 := hr.next hn1 hX
    have hob1 : updF h [(l, Ob.map clock es'), (p, .dead)] l = some (.map clock es') := by simp [updF, chGet, Ne.symm hlp]
    obtain ⟨b, ents, g1, g2, g3, g4, g5⟩ := hr1.objs l _ hob1
    have g1' := g1
    rw [hl] at g1
    simp only [Option.some.injEq] at g1
    have hn : Nx (fun b => F b ∨ insB (Ob.pool e' sz ins) b) φ w (updF h [(l, Ob.map clock es'), (p, .dead)]) N [(id, .iter l clock [])] (fun b => F b ∨ insB (Ob.pool e' sz ins) b) (addφ φ id (.pointer (some ⟨w.heap.size, 0, none⟩))) (w.alloc (.mapIter (some b) clock #[] clock)) := by
     refine Nx.new hr1 hN hid _ rfl _ _ (fun b hb' => by simpa [hb] using hb'.symm) ?_
     exact ⟨w.heap.size, b, by simp [addφ], fun hF => by have := hr1.bd _ hF; omega, heap_alloc_new w _, addφ_ext hid _ _ _ g1'⟩
    refine wp_value (v := .pointer (some ⟨w.heap.size, 0, none⟩)) (w' := w.alloc (.mapIter (some b) clock #[] clock)) ?_ (hc _ _ _ _ _ _ (Nx.trans hr hX hn1 hn) (.c (.ptr _ _ _ (by simp [addφ]))) hk)
    simp [execOp, ho, g1, run_range_map w t kt e b ents clock hm g3]
   ·exact hk.elim
  ·exact op_range hr hN hid ho hm h1 hk hc
 ·exact op_range hr hN hid ho hm h1 hk hc
theorem Nx.adopt {l p a clock e sz i : Nat} {es : Ents} {es' : Value → Ents} {ins : List (Value × Option (List (List V)))} {rows : List (List V)} {c : Value} (hr : Rp F φ X w h) (h1 : h l = some (.pmap true p clock es)) (h2 : h p = some (.pool e sz ins)) (h3 : h a = some (.row e sz rows)) (hc : φ a = some c)
  (hi : i ≤ ins.length ∧ ∀ x, ins[i]? = some x → x.2 = none) (he : (es' c).length = es.length ∧ ∀ (j : Nat) (x y : Nat × S × S), es[j]? = some x → (es' c)[j]? = some y → y = x ∨ (x.2.2 = .c (.row a) ∧ y = (x.1, x.2.1, .c (.inn p i c)))) :
  Nx F φ w h N [(a, .dead), (p, .pool e sz (putAt ins i (c, some rows))), (l, .pmap true p clock (es' c))] F φ w := by
 have hra := (hr.objs a _ h3).rowAt' hc
 obtain ⟨b0, ents, g1, g2, g3, g4, g5, _⟩ := hr.objs l _ h1
 obtain ⟨k1, k2, k3⟩ := hr.objs p _ h2
 have hlp : l ≠ p := fun e => by rw [e, h2] at h1; cases h1
 have hla : l ≠ a := fun e => by rw [e, h3] at h1; cases h1
 have hpa : p ≠ a := fun e => by rw [e, h3] at h2; cases h2
 have haB : ∀ b, hb c = some b → Blk φ a (.row e sz rows) b := fun b hb' => .inl (by simp [blkOf, hc, hb'])
 have hpB : ∀ (x : Value × Option (List (List V))) r b, x ∈ ins → x.2 = some r → hb x.1 = some b → Blk φ p (.pool e sz ins) b := fun x r b hx hr' hb' => .inr ⟨x, hx, r, hr', hb'⟩
 have hget : ∀ l2 x, chGet [(a, Ob.dead), (p, Ob.pool e sz (putAt ins i (c, some rows))), (l, Ob.pmap true p clock (es' c))] l2 = some x → (l2 = l ∧ x = .pmap true p clock (es' c)) ∨ (l2 = p ∧ x = .pool e sz (putAt ins i (c, some rows))) ∨ x = .dead := by
  intro l2 x hx
  simp only [chGet] at hx
  by_cases e1 : l = l2
  ·subst e1; simp at hx; exact .inl ⟨rfl, hx.symm⟩
  ·simp only [if_neg e1] at hx
   by_cases e2 : p = l2
   ·subst e2; simp at hx; exact .inr (.inl ⟨rfl, hx.symm⟩)
   ·simp only [if_neg e2] at hx
    split at hx
    ·cases hx; exact .inr (.inr rfl)
    ·cases hx
 have hsome : ∀ l2, l2 = a ∨ l2 = p ∨ l2 = l → (chGet [(a, Ob.dead), (p, Ob.pool e sz (putAt ins i (c, some rows))), (l, Ob.pmap true p clock (es' c))] l2).isSome := by
  intro l2 hl2
  simp only [chGet]
  by_cases e1 : l = l2
  ·simp [e1]
  ·by_cases e2 : p = l2
   ·simp [e1, e2]
   ·rcases hl2 with rfl | rfl | rfl
    ·simp [e1, e2]
    ·exact absurd rfl e2
    ·exact absurd rfl e1
 have hel : ∀ (j : Nat) (x : Value × Option (List (List V))) (r : List (List V)), (putAt ins i (c, some rows))[j]? = some x → x.2 = some r → (j = i ∧ x = (c, some rows)) ∨ (j ≠ i ∧ ins[j]? = some x) := by
  intro j x r hx hxr
  unfold putAt at hx
  split at hx
  ·rename_i hil
   rw [List.getElem?_set] at hx
   by_cases e : i = j
   ·subst e; rw [if_pos rfl, if_pos hil] at hx; cases hx; exact .inl ⟨rfl, rfl⟩
   ·rw [if_neg e] at hx; exact .inr ⟨Ne.symm e, hx⟩
  ·have hil : i = ins.length := by omega
   by_cases e : j < ins.length
   ·rw [List.getElem?_append_left e] at hx
    exact .inr ⟨by omega, hx⟩
   ·rw [List.getElem?_append_right (by omega)] at hx
    have h0 : j - ins.length = 0 := by
     have := (List.getElem?_eq_some_iff.1 hx).1
     simp at this; omega
    rw [h0] at hx
    simp at hx
    exact .inl ⟨by omega, hx.symm⟩
 have hshape : ∃ ad n cap, c = .slice ad n cap := by
  obtain ⟨ad, cap, e⟩ := hra.shape
  exact ⟨ad, _, cap, e⟩
 refine ⟨fun _ h => h, fun _ _ h => h, fun _ _ h => .inl h, rfl, rfl, rfl, fun _ => Nat.le_refl _, Nat.le_refl _, fun b _ hne => (hne rfl).elim, fun b hb' => .inl hb', ?_, ?_, ?_⟩
 ·intro l2 x hx
  rcases hget l2 x hx with ⟨rfl, rfl⟩ | ⟨rfl, rfl⟩ | rfl
  ·refine ⟨b0, ents, g1, g2, g3, ⟨by rw [g4.1, he.1], fun j x y hx1 hy1 => ?_⟩, g5, fun h => by cases h⟩
   have hj : j < es.length := by rw [← he.1]; exact (List.getElem?_eq_some_iff.1 hy1).1
   have hg := g4.2 j x _ hx1 (List.getElem?_eq_getElem hj)
   rcases he.2 j _ y (List.getElem?_eq_getElem hj) hy1 with rfl | ⟨e1, rfl⟩
   ·exact hg
   ·refine ⟨hg.1, hg.2.1, ?_⟩
    have hv := hg.2.2
    rw [e1] at hv
    have := hv.row_inv
    rw [hc] at this
    rw [← Option.some.inj this]
    exact .c (.inn p i c hshape)
  ·refine ⟨k1, ?_, ?_⟩
   ·intro x hx r hxr
    obtain ⟨j, hj⟩ := List.getElem?_of_mem hx
    rcases hel j x r hj hxr with ⟨_, rfl⟩ | ⟨_, hj⟩
    ·cases hxr; exact hra
    ·exact k2 x (List.mem_of_getElem? hj) r hxr
   ·intro j1 j2 x y r1 r2 b hx hy hr1 hr2 hb1 hb2
    rcases hel j1 x r1 hx hr1 with ⟨e1, rfl⟩ | ⟨e1, q1⟩ <;> rcases hel j2 y r2 hy hr2 with ⟨e2, rfl⟩ | ⟨e2, q2⟩
    ·rw [e1, e2]
    ·exact (hpa (hr.inj l2 a _ _ b h2 h3 rfl rfl (hpB y r2 b (List.mem_of_getElem? q2) hr2 hb2) (haB b hb1))).elim
    ·exact (hpa (hr.inj l2 a _ _ b h2 h3 rfl rfl (hpB x r1 b (List.mem_of_getElem? q1) hr1 hb1) (haB b hb2))).elim
    ·exact k3 j1 j2 x y r1 r2 b q1 q2 hr1 hr2 hb1 hb2
  ·trivial
 ·intro l2 x b hx hv hB
  rcases hget l2 x hx with ⟨rfl, rfl⟩ | ⟨rfl, rfl⟩ | rfl
  ·exact .inr ⟨l2, _, h1, rfl, .inl hB.base, hsome _ (.inr (.inr rfl))⟩
  ·rcases hB with hB | ⟨x, hx, r, hxr, hB⟩
   ·exact .inr ⟨l2, _, h2, rfl, .inl hB, hsome _ (.inr (.inl rfl))⟩
   ·obtain ⟨j, hj⟩ := List.getElem?_of_mem hx
    rcases hel j x r hj hxr with ⟨_, rfl⟩ | ⟨_, hj⟩
    ·exact .inr ⟨a, _, h3, rfl, haB b hB, hsome _ (.inl rfl)⟩
    ·exact .inr ⟨l2, _, h2, rfl, hpB x r b (List.mem_of_getElem? hj) hxr hB, hsome _ (.inr (.inl rfl))⟩
  ·simp [live] at hv
 ·have hcross : ∀ b, Blk φ l (.pmap true p clock (es' c)) b → Blk φ p (.pool e sz (putAt ins i (c, some rows))) b → False := by
   intro b q1 q2
   have q1' : Blk φ l (.pmap true p clock es) b := .inl q1.base
   rcases q2 with q2 | ⟨x, hx, r, hxr, q2⟩
   ·exact hlp (hr.inj l p _ _ b h1 h2 rfl rfl q1' (.inl q2))
   ·obtain ⟨j, hj⟩ := List.getElem?_of_mem hx
    rcases hel j x r hj hxr with ⟨_, rfl⟩ | ⟨_, hj⟩
    ·exact hla (hr.inj l a _ _ b h1 h3 rfl rfl q1' (haB b q2))
    ·exact hlp (hr.inj l p _ _ b h1 h2 rfl rfl q1' (hpB x r b (List.mem_of_getElem? hj) hxr q2))
  intro l2 l3 x x' b hx hx' hv hv' q1 q2
  rcases hget l2 x hx with ⟨rfl, rfl⟩ | ⟨rfl, rfl⟩ | rfl <;> rcases hget l3 x' hx' with ⟨rfl, rfl⟩ | ⟨rfl, rfl⟩ | rfl
  ·rfl
  ·exact (hcross b q1 q2).elim
  ·simp [live] at hv'
  ·exact (hcross b q2 q1).elim
  ·rfl
  ·simp [live] at hv'
  ·simp [live] at hv
  ·simp [live] at hv
  ·simp [live] at hv
theorem Nx.shut {l p clock : Nat} {es : Ents} (hr : Rp F φ X w h) (h1 : h l = some (.pmap true p clock es)) (he : ∀ x ∈ es, innS x.2.2) : Nx F φ w h N [(l, .pmap false p clock es)] F φ w := by
 obtain ⟨b0, ents, g1, g2, g3, g4, g5, _⟩ := hr.objs l _ h1
 have hq : ∀ l2 x, chGet [(l, Ob.pmap false p clock es)] l2 = some x → l2 = l ∧ x = .pmap false p clock es := by
  intro l2 x hx
  simp only [chGet] at hx
  split at hx
  ·rename_i e; subst e; cases hx; exact ⟨rfl, rfl⟩
  ·cases hx
 refine ⟨fun _ h => h, fun _ _ h => h, fun _ _ h => .inl h, rfl, rfl, rfl, fun _ => Nat.le_refl _, Nat.le_refl _, fun b _ hne => (hne rfl).elim, fun b hb' => .inl hb', ?_, ?_, ?_⟩
 ·intro l2 x hx
  obtain ⟨rfl, rfl⟩ := hq l2 x hx
  exact ⟨b0, ents, g1, g2, g3, g4, g5, fun _ => he⟩
 ·intro l2 x b hx hv hB
  obtain ⟨rfl, rfl⟩ := hq l2 x hx
  exact .inr ⟨l2, _, h1, rfl, .inl hB.base, by simp [chGet]⟩
 ·intro l2 l3 x x' b hx hx' _ _ _ _
  rw [(hq l2 x hx).1, (hq l3 x' hx').1]
end
end Abs
end Go.Proofs.YtkefgcleaalnnaaGreat
