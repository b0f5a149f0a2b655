/- Rows inside rows: a row stored into a row of rows, a slice made of a row, rows of rows appended. -/
import Derived.Test.YtkefgcleaalnnaaGreatAbsX
import Derived.Test.YtkefgcleaalnnaaGreatAbsVw
import Derived.Test.YtkefgcleaalnnaaGreatAbsMs
namespace Go.Proofs.YtkefgcleaalnnaaGreat
set_option linter.unusedVariables false
set_option linter.unusedSimpArgs false
namespace Abs

section
variable {P : Program} {T : List (Nat × TI)} {F : Nat → Prop} {φ φ2 : Nat → Option Value} {X : Nat → Prop} {w : World} {h : Nat → Option Ob} {id : Nat} {N : Nat → Prop} {a : Act} {o : Oper} {k : S → Ch → Prop} {K : Act → World → Prop} {Q : Exit → Act → World → Prop} {PC : Nat → List S → List Ob → (S → List Ob → Prop) → Prop} {mt : List Nat} {g : Nat → Option Nat}

theorem RO.rowAt {l e sz : Nat} {rows : List (List V)} {c : Value} (h : RO F φ w l (.row e sz rows)) (hl : φ l = some c) : RowAt F w e sz c rows := by
 rcases h with ⟨c', xs, h1, h2⟩ | ⟨h0, p, h1⟩
 ·rw [hl] at h1; cases h1; exact .inl ⟨xs, h2⟩
 ·rw [hl] at h1; cases h1; exact .inr ⟨h0, p, rfl⟩
theorem own_store {e sz b n cap p : Nat} {xs ys : List Value} (g3 : w.ownsRow 0 e sz (.slice (some ⟨b, 0, none⟩) n cap) n xs) (g3r : roomy (.slice (some ⟨b, 0, none⟩) n cap)) (hfit : p + ys.length ≤ n * sz) :
  ∃ cur, w.heap[b]? = some (.cells cur e (0, 0)) ∧ hb (.slice (some ⟨b, 0, none⟩) n cap) = some b ∧ p + ys.length ≤ cur.size ∧
   (w.setRow b (cur.toList.take (p + 0) ++ ys ++ cur.toList.drop (p + 0 + ys.length)).toArray).ownsRow 0 e sz (.slice (some ⟨b, 0, none⟩) n cap) n (xs.take p ++ ys ++ xs.drop (p + ys.length)) := by
 rcases g3.2 with ⟨hv, _⟩ | ⟨g, cap', cur, hv, _, hh, hcap, hm, hszc, htake⟩
 ·cases hv
 ·cases hv
  have hxl : xs.length = n * sz := g3.1
  have hfit2 : n * sz ≤ cap * sz := Nat.mul_le_mul_right _ hcap
  have hbb : hb (.slice (some ⟨b, 0, none⟩) n cap) = some b := by cases cap with | zero => exact g3r.elim | succ => rfl
  refine ⟨cur, hh, hbb, by omega, ⟨?_, .inr ⟨b, cap, _, rfl, Nat.zero_le _, setRow_heap w b cur _ e (0, 0) hh, hcap, hm, ?_, ?_⟩⟩⟩
  ·simp only [List.length_append, List.length_take, List.length_drop]; omega
  ·simp only [List.size_toArray, List.length_append, List.length_take, List.length_drop, Array.length_toList, Nat.add_zero]; omega
  ·simp only [Nat.add_zero]
   rw [← htake]
   apply List.ext_getElem?
   intro q
   have hcs2 : cur.size = cap * sz := hszc
   have hA : min p cur.size = p := by omega
   have hB : min p (min (n * sz) cur.size) = p := by omega
   simp only [List.getElem?_take, List.getElem?_append, List.length_take, List.length_append, Array.length_toList, List.getElem?_drop, hA, hB]
   by_cases q1 : q < p
   ·simp [q1, show q < n * sz by omega, show q < p + ys.length by omega]
   ·by_cases q2 : q < p + ys.length
    ·simp [q1, q2, show q < n * sz by omega]
    ·have hD : p + ys.length + (q - (p + ys.length)) = q := by omega
     simp only [q1, q2, if_false, hD]
theorem ch2_get {m l : Nat} {ob : Ob} {l2 : Nat} {x : Ob} (hx : chGet [(m, .dead), (l, ob)] l2 = some x) : (l2 = l ∧ x = ob) ∨ (l2 ≠ l ∧ x = .dead) := by
 simp only [chGet] at hx
 by_cases e : l = l2
 ·subst e; simp at hx; exact .inl ⟨rfl, hx.symm⟩
 ·simp only [if_neg e] at hx
  split at hx
  ·cases hx; exact .inr ⟨Ne.symm e, rfl⟩
  ·cases hx
theorem grid_put {e e2 sz i m l : Nat} {ins : List (Value × List (List V))} {c c0 : Value} {rows : List (List V)} {b n cap : Nat} (hr : Rp F φ X w h) (hob : h l = some (.grid e e2 sz ins)) (hl : φ l = some (.slice (some ⟨b, 0, none⟩) n cap)) (hi : i < ins.length)
  (hom : h m = some (.row e2 sz rows)) (hm : φ m = some c) :
  ∃ cur, w.heap[b]? = some (.cells cur e (0, 0)) ∧ i + 1 ≤ cur.size ∧ Nx F φ w h N [(m, .dead), (l, .grid e e2 sz (ins.set i (c, rows)))] F φ (w.setRow b (cur.toList.take (i + 0) ++ [c] ++ cur.toList.drop (i + 0 + [c].length)).toArray) := by
 have hro := hr.objs l _ hob
 have hrm := (hr.objs m _ hom).rowAt hm
 have hml : m ≠ l := fun e => by subst e; rw [hob] at hom; cases hom
 have hmB : ∀ b', hb c = some b' → Blk φ m (.row e2 sz rows) b' := fun b' hb' => .inl (by simp [blkOf, hm, hb'])
 have hlB : ∀ b', Blk φ l (.grid e e2 sz ins) b' → ∀ b2, hb c = some b2 → b' ≠ b2 := fun b' h1 b2 h2 e => hml (hr.inj m l _ _ b2 hom hob rfl rfl (hmB b2 h2) (e ▸ h1))
 have hlt := fun b' (hB : Blk φ l (.grid e e2 sz ins) b') => hro.lt rfl hB
 obtain ⟨c1, g1, g2, ⟨g3, g3r⟩, g4, g5, g6⟩ := hro
 rw [hl] at g1; cases g1
 have hn : n = ins.length := by obtain ⟨_, _, hv⟩ := own_shape g3; cases hv; rfl
 subst hn
 obtain ⟨cur, hh, hbb, hfit, hown⟩ := own_store (ys := [c]) (p := i) g3 g3r (by simp; omega)
 have hob0 : Blk φ l (.grid e e2 sz ins) b := .inl (by simp [blkOf, hl, hbb])
 refine ⟨cur, hh, by simpa using hfit, ?_⟩
 have hother : ∀ b', b' ≠ b → (w.setRow b (cur.toList.take (i + 0) ++ [c] ++ cur.toList.drop (i + 0 + [c].length)).toArray).heap[b']? = w.heap[b']? := fun b' hb' => setRow_other w b b' _ hb'
 have hkF : ∀ b', F b' → (w.setRow b (cur.toList.take (i + 0) ++ [c] ++ cur.toList.drop (i + 0 + [c].length)).toArray).heap[b']? = w.heap[b']? := fun b' hF' => hother b' (fun e => (hlt b hob0).2 (e ▸ hF'))
 have hmap : (ins.set i (c, rows)).map (·.1) = (ins.map (·.1)).take i ++ [c] ++ (ins.map (·.1)).drop (i + [c].length) := by
  rw [List.map_set, List.set_eq_take_append_cons_drop, if_pos (by simpa using hi)]; simp
 have hin : ∀ b' p, p ∈ ins → hb p.1 = some b' → Blk φ l (.grid e e2 sz ins) b' := fun b' p hp hb' => .inr ⟨p, hp, hb'⟩
 have hel : ∀ (j : Nat) (p : Value × List (List V)), (ins.set i (c, rows))[j]? = some p → (j = i ∧ p = (c, rows)) ∨ (j ≠ i ∧ ins[j]? = some p) := by
  intro j p hp
  rw [List.getElem?_set] at hp
  by_cases e : i = j
  ·subst e; rw [if_pos rfl, if_pos hi] at hp; cases hp; exact .inl ⟨rfl, rfl⟩
  ·rw [if_neg e] at hp; exact .inr ⟨Ne.symm e, hp⟩
 refine ⟨fun _ h => h, fun _ _ h => h, fun _ _ h => .inl h, rfl, rfl, rfl, fun _ => Nat.le_refl _, by simp [World.setRow], ?_, fun b' hb' => .inl hb', ?_, ?_, ?_⟩
 ·intro b' hb1 hne
  refine ⟨l, _, hob, rfl, ?_, by simp [chGet]⟩
  by_cases e : b' = b
  ·subst e; exact hob0
  ·exact (hne (hother b' e)).elim
 ·intro l2 x hx
  rcases ch2_get hx with ⟨rfl, rfl⟩ | ⟨_, rfl⟩
  rotate_left
  ·trivial
  refine ⟨_, hl, g2, ⟨by rw [hmap, List.length_set]; exact hown, g3r⟩, ?_, ?_, ?_⟩
  ·intro p hp
   obtain ⟨j, hj⟩ := List.getElem?_of_mem hp
   rcases hel j p hj with ⟨_, rfl⟩ | ⟨_, hj⟩
   ·refine hrm.up (fun _ h => h) hkF fun b' hb' => ⟨hother b' fun e => hlB b hob0 b' hb' e.symm, (hrm.lt hb').2⟩
   ·have hp' := List.mem_of_getElem? hj
    refine (g4 p hp').up (fun _ h => h) hkF fun b' hb' => ⟨hother b' fun e => g6 p b' hp' hb' (by rw [hbb, e]), ((g4 p hp').lt hb').2⟩
  ·intro j1 j2 p q b' h1 h2 hb1 hb2
   rcases hel j1 p h1 with ⟨e1, rfl⟩ | ⟨e1, q1⟩ <;> rcases hel j2 q h2 with ⟨e2, rfl⟩ | ⟨e2, q2⟩
   ·rw [e1, e2]
   ·exact (hlB b' (hin b' q (List.mem_of_getElem? q2) hb2) b' hb1 rfl).elim
   ·exact (hlB b' (hin b' p (List.mem_of_getElem? q1) hb1) b' hb2 rfl).elim
   ·exact g5 j1 j2 p q b' q1 q2 hb1 hb2
  ·intro p b' hp hb1
   obtain ⟨j, hj⟩ := List.getElem?_of_mem hp
   rcases hel j p hj with ⟨_, rfl⟩ | ⟨_, hj⟩
   ·rw [hbb]; intro e; cases e; exact hlB b hob0 b hb1 rfl
   ·exact g6 p b' (List.mem_of_getElem? hj) hb1
 ·intro l2 x b' hx hv hB
  rcases ch2_get hx with ⟨rfl, rfl⟩ | ⟨_, rfl⟩
  ·rcases hB with hB | ⟨p, hp, hB⟩
   ·exact .inr ⟨l2, _, hob, rfl, .inl hB, by simp [chGet]⟩
   ·obtain ⟨j, hj⟩ := List.getElem?_of_mem hp
    rcases hel j p hj with ⟨_, rfl⟩ | ⟨_, hj⟩
    ·refine .inr ⟨m, _, hom, rfl, hmB b' hB, ?_⟩
     simp only [chGet]
     rw [if_neg (Ne.symm hml)]; simp
    ·exact .inr ⟨l2, _, hob, rfl, hin b' p (List.mem_of_getElem? hj) hB, by simp [chGet]⟩
  ·simp [live] at hv
 ·intro l2 l3 x x' b' hx hx' hv hv' _ _
  rcases ch2_get hx with ⟨rfl, rfl⟩ | ⟨_, rfl⟩
  ·rcases ch2_get hx' with ⟨rfl, rfl⟩ | ⟨_, rfl⟩
   ·rfl
   ·simp [live] at hv'
  ·simp [live] at hv

theorem op_storeS {t : Nat} {ti : TI} {x y : Operand} {s1 s2 : S} (ht : TIok P T t ti) (hr : Rp F φ X w h) (hX : ∀ b, w.heap.size ≤ b → X b) (ho : o.op = .store t x y) (hx : RS F φ w (a.eval x) s1) (hy : RS F φ w (a.eval y) s2) (hk : aStoreS h ti s1 s2 k) (hc : Ct F φ w h N o a k K) : o.wp P a w K Q := by
 unfold aStoreS at hk
 split at hk
 ·rename_i l sz i off
  split at hk
  ·rename_i e e2 sz2 ins hob
   cases hq : Nat.beq sz 1 && (Nat.beq off 0 && Nat.beq ti.size 1) with
   | false => simp [hq] at hk
   | true =>
    simp only [hq, cond_true] at hk
    rw [Bool.and_eq_true, Bool.and_eq_true] at hq
    have := beq_eqn hq.1
    subst this
    have := beq_eqn hq.2.1
    subst this
    have hs1 := beq_eqn hq.2.2
    split at hk
    ·rename_i m
     split at hk
     ·rename_i e2' sz2' rows hom
      cases hq2 : Nat.beq e2' e2 && Nat.beq sz2' sz2 with
      | false => simp [hq2] at hk
      | true =>
       simp only [hq2, cond_true] at hk
       rw [Bool.and_eq_true] at hq2
       have := beq_eqn hq2.1
       subst this
       have := beq_eqn hq2.2
       subst this
       obtain ⟨hi, hk⟩ := hk
       generalize hev : a.eval x = cv at hx
       generalize hev2 : a.eval y = cy at hy
       have hm := hy.row_inv
       cases hx with | c hv => cases hv with
        | tree hv => cases hv
        | eptr l sz i off b n cap hl =>
         obtain ⟨cur, hh, hfit, hnx⟩ := grid_put (N := N) (c0 := cy) hr hob hl hi hom hm
         have hone := hr.one _ _ hm
         have hcy : cy.cells = #[cy] := by cases cy <;> first | rfl | simp [Value.oneCell'] at hone
         have hsz := ht.sizeOf w
         have hst := run_storeCells_at P b i e [cy] 0 cur w hh (by simpa using hfit) (by intro v hv; simp at hv; subst hv; exact hone)
         refine wp_skip (w' := w.setRow b (cur.toList.take (i + 0) ++ [cy] ++ cur.toList.drop (i + 0 + [cy].length)).toArray) ?_ (hc _ _ _ _ _ _ hnx (.bot _) (hk cy))
         simp [execOp, ho, hev, hev2, Instr.storeAt, Instr.sureAddr, storeVar, hsz, hs1, hcy]
         simp only [Nat.add_zero] at hst
         rw [show i * 1 + 0 = i by omega] at *
         simp at hst
         rw [hst]
         rfl
     ·exact hk.elim
    ·exact hk.elim
  ·exact op_store ht hr hX ho hx hy hk hc
 ·exact op_store ht hr hX ho hx hy hk hc

theorem grid_new {e e2 sz m : Nat} {c : Value} {rows : List (List V)} (hr : Rp F φ X w h) (hN : N id) (hid : φ id = none) (hom : h m = some (.row e2 sz rows)) (hm : φ m = some c) :
  Nx F φ w h N [(m, .dead), (id, .grid e e2 sz [(c, rows)])] F (addφ φ id (.slice (some ⟨w.heap.size, 0, none⟩) 1 1)) (w.alloc (.cells #[c] e)) := by
 have hrm := (hr.objs m _ hom).rowAt hm
 have hφ := addφ_ext hid (.slice (some ⟨w.heap.size, 0, none⟩) 1 1)
 have hold : ∀ b, b < w.heap.size → (w.alloc (.cells #[c] e)).heap[b]? = w.heap[b]? := fun b hb' => heap_alloc_old w _ hb'
 have hkF : ∀ b, F b → (w.alloc (.cells #[c] e)).heap[b]? = w.heap[b]? := fun b hb' => hold b (hr.bd b hb')
 have hmi : m ≠ id := fun e => by subst e; rw [hid] at hm; cases hm
 refine ⟨fun _ h => h, hφ, ?_, rfl, rfl, rfl, fun _ => Nat.le_refl _, by simp, fun b hb1 hne => (hne (hold b hb1)).elim, fun b' hb' => .inl hb', ?_, ?_, ?_⟩
 ·intro l d hl
  unfold addφ at hl
  split at hl
  ·rename_i e; subst e; cases hl; exact .inr ⟨hN, rfl⟩
  ·exact .inl hl
 ·intro l2 x hx
  rcases ch2_get hx with ⟨rfl, rfl⟩ | ⟨_, rfl⟩
  rotate_left
  ·trivial
  refine ⟨.slice (some ⟨w.heap.size, 0, none⟩) 1 1, by simp [addφ], ?_, ⟨⟨by simp, .inr ⟨w.heap.size, 1, #[c], rfl, Nat.zero_le _, heap_alloc_new w _, Nat.le_refl _, by unfold maxLen; omega, by simp, by simp⟩⟩, trivial⟩, ?_, ?_, ?_⟩
  ·intro b hb' hF
   have := hb_slice hb'
   have := hr.bd b hF
   simp at *; omega
  ·intro p hp
   simp at hp; subst hp
   exact hrm.up (fun _ h => h) hkF fun b hb' => ⟨hold b (hrm.lt hb').1, (hrm.lt hb').2⟩
  ·intro i j p q b h1 h2 _ _
   cases i with
   | zero => cases j with
    | zero => rfl
    | succ j => simp at h2
   | succ i => simp at h1
  ·intro p b hp hb'
   simp at hp; subst hp
   have := (hrm.lt hb').1
   intro e
   have := hb_slice e
   simp at this; omega
 ·intro l2 x b hx hv hB
  rcases ch2_get hx with ⟨rfl, rfl⟩ | ⟨_, rfl⟩
  ·rcases hB with hB | ⟨p, hp, hB⟩
   ·simp only [blkOf, addφ, if_true, Option.bind_some] at hB
    have := hb_slice hB
    exact .inl (by simp at this; omega)
   ·simp at hp; subst hp
    refine .inr ⟨m, _, hom, rfl, .inl (by simp [blkOf, hm, hB]), ?_⟩
    simp only [chGet]
    rw [if_neg (Ne.symm hmi)]; simp
  ·simp [live] at hv
 ·intro l2 l3 x x' b' hx hx' hv hv' _ _
  rcases ch2_get hx with ⟨rfl, rfl⟩ | ⟨_, rfl⟩
  ·rcases ch2_get hx' with ⟨rfl, rfl⟩ | ⟨_, rfl⟩
   ·rfl
   ·simp [live] at hv'
  ·simp [live] at hv

theorem elemTIe_pick {t : Nat} {k : Nat → TI → Prop} (hk : elemTIe T t k) : ∃ e ei, k e ei ∧ ∀ k' : Nat → TI → Prop, k' e ei → elemTIe T t k' := by
 unfold elemTIe at hk ⊢
 split at hk
 ·rename_i ti hti
  split at hk
  ·rename_i e he
   split at hk
   ·rename_i ei hei
    cases hq : Nat.blt 0 ei.size with
    | false => simp [hq] at hk
    | true =>
     simp only [hq, cond_true] at hk
     exact ⟨e, ei, hk, fun k' hk' => by simp only [he, hei, hq, cond_true]; exact hk'⟩
   ·exact hk.elim
  ·exact hk.elim
 ·exact hk.elim
theorem op_buildS {t len : Nat} {ps : Array (Nat × Operand)} {ss : List S} (hT : TabOK P T) (hr : Rp F φ X w h) (hX : ∀ b, w.heap.size ≤ b → X b) (hN : N id) (hid : φ id = none) (ho : o.op = .buildSlice t len ps) (hx : P2 (RS F φ w) (ps.toList.map fun p => a.eval p.2) ss)
  (hk : elemTIe T t fun e ei => aBuildS h id e ei len (ps.toList.map (·.1)) ss k) (hc : Ct F φ w h N o a k K) : o.wp P a w K Q := by
 obtain ⟨e, ei, hk2, hback⟩ := elemTIe_pick hk
 clear hk
 have hk := hk2
 clear hk2
 unfold aBuildS at hk
 split at hk
 ·rename_i m
  split at hk
  ·rename_i e2 sz2 rows2 hom
   rcases hk with hk | ⟨⟨his, hlen, hsz⟩, hk⟩
   ·exact op_buildSlice hT hr hX hN hid ho hx (hback _ hk) hc
   ·obtain ⟨e', ei', hu, hei, _, rfl, rfl⟩ := elemTIe_inv hT (hback (fun e' ei' => e' = e ∧ ei' = ei) ⟨rfl, rfl⟩)
    obtain ⟨i, z, d, hi, h1, h2, h3, h4, h5, hd, hkd⟩ := hei
    obtain ⟨cy, r', he, hy, hnil⟩ := hx.cons_inv
    have hr0 := hnil.nil_inv
    subst hr0
    have hm := hy.row_inv
    have hone := hr.one _ _ hm
    have hcy : cy.cells = #[cy] := by cases cy <;> first | rfl | simp [Value.oneCell'] at hone
    obtain ⟨q, hq⟩ : ∃ q, ps = #[q] := by
     have hl : ps.toList.length = 1 := by have := congrArg List.length he; simpa using this
     match hps : ps.toList, hl with
     | [q], _ => exact ⟨q, by rw [← Array.toArray_toList (xs := ps), hps]⟩
    subst hq
    simp at he his
    subst hlen
    have hn := grid_new (N := N) (id := id) (e := e') hr hN hid hom hm
    refine wp_value (v := .slice (some ⟨w.heap.size, 0, none⟩) 1 1) (w' := w.alloc (.cells #[cy] e')) ?_ (hc _ _ _ _ _ _ hn (.c (.row id _ (by simp [addφ]))) (hk cy))
    have hszz : (sizeOf e').run P w = .ok ei'.size w := by simp [Go.sizeOf, typeInfo, hi, h1]
    rw [hsz] at hszz
    simp [execOp, ho, Instr.buildSlice, run_underlying hu, hszz, zeroValue, typeInfo, hi, h3, newRow, his, he, Instr.fill, hcy]
    rw [show ∀ f : Nat → Value, (Array.map f (Array.range 1)).setIfInBounds 0 cy = #[cy] from fun f => by rw [show Array.range 1 = #[0] from rfl]; simp]
  ·exact op_buildSlice hT hr hX hN hid ho hx (hback _ hk) hc
 ·exact op_buildSlice hT hr hX hN hid ho hx (hback _ hk) hc

theorem op_appendG {x y : Operand} {s1 s2 : S} {c : Call} {t : Nat} (hT : TabOK P T) (hr : Rp F φ X w h) (hN : N id) (hid : φ id = none) (ho : o.op = .call c) (hcal : c.callee = .builtin .append) (ha : c.args.toList = [x, y]) (hat : c.argTypes = #[t, t])
  (hx : RS F φ w (a.eval x) s1) (hy : RS F φ w (a.eval y) s2) (hk : elemTIe T t fun e ei => aAppendG h id e ei s1 s2 k) (hc : Ct F φ w h N o a k K) : o.wp P a w K Q := by
 obtain ⟨e, ei, hk2, hback⟩ := elemTIe_pick hk
 clear hk
 have hk := hk2
 clear hk2
 unfold aAppendG at hk
 split at hk
 ·rename_i l
  split at hk
  ·rename_i e' e2 sz2 ins hob
   split at hk
   ·rename_i m
    split at hk
    ·rename_i e3 e2' sz2' ins2 hom
     cases hq : Nat.beq e' e && (Nat.beq e3 e && (Nat.beq e2' e2 && (Nat.beq sz2' sz2 && Nat.beq ei.size 1))) with
     | false => simp [hq] at hk
     | true =>
     simp only [hq, cond_true] at hk
     simp only [Bool.and_eq_true] at hq
     obtain ⟨q1, q1', q2, q3, q4⟩ := hq
     have := beq_eqn q1
     subst this
     have := beq_eqn q1'
     subst this
     have := beq_eqn q2
     subst this
     have := beq_eqn q3
     subst this
     have hs1 := beq_eqn q4
     obtain ⟨⟨⟨hlm, hne⟩, hroom⟩, hk⟩ := hk
     obtain ⟨e4, ei4, hu, hei, hpos, rfl, rfl⟩ := elemTIe_inv hT (hback (fun e4 ei4 => e4 = e3 ∧ ei4 = ei) ⟨rfl, rfl⟩)
     obtain ⟨i, z, d, hi, h1, h2, h3, h4, h5, hd, hkd⟩ := hei
     have hl := hx.row_inv
     have hm := hy.row_inv
     generalize hev : a.eval x = c1 at hx hl
     generalize hev2 : a.eval y = c2 at hy hm
     have hro1 := hr.objs l _ hob
     have hro2 := hr.objs m _ hom
     have hlt1 := fun b (hB : Blk φ l (.grid e4 e2' sz2' ins) b) => hro1.lt rfl hB
     have hlt2 := fun b (hB : Blk φ m (.grid e4 e2' sz2' ins2) b) => hro2.lt rfl hB
     have hB1 : ∀ b, hb c1 = some b → Blk φ l (.grid e4 e2' sz2' ins) b := fun b hb' => .inl (by simp [blkOf, hl, hb'])
     have hB1' : ∀ b p, p ∈ ins → hb p.1 = some b → Blk φ l (.grid e4 e2' sz2' ins) b := fun b p hp hb' => .inr ⟨p, hp, hb'⟩
     have hB2' : ∀ b p, p ∈ ins2 → hb p.1 = some b → Blk φ m (.grid e4 e2' sz2' ins2) b := fun b p hp hb' => .inr ⟨p, hp, hb'⟩
     have hdis : ∀ b b', Blk φ l (.grid e4 e2' sz2' ins) b → Blk φ m (.grid e4 e2' sz2' ins2) b' → b ≠ b' := fun b b' k1 k2 e => hlm (hr.inj l m _ _ b hob hom rfl rfl k1 (e ▸ k2))
     obtain ⟨c1', k1, k2, ⟨k3, k3r⟩, k4, k5, k6⟩ := hro1
     rw [hl] at k1; cases k1
     obtain ⟨c2', j1, j2, ⟨j3, j3r⟩, j4, j5, j6⟩ := hro2
     rw [hm] at j1; cases j1
     obtain ⟨ax, cx, rfl⟩ := own_shape j3
     have hE : Elem P t e4 1 ei4.bytes := ⟨hu, i, z, hi, h3, by rw [h1, hs1], h2, by rw [h4.1, hs1], by omega⟩
     have hones : ∀ u ∈ ins2.map (·.1), u.oneCell' = true := by
      intro u hu
      obtain ⟨p, hp, rfl⟩ := List.mem_map.1 hu
      obtain ⟨_, _, hv⟩ := (j4 p hp).shape
      rw [hv]; rfl
     obtain ⟨c', w', hrun, hown', hg, hblk⟩ := run_push2 (P := P) t o.type e4 1 ei4.bytes hE c1 ins.length (ins.map (·.1)) k3 k3r ax ins2.length cx (ins2.map (·.1)) (own_at j3) (by simp) hones (by have := hroom.1; unfold maxLen; omega) hroom.2
     have hpos2 : 0 < ins2.length := List.length_pos_iff.2 hne
     obtain ⟨g, cap, rfl⟩ := own_shape1 hown' (by omega)
     have hrm : roomy (.slice (some ⟨g, 0, none⟩) (ins.length + ins2.length) cap) := by
      rcases hown'.2 with ⟨hv, _⟩ | ⟨g', cap', cur, hv, _, _, hcap, _⟩
      ·cases hv
      ·cases hv
       cases cap with
       | zero => omega
       | succ => trivial
     have hφ := addφ_ext hid (.slice (some ⟨g, 0, none⟩) (ins.length + ins2.length) cap)
     have hold : ∀ b, b < w.heap.size → ¬ hb c1 = some b → w'.heap[b]? = w.heap[b]? := fun b hb1 hne' => hg.block b hb1 (fun e => hne' e.symm)
     have hkF : ∀ b, F b → w'.heap[b]? = w.heap[b]? := fun b hF => hold b (hr.bd b hF) (fun e => k2 b e hF)
     have hli : l ≠ id := fun e => by subst e; rw [hid] at hl; cases hl
     have hmi : m ≠ id := fun e => by subst e; rw [hid] at hm; cases hm
     have hgd : ∀ l2 xo, chGet [(l, Ob.dead), (m, .dead), (id, .grid e4 e2' sz2' (ins ++ ins2))] l2 = some xo → (l2 = id ∧ xo = .grid e4 e2' sz2' (ins ++ ins2)) ∨ xo = .dead := by
      intro l2 xo hx'
      have e5 : chGet [(l, Ob.dead), (m, .dead), (id, .grid e4 e2' sz2' (ins ++ ins2))] l2 = chGet ([(l, Ob.dead)] ++ [(m, .dead), (id, .grid e4 e2' sz2' (ins ++ ins2))]) l2 := rfl
      rw [e5, chGet_append] at hx'
      cases hc2 : chGet [(m, Ob.dead), (id, .grid e4 e2' sz2' (ins ++ ins2))] l2 with
      | some y2 =>
       rw [hc2] at hx'; cases hx'
       rcases ch2_get hc2 with h6 | ⟨_, h6⟩
       ·exact .inl h6
       ·exact .inr h6
      | none =>
       rw [hc2] at hx'
       simp only [chGet] at hx'
       split at hx'
       ·cases hx'; exact .inr rfl
       ·cases hx'
     have hsl : (chGet [(l, Ob.dead), (m, .dead), (id, .grid e4 e2' sz2' (ins ++ ins2))] l).isSome := by
      simp only [chGet]; by_cases e6 : m = l <;> by_cases e7 : id = l <;> simp [e6, e7]
     have hsm : (chGet [(l, Ob.dead), (m, .dead), (id, .grid e4 e2' sz2' (ins ++ ins2))] m).isSome := by
      simp only [chGet]; by_cases e7 : id = m <;> simp [e7]
     have hcase : ∀ b, hb (.slice (some ⟨g, 0, none⟩) (ins.length + ins2.length) cap) = some b → hb c1 = some b ∨ b = w.heap.size := hblk
     have hup : ∀ p ∈ ins ++ ins2, RowAt F w' e2' sz2' p.1 p.2 := by
      intro p hp
      rcases List.mem_append.1 hp with hp | hp
      ·exact (k4 p hp).up (fun _ h => h) hkF fun b hb' => ⟨hold b ((k4 p hp).lt hb').1 (k6 p b hp hb'), ((k4 p hp).lt hb').2⟩
      ·exact (j4 p hp).up (fun _ h => h) hkF fun b hb' => ⟨hold b ((j4 p hp).lt hb').1 (fun e => hdis b b (hB1 b e) (hB2' b p hp hb') rfl), ((j4 p hp).lt hb').2⟩
     have hin : ∀ p ∈ ins ++ ins2, ∀ b, hb p.1 = some b → ∃ l2 o2, h l2 = some o2 ∧ live o2 = true ∧ Blk φ l2 o2 b ∧ (chGet [(l, Ob.dead), (m, .dead), (id, .grid e4 e2' sz2' (ins ++ ins2))] l2).isSome := by
      intro p hp b hb'
      rcases List.mem_append.1 hp with hp | hp
      ·exact ⟨l, _, hob, rfl, hB1' b p hp hb', hsl⟩
      ·exact ⟨m, _, hom, rfl, hB2' b p hp hb', hsm⟩
     have hnx : Nx F φ w h N [(l, .dead), (m, .dead), (id, .grid e4 e2' sz2' (ins ++ ins2))] F (addφ φ id (.slice (some ⟨g, 0, none⟩) (ins.length + ins2.length) cap)) w' := by
      refine ⟨fun _ h => h, hφ, ?_, hg.os, hg.tape, hg.output, fun _ => sem_mono _ hrun, hg.size, ?_, fun b hb' => .inl hb', ?_, ?_, ?_⟩
      ·intro l2 d' hl2
       unfold addφ at hl2
       split at hl2
       ·rename_i e; subst e; cases hl2; exact .inr ⟨hN, rfl⟩
       ·exact .inl hl2
      ·intro b hb1 hne'
       by_cases e6 : hb c1 = some b
       ·exact ⟨l, _, hob, rfl, hB1 b e6, hsl⟩
       ·exact (hne' (hold b hb1 e6)).elim
      ·intro l2 xo hx'
       rcases hgd l2 xo hx' with ⟨rfl, rfl⟩ | rfl
       rotate_left
       ·trivial
       refine ⟨_, by simp [addφ], ?_, ⟨by rw [List.length_append, List.map_append]; exact hown', hrm⟩, hup, ?_, ?_⟩
       ·intro b hb' hF
        rcases hcase b hb' with h6 | h6
        ·exact k2 b h6 hF
        ·have := hr.bd b hF; omega
       ·intro i1 i2 p q b h6 h7 hb1 hb2
        rw [List.getElem?_append] at h6 h7
        split at h6 <;> split at h7
        ·exact k5 i1 i2 p q b h6 h7 hb1 hb2
        ·exact (hdis b b (hB1' b p (List.mem_of_getElem? h6) hb1) (hB2' b q (List.mem_of_getElem? h7) hb2) rfl).elim
        ·exact (hdis b b (hB1' b q (List.mem_of_getElem? h7) hb2) (hB2' b p (List.mem_of_getElem? h6) hb1) rfl).elim
        ·have := j5 _ _ p q b h6 h7 hb1 hb2; omega
       ·intro p b hp hb1 hb2
        rcases hcase b hb2 with h6 | h6
        ·rcases List.mem_append.1 hp with hp | hp
         ·exact k6 p b hp hb1 h6
         ·exact hdis b b (hB1 b h6) (hB2' b p hp hb1) rfl
        ·obtain ⟨l2, o2, g1, g2, g3, _⟩ := hin p hp b hb1
         have := ((hr.objs l2 o2 g1).lt g2 g3).1; omega
      ·intro l2 xo b hx' hv hB
       rcases hgd l2 xo hx' with ⟨rfl, rfl⟩ | rfl
       rotate_left
       ·simp [live] at hv
       rcases hB with hB | ⟨p, hp, hB⟩
       ·simp only [blkOf, addφ, if_true, Option.bind_some] at hB
        rcases hcase b hB with h6 | h6
        ·exact .inr ⟨l, _, hob, rfl, hB1 b h6, hsl⟩
        ·exact .inl (by omega)
       ·exact .inr (hin p hp b hB)
      ·intro l2 l3 x1 x2 b hx1 hx2 hv1 hv2 _ _
       rcases hgd l2 x1 hx1 with ⟨rfl, rfl⟩ | rfl
       ·rcases hgd l3 x2 hx2 with ⟨rfl, rfl⟩ | rfl
        ·rfl
        ·simp [live] at hv2
       ·simp [live] at hv1
     refine wp_value (v := .slice (some ⟨g, 0, none⟩) (ins.length + ins2.length) cap) (w' := w') (run_call_builtin ho hcal ha ?_) (hc _ _ _ _ _ _ hnx (.c (.row id _ (by simp [addφ]))) hk)
     simp only [builtin, List.map_cons, List.map_nil, hev, hev2, hat, Sem.run_bind, hrun, Result.andThen_ok, Sem.run_pure]
    ·exact hk.elim
   ·exact hk.elim
  ·exact op_appendV hT hr hN hid ho hcal ha hat hx hy (hback _ hk) hc
 ·exact op_appendM hT hr hN hid ho hcal ha hat (hback (fun e' ei' => e' = e ∧ ei' = ei) ⟨rfl, rfl⟩) hx hy (by unfold aAppendG; exact hk) hc
 ·exact op_appendV hT hr hN hid ho hcal ha hat hx hy (hback _ hk) hc
theorem RowAt.nil {e sz : Nat} : RowAt F w e sz (.slice none 0 0) [] := .inl ⟨[], fun b hb' => by simp [hb] at hb', ⟨World.ownsRow_nil _ _ _ _, trivial⟩, P2.nil, by simp⟩
theorem allNil_inv : ∀ {rows : List (List V)} {ins : List (Value × List (List V))}, allNil rows = some ins → ins = rows.map (fun _ => (Value.slice none 0 0, [])) ∧ ∀ r ∈ rows, r = [.nils]
 | [], ins, h => by simp [allNil] at h; subst h; simp
 | r :: t, ins, h => by
  unfold allNil at h
  split at h
  ·cases ‹r :: t = []›
  ·rename_i r' e
   cases e
   split at h
   ·rename_i q hq
    cases h
    obtain ⟨h1, h2⟩ := allNil_inv hq
    subst h1
    exact ⟨rfl, fun r hr => by rcases List.mem_cons.1 hr with rfl | hr; exact rfl; exact h2 r hr⟩
   ·cases h
  ·cases h
theorem nils_grid {l e e2 sz : Nat} {rows : List (List V)} {ins : List (Value × List (List V))} (hr : Rp F φ X w h) (hob : h l = some (.row e 1 rows)) (hne : rows ≠ []) (hn : allNil rows = some ins) : Nx F φ w h N [(l, .grid e e2 sz ins)] F φ w := by
 obtain ⟨rfl, hnil⟩ := allNil_inv hn
 rcases hr.objs l _ hob with ⟨c, xs, h1, h2, ⟨h3, h3r⟩, h4, h5⟩ | ⟨h0, _⟩
 rotate_left
 ·exact (hne h0).elim
 have hxs : ∀ {rows : List (List V)} {xs : List Value}, (∀ r ∈ rows, r = [.nils]) → P2 (RT F w) xs rows.flatten → xs = (rows.map (fun _ => ((Value.slice none 0 0, []) : Value × List (List V)))).map (·.1) := by
  intro rows
  induction rows with
  | nil => intro xs _ hp; exact hp.nil_inv
  | cons r t ih =>
   intro xs hr hp
   rw [hr r (by simp)] at hp
   obtain ⟨x, xs', rfl, g1, g2⟩ := hp.cons_inv
   cases g1
   rw [ih (fun r' h' => hr r' (by simp [h'])) g2]
   simp
 have hq : ∀ l2 x, chGet [(l, Ob.grid e e2 sz (rows.map fun _ => (Value.slice none 0 0, [])))] l2 = some x → l2 = l ∧ x = .grid e e2 sz (rows.map fun _ => (Value.slice none 0 0, [])) := by
  intro l2 x hx
  simp only [chGet] at hx
  split at hx
  ·rename_i e; subst e; cases hx; exact ⟨rfl, rfl⟩
  ·cases hx
 have hno : ∀ b, insB (.grid e e2 sz (rows.map fun _ => (Value.slice none 0 0, []))) b → False := by
  rintro b ⟨p, hp, hb'⟩
  obtain ⟨_, _, rfl⟩ := List.mem_map.1 hp
  simp [hb] at hb'
 refine ⟨fun _ h => h, fun _ _ h => h, fun _ _ h => .inl h, rfl, rfl, rfl, fun _ => Nat.le_refl _, Nat.le_refl _, fun b _ hne => (hne rfl).elim, fun b hb' => .inl hb', ?_, ?_, ?_⟩
 ·intro l2 x hx
  obtain ⟨rfl, rfl⟩ := hq l2 x hx
  refine ⟨c, h1, h2, ⟨by rw [List.length_map, ← hxs hnil h4]; exact h3, h3r⟩, ?_, ?_, ?_⟩
  ·intro p hp
   obtain ⟨_, _, rfl⟩ := List.mem_map.1 hp
   exact RowAt.nil
  ·intro i j p q b hp _ hb' _
   exact (hno b ⟨p, List.mem_of_getElem? hp, hb'⟩).elim
  ·intro p b hp hb'
   exact (hno b ⟨p, hp, hb'⟩).elim
 ·intro l2 x b hx _ hb'
  obtain ⟨rfl, rfl⟩ := hq l2 x hx
  exact .inr ⟨l2, _, hob, rfl, .inl (hb'.base (hno b)), by simp [chGet]⟩
 ·intro l2 l3 x x' b hx hx' _ _ _ _
  rw [(hq l2 x hx).1, (hq l3 x' hx').1]

theorem allNil_rep : ∀ n : Nat, allNil (List.replicate n [V.nils]) = some (List.replicate n (Value.slice none 0 0, []))
 | 0 => rfl
 | n + 1 => by
  rw [List.replicate_succ, List.replicate_succ, allNil, allNil_rep n]
theorem op_makeS {x y : Operand} {s1 s2 : S} {t : Nat} (hT : TabOK P T) (hr : Rp F φ X w h) (hX : ∀ b, w.heap.size ≤ b → X b) (hN : N id) (hid : φ id = none) (ho : o.op = .makeSlice t x y)
  (hx : RS F φ w (a.eval x) s1) (hy : RS F φ w (a.eval y) s2) (hk : elemTIe T t fun e ei => aMakeS T id e ei s1 s2 k) (hc : Ct F φ w h N o a k K) : o.wp P a w K Q := by
 obtain ⟨e, ei, hk2, hback⟩ := elemTIe_pick hk
 clear hk
 have hk := hk2
 clear hk2
 unfold aMakeS at hk
 split at hk
 ·rename_i e2 hkd
  split at hk
  ·rename_i hz
   unfold withT2 at hk
   split at hk
   ·rename_i ei2 hei2
    rcases hk with hk | ⟨hs1, hk⟩
    ·exact op_makeSlice hT hr hN hid ho hx hy (hback _ hk) hc
    ·have hk2 : aMakeSlice id e ei s1 s2 fun v ch => v = .c (.row id) ∧ ∃ m : Int, s1 = .c (.int .i64 m) ∨ True ∧ ch = ch := by
      unfold aMakeSlice at hk ⊢
      split at hk
      ·obtain ⟨h1, _⟩ := hk
       exact ⟨h1, rfl, 0, .inr ⟨trivial, rfl⟩⟩
      ·exact hk.elim
     clear hk2
     have hk3 : aMakeSlice id e ei s1 s2 fun v ch => ∃ m : Int, (1 ≤ m ∧ v = .c (.row id) ∧ ch = [(id, .row e ei.size (List.replicate m.toNat ei.zero))]) ∧ k v (ch ++ [(id, .grid e e2 ei2.size (List.replicate m.toNat (.slice none 0 0, [])))]) := by
      unfold aMakeSlice at hk ⊢
      split at hk
      ·obtain ⟨h1, h2, h3⟩ := hk
       exact ⟨h1, _, ⟨h2, rfl, rfl⟩, h3⟩
      ·exact hk.elim
     refine op_makeSlice hT hr hN hid ho hx hy (hback _ hk3) ?_
     rintro c w' F' φ' v ch hn hs ⟨m, ⟨hm, rfl, rfl⟩, hkk⟩
     have hr1 := hr.next hn hX
     have hob1 : updF h [(id, .row e ei.size (List.replicate m.toNat ei.zero))] id = some (.row e 1 (List.replicate m.toNat [V.nils])) := by
      simp [updF, chGet, hs1, hz]
     have hg := nils_grid (e2 := e2) (sz := ei2.size) (N := N) hr1 hob1 (by intro e0; have := congrArg List.length e0; simp at this; omega) (allNil_rep _)
     exact hc _ _ _ _ _ _ (Nx.trans hr hX hn hg) hs hkk
   ·exact hk.elim
  ·exact op_makeSlice hT hr hN hid ho hx hy (hback _ hk) hc
 ·exact op_makeSlice hT hr hN hid ho hx hy (hback _ hk) hc
end
end Abs
end Go.Proofs.YtkefgcleaalnnaaGreat
