/- Stores; aggregates, parts, conversions, function values. -/
import Derived.Test.YtkefgcleaalnnaaGreatAbsH
namespace Go.Proofs.YtkefgcleaalnnaaGreat
set_option linter.unusedVariables false
set_option linter.unusedSimpArgs false
namespace Abs

theorem flat_set {sz : Nat} : ∀ {rows : List (List V)} (hz : ∀ r ∈ rows, r.length = sz) {i : Nat} {cs : List V} {off : Nat} {vs : List V}, rows[i]? = some cs → off + vs.length ≤ sz → (rows.set i (putL off vs cs)).flatten = putL (i * sz + off) vs rows.flatten
 | [], _, i, cs, off, vs, h, _ => by simp at h
 | r0 :: rest, hz, 0, cs, off, vs, h, hl => by
  simp at h; subst h
  have h0 := hz r0 (by simp)
  simp only [List.set_cons_zero, List.flatten_cons, Nat.zero_mul, Nat.zero_add]
  rw [putL_eq _ _ _ (by omega), putL_eq _ _ _ (by simp; omega)]
  rw [List.take_append_of_le_length (by omega), List.drop_append_of_le_length (by omega)]
  simp
 | r0 :: rest, hz, i + 1, cs, off, vs, h, hl => by
  have h0 := hz r0 (by simp)
  have hz' : ∀ r ∈ rest, r.length = sz := fun r hr => hz r (by simp [hr])
  have ih := flat_set hz' (i := i) (off := off) (vs := vs) (by simpa using h) hl
  have hfl : ∀ (rs : List (List V)), (∀ r ∈ rs, r.length = sz) → rs.flatten.length = rs.length * sz := by
   intro rs
   induction rs with
   | nil => intro _; simp
   | cons r t ih => intro hz; simp only [List.flatten_cons, List.length_append, List.length_cons, ih (fun r hr => hz r (by simp [hr])), hz r (by simp), Nat.add_mul]; omega
  have hil : i < rest.length := (List.getElem?_eq_some_iff.1 (show rest[i]? = some cs by simpa using h)).1
  have hfit : i * sz + off + vs.length ≤ rest.flatten.length := by
   rw [hfl rest hz']
   have : (i + 1) * sz ≤ rest.length * sz := Nat.mul_le_mul_right _ hil
   rw [Nat.add_mul] at this; omega
  simp only [List.set_cons_succ, List.flatten_cons, ih]
  rw [putL_eq _ _ _ hfit, putL_eq _ _ _ (by rw [List.length_append, Nat.add_mul]; omega)]
  have e1 : (i + 1) * sz + off = r0.length + (i * sz + off) := by rw [h0, Nat.add_mul]; omega
  rw [e1, List.take_length_add_append, Nat.add_assoc r0.length, List.drop_length_add_append]
  simp

section
variable {P : Program} {T : List (Nat × TI)} {F : Nat → Prop} {φ : Nat → Option Value} {X : Nat → Prop} {w : World} {h : Nat → Option Ob} {id : Nat} {N : Nat → Prop} {a : Act} {o : Oper} {k : S → Ch → Prop} {K : Act → World → Prop} {Q : Exit → Act → World → Prop} {PC : Nat → List S → List Ob → (S → List Ob → Prop) → Prop} {mt : List Nat}

theorem row_store {e sz b n cap i off : Nat} {rows : List (List V)} {cs vs' : List V} {ys : List Value} (hra : RowAt F w e sz (.slice (some ⟨b, 0, none⟩) n cap) rows) (hcs' : rows[i]? = some cs) (hvs' : P2 (RT F w) ys vs') (e2 : off + vs'.length ≤ sz) :
  ∃ cur, w.heap[b]? = some (.cells cur e (0, 0)) ∧ hb (.slice (some ⟨b, 0, none⟩) n cap) = some b ∧ i * sz + off + ys.length ≤ cur.size ∧
   RowAt F (w.setRow b (cur.toList.take (i * sz + off + 0) ++ ys ++ cur.toList.drop (i * sz + off + 0 + ys.length)).toArray) e sz (.slice (some ⟨b, 0, none⟩) n cap) (rows.set i (putL off vs' cs)) := by
 rcases hra with ⟨xs, g2, ⟨g3, g3r⟩, g4, g5⟩ | ⟨h00, _⟩
 rotate_left
 ·subst h00; simp at hcs'
 have hlv : ys.length = vs'.length := hvs'.1
 rcases g3.2 with ⟨hv, _⟩ | ⟨g, cap', cur, hv, _, hh, hcap, hm, hszc, htake⟩
 ·cases hv
 ·cases hv
  have hil : i < rows.length := (List.getElem?_eq_some_iff.1 hcs').1
  have hxl : xs.length = rows.length * sz := g3.1
  have hfit : i * sz + off + vs'.length ≤ rows.length * sz := by
   have : (i + 1) * sz ≤ rows.length * sz := Nat.mul_le_mul_right _ hil
   rw [Nat.add_mul] at this; omega
  have hfit2 : rows.length * sz ≤ cap * sz := Nat.mul_le_mul_right _ hcap
  have hcsl : cs.length = sz := g5 cs (List.mem_of_getElem? hcs')
  have hflat := flat_set g5 hcs' (off := off) (vs := vs') e2
  have hfl : rows.flatten.length = rows.length * sz := by rw [← g4.1, hxl]
  have hbb : hb (.slice (some ⟨b, 0, none⟩) rows.length cap) = some b := by cases cap with | zero => exact g3r.elim | succ => rfl
  have hkeep : ∀ (A : Array Value) b', F b' → (w.setRow b A).heap[b']? = w.heap[b']? := by
   intro A b' hF'
   exact setRow_other w b b' _ (fun e => g2 b hbb (e ▸ hF'))
  refine ⟨cur, hh, hbb, by omega, .inl ⟨xs.take (i * sz + off) ++ ys ++ xs.drop (i * sz + off + vs'.length), g2, ⟨⟨?_, .inr ⟨b, cap, _, by rw [List.length_set], Nat.zero_le _, setRow_heap w b cur _ e (0, 0) hh, by simpa using hcap, hm, ?_, ?_⟩⟩, g3r⟩, ?_, ?_⟩⟩
  ·simp only [List.length_append, List.length_take, List.length_drop, List.length_set, hlv]; omega
  ·simp only [List.size_toArray, List.length_append, List.length_take, List.length_drop, hlv, Array.length_toList, Nat.add_zero]; omega
  ·simp only [List.length_set, Nat.add_zero, hlv]
   rw [← htake]
   apply List.ext_getElem?
   intro p
   have hcs2 : cur.size = cap * sz := hszc
   have hA : min (i * sz + off) cur.size = i * sz + off := by omega
   have hB : min (i * sz + off) (min (rows.length * sz) cur.size) = i * sz + off := by omega
   simp only [List.getElem?_take, List.getElem?_append, List.length_take, List.length_append, Array.length_toList, List.getElem?_drop, hlv, hA, hB, Nat.add_zero]
   by_cases q1 : p < i * sz + off
   ·simp [q1, show p < rows.length * sz by omega, show p < i * sz + off + vs'.length by omega]
   ·by_cases q2 : p < i * sz + off + vs'.length
    ·simp [q1, q2, show p < rows.length * sz by omega]
    ·have hD : i * sz + off + vs'.length + (p - (i * sz + off + vs'.length)) = p := by omega
     simp only [q1, q2, if_false, hD]
  ·rw [hflat, putL_eq _ _ _ (by rw [hfl]; exact hfit)]
   exact (((g4.take _).append hvs').append (g4.drop _)).mono fun _ _ hh => hh.up (fun _ h => h) (hkeep _)
  ·intro r hr'
   rcases List.mem_or_eq_of_mem_set hr' with h6 | rfl
   ·exact g5 r h6
   ·rw [putL_eq _ _ _ (by omega)]; simp; omega
theorem Rp.less {l : Nat} (hr : Rp F φ X w h) : Rp F φ X w (fun l' => bif Nat.beq l' l then none else h l') := by
 have hh : ∀ l' ob, (bif Nat.beq l' l then none else h l') = some ob → l' ≠ l ∧ h l' = some ob := by
  intro l' ob hl'
  rw [beq_dec] at hl'
  by_cases e : l' = l
  ·simp [e] at hl'
  ·exact ⟨e, by simpa [e] using hl'⟩
 exact ⟨fun l' ob hl' => hr.objs l' ob (hh l' ob hl').2, fun l1 l2 o1 o2 b h1 h2 => hr.inj l1 l2 o1 o2 b (hh l1 o1 h1).2 (hh l2 o2 h2).2, fun l' ob b hl' => hr.inX l' ob b (hh l' ob hl').2, hr.bd, hr.one, hr.tb⟩
theorem Nx.unless {l : Nat} {F1 : Nat → Prop} {ch : Ch} (hn1 : Nx F φ w (fun l' => bif Nat.beq l' l then none else h l') N ch F1 φ w) : Nx F φ w h N ch F1 φ w := by
 have hh : ∀ l' ob, (bif Nat.beq l' l then none else h l') = some ob → h l' = some ob := by
  intro l' ob hl'
  rw [beq_dec] at hl'
  by_cases e : l' = l
  ·simp [e] at hl'
  ·simpa [e] using hl'
 refine ⟨hn1.hF, hn1.hφ, hn1.nφ, hn1.os, hn1.tape, hn1.output, hn1.drawn, hn1.size, ?_, ?_, hn1.objs, ?_, hn1.inj⟩
 ·intro b hb' hne; exact (hne rfl).elim
 ·intro b hb'
  rcases hn1.nF b hb' with h1 | ⟨h1, h2 | ⟨l', ob, k1, k2⟩⟩
  ·exact .inl h1
  ·exact .inr ⟨h1, .inl h2⟩
  ·exact .inr ⟨h1, .inr ⟨l', ob, hh l' ob k1, k2⟩⟩
 ·intro l' ob b h1 h2 h3
  rcases hn1.own l' ob b h1 h2 h3 with h4 | ⟨l2, o2, k1, k2⟩
  ·exact .inl h4
  ·exact .inr ⟨l2, o2, hh l2 o2 k1, k2⟩
theorem grid_set {e e2 sz i : Nat} {ins : List (Value × List (List V))} {c : Value} {rows rows' : List (List V)} {l b : Nat} {cur A : Array Value} {E : TypeId} (hr : Rp F φ X w h) (hob : h l = some (.grid e e2 sz ins)) (hi : ins[i]? = some (c, rows)) (hbb : hb c = some b) (hh : w.heap[b]? = some (.cells cur E (0, 0)))
  (hra : RowAt F (w.setRow b A) e2 sz c rows') : Nx F φ w h N [(l, .grid e e2 sz (ins.set i (c, rows')))] F φ (w.setRow b A) := by
 have hro := hr.objs l _ hob
 have hBk : Blk φ l (.grid e e2 sz ins) b := .inr ⟨_, List.mem_of_getElem? hi, hbb⟩
 have hbl := hro.lt rfl hBk
 obtain ⟨c0, g1, g2, ⟨g3, g3r⟩, g4, g5, g6⟩ := hro
 have hother : ∀ b', b' ≠ b → (w.setRow b A).heap[b']? = w.heap[b']? := fun b' hb' => setRow_other w b b' _ hb'
 have hkF : ∀ b', F b' → (w.setRow b A).heap[b']? = w.heap[b']? := fun b' hF' => hother b' (fun e => hbl.2 (e ▸ hF'))
 have hil := (List.getElem?_eq_some_iff.1 hi).1
 have hmap : (ins.set i (c, rows')).map (·.1) = ins.map (·.1) := by
  apply List.ext_getElem?
  intro j
  rw [List.getElem?_map, List.getElem?_map, List.getElem?_set]
  by_cases e : i = j
  ·subst e; rw [if_pos rfl, if_pos hil, hi]; rfl
  ·rw [if_neg e]
 have hval : ∀ (j : Nat) (p : Value × List (List V)), (ins.set i (c, rows'))[j]? = some p → ∃ q, ins[j]? = some q ∧ q.1 = p.1 := by
  intro j p hp
  have := congrArg (fun q => q[j]?) hmap
  simp only [List.getElem?_map, hp, Option.map_some] at this
  cases hj : ins[j]? with
  | none => rw [hj] at this; simp at this
  | some q => rw [hj] at this; simp at this; exact ⟨q, rfl, this.symm⟩
 refine Nx.set hr hob rfl hBk A cur E hh ⟨c0, g1, g2, ⟨?_, g3r⟩, ?_, ?_, ?_⟩ ?_
 ·rw [hmap, List.length_set]
  exact own_up g3 g3r fun b' hb' => hother b' (fun e => g6 _ b (List.mem_of_getElem? hi) hbb (e ▸ hb'))
 ·intro p hp
  obtain ⟨j, hj⟩ := List.getElem?_of_mem hp
  by_cases e : i = j
  ·subst e
   rw [List.getElem?_set_self hil] at hj
   cases hj; exact hra
  ·rw [List.getElem?_set_ne e] at hj
   refine (g4 p (List.mem_of_getElem? hj)).up (fun _ h => h) hkF fun b' hb' => ?_
   have hne : b' ≠ b := fun e2 => e (g5 i j _ _ b hi hj hbb (e2 ▸ hb'))
   exact ⟨hother b' hne, ((g4 p (List.mem_of_getElem? hj)).lt hb').2⟩
 ·intro j1 j2 p q b' h1 h2 hb1 hb2
  obtain ⟨p', k1, k2⟩ := hval j1 p h1
  obtain ⟨q', k3, k4⟩ := hval j2 q h2
  exact g5 j1 j2 p' q' b' k1 k3 (k2 ▸ hb1) (k4 ▸ hb2)
 ·intro p b' hp hb1
  obtain ⟨j, hj⟩ := List.getElem?_of_mem hp
  obtain ⟨p', k1, k2⟩ := hval j p hj
  exact g6 p' b' (List.mem_of_getElem? k1) (k2 ▸ hb1)
 ·rintro b' ⟨p, hp, hb1⟩
  obtain ⟨j, hj⟩ := List.getElem?_of_mem hp
  obtain ⟨p', k1, k2⟩ := hval j p hj
  exact .inr ⟨p', List.mem_of_getElem? k1, k2 ▸ hb1⟩

theorem op_store {t : Nat} {ti : TI} {x y : Operand} {s1 s2 : S} (ht : TIok P T t ti) (hr : Rp F φ X w h) (hX : ∀ b, w.heap.size ≤ b → X b) (ho : o.op = .store t x y) (hx : RS F φ w (a.eval x) s1) (hy : RS F φ w (a.eval y) s2) (hk : aStore h ti s1 s2 k) (hc : Ct F φ w h N o a k K) : o.wp P a w K Q := by
 unfold aStore at hk
 generalize hev : a.eval x = cv at hx
 generalize hev2 : a.eval y = cy at hy
 split at hk
 ·rename_i l off
  cases hx with | c hv => cases hv with
   | tree hv => cases hv
   | ptr l off b hl =>
    split at hk
    ·rename_i cells tq hob
     split at hk
     ·rename_i vs hvs
      obtain ⟨hcs, hone⟩ := storable hr.one hy hvs
      cases hbl : Nat.beq vs.length ti.size && Nat.ble (off + vs.length) cells.length with
      | false => simp [hbl] at hk
      | true =>
       simp only [hbl, cond_true] at hk
       rw [Bool.and_eq_true] at hbl
       have e1 := beq_eqn hbl.1
       have e2 := Nat.le_of_ble_eq_true hbl.2
       obtain ⟨b', cs, E, h1, h2, h3, h4, h9⟩ := hr.objs l _ hob
       rw [hl] at h1; cases h1
       have hlc : cy.cells.toList.length = vs.length := hcs.1
       have hsz := ht.sizeOf w
       have hst := run_storeCells_at P b off E cy.cells.toList 0 cs w h3 (by have := h4.1; simp only [Array.length_toList] at this hlc ⊢; omega) hone
       have hnx : Nx F φ w h N [(l, .box (putL off vs cells) tq)] F φ (w.setRow b (cs.toList.take (off + 0) ++ cy.cells.toList ++ cs.toList.drop (off + 0 + cy.cells.toList.length)).toArray) := by
        refine Nx.set hr hob rfl (.inl (by simp [blkOf, hl, hb])) _ cs E h3 ?_
        have hkeep : ∀ (A : Array Value) b', F b' → (w.setRow b A).heap[b']? = w.heap[b']? := by
         intro A b' hF'
         exact setRow_other w b b' _ (fun e => h2 (e ▸ hF'))
        refine ⟨b, _, E, hl, h2, setRow_heap w b cs _ E (0, 0) h3, ?_, h9⟩
        rw [putL_eq _ _ _ e2, hlc]
        simp only [Nat.add_zero]
        exact (((h4.take off).append hcs).append (h4.drop (off + vs.length))).ups (fun _ h => h) (fun _ _ h => h) (hkeep _)
       refine wp_skip (w' := w.setRow b (cs.toList.take (off + 0) ++ cy.cells.toList ++ cs.toList.drop (off + 0 + cy.cells.toList.length)).toArray) ?_ (hc _ _ _ _ _ _ hnx (.bot _) hk)
       have hsz2 : cy.cells.size = ti.size := by rw [← e1, ← hlc]; simp
       simp [execOp, ho, hev, hev2, Instr.storeAt, Instr.sureAddr, storeVar, hsz, hsz2]
       rw [hst]
       simp [hsz2]
     ·exact hk.elim
    ·exact hk.elim
 ·rename_i l sz i off
  cases hx with | c hv => cases hv with
   | tree hv => cases hv
   | eptr l sz i off b n cap hl =>
    split at hk
    ·rename_i e sz' rows hob
     cases hq : Nat.beq sz' sz with
     | false => simp [hq] at hk
     | true =>
      simp only [hq, cond_true] at hk
      have := beq_eqn hq
      subst this
      split at hk
      ·rename_i vs hvs
       obtain ⟨hcs, hone⟩ := storable hr.one hy hvs
       obtain ⟨cs, hcs', hk⟩ := hk
       cases hbl : Nat.beq vs.length ti.size && Nat.ble (off + vs.length) sz' with
       | false => simp [hbl] at hk
       | true =>
        simp only [hbl, cond_true] at hk
        rw [Bool.and_eq_true] at hbl
        have e1 := beq_eqn hbl.1
        have e2 := Nat.le_of_ble_eq_true hbl.2
        have hsz := ht.sizeOf w
        have hlive := hr.objs l _ hob
        have hr0 : Rp F φ X w (fun l' => bif Nat.beq l' l then none else h l') := by
         have hh : ∀ l' ob, (bif Nat.beq l' l then none else h l') = some ob → l' ≠ l ∧ h l' = some ob := by
          intro l' ob hl'
          rw [beq_dec] at hl'
          by_cases e : l' = l
          ·simp [e] at hl'
          ·exact ⟨e, by simpa [e] using hl'⟩
         exact ⟨fun l' ob hl' => hr.objs l' ob (hh l' ob hl').2, fun l1 l2 o1 o2 b h1 h2 => hr.inj l1 l2 o1 o2 b (hh l1 o1 h1).2 (hh l2 o2 h2).2, fun l' ob b hl' => hr.inX l' ob b (hh l' ob hl').2, hr.bd, hr.one, hr.tb⟩
        obtain ⟨F1, ch, vs', hn1, hvs', hk, hsub⟩ := fz_sound (N := N) _ vs _ _ _ hr0 hX hcs hk
        have hlc : cy.cells.toList.length = vs.length := hcs.1
        have hlv : vs'.length = vs.length := by rw [← hvs'.1, hlc]
        have hnone : chGet ch l = none := by
         cases hc : chGet ch l with
         | none => rfl
         | some o' => have := hsub l (by rw [hc]; rfl); simp [beq_dec] at this
        have hn1' : Nx F φ w h N ch F1 φ w := by
         have hh : ∀ l' ob, (bif Nat.beq l' l then none else h l') = some ob → h l' = some ob := by
          intro l' ob hl'
          rw [beq_dec] at hl'
          by_cases e : l' = l
          ·simp [e] at hl'
          ·simpa [e] using hl'
         refine ⟨hn1.hF, hn1.hφ, hn1.nφ, hn1.os, hn1.tape, hn1.output, hn1.drawn, hn1.size, ?_, ?_, hn1.objs, ?_, hn1.inj⟩
         ·intro b hb' hne; exact (hne rfl).elim
         ·intro b hb'
          rcases hn1.nF b hb' with h1 | ⟨h1, h2 | ⟨l', ob, k1, k2⟩⟩
          ·exact .inl h1
          ·exact .inr ⟨h1, .inl h2⟩
          ·exact .inr ⟨h1, .inr ⟨l', ob, hh l' ob k1, k2⟩⟩
         ·intro l' ob b h1 h2 h3
          rcases hn1.own l' ob b h1 h2 h3 with h4 | ⟨l2, o2, k1, k2⟩
          ·exact .inl h4
          ·exact .inr ⟨l2, o2, hh l2 o2 k1, k2⟩
        have hr1 := hr.next hn1' hX
        have hob1 : updF h ch l = some (.row e sz' rows) := by unfold updF; rw [hnone]; exact hob
        rcases hr1.objs l _ hob1 with ⟨c, xs, g1, g2, ⟨g3, g3r⟩, g4, g5⟩ | ⟨h00, _⟩
        rotate_left
        ·subst h00; simp at hcs'
        rw [hl] at g1; cases g1
        rcases g3.2 with ⟨hv, _⟩ | ⟨g, cap', cur, hv, _, hh, hcap, hm, hszc, htake⟩
        ·cases hv
        ·cases hv
         have hil : i < rows.length := (List.getElem?_eq_some_iff.1 hcs').1
         have hxl : xs.length = rows.length * sz' := g3.1
         have hfit : i * sz' + off + vs.length ≤ rows.length * sz' := by
          have : (i + 1) * sz' ≤ rows.length * sz' := Nat.mul_le_mul_right _ hil
          rw [Nat.add_mul] at this; omega
         have hfit2 : rows.length * sz' ≤ cap * sz' := Nat.mul_le_mul_right _ hcap
         have hst := run_storeCells_at P b (i * sz' + off) e cy.cells.toList 0 cur w hh (by simp only [Array.length_toList] at hlc ⊢; omega) hone
         have hcsl : cs.length = sz' := g5 cs (List.mem_of_getElem? hcs')
         have hflat := flat_set g5 hcs' (off := off) (vs := vs') (by omega)
         have hfl : rows.flatten.length = rows.length * sz' := by rw [← g4.1, hxl]
         have hnx : Nx F1 φ w (updF h ch) N [(l, .row e sz' (rows.set i (putL off vs' cs)))] F1 φ (w.setRow b (cur.toList.take (i * sz' + off + 0) ++ cy.cells.toList ++ cur.toList.drop (i * sz' + off + 0 + cy.cells.toList.length)).toArray) := by
          refine Nx.set hr1 hob1 rfl (.inl (by cases cap with | zero => exact g3r.elim | succ => simp [blkOf, hl, hb])) _ cur e hh ?_
          have hkeep : ∀ (A : Array Value) b', F1 b' → (w.setRow b A).heap[b']? = w.heap[b']? := by
           intro A b' hF'
           exact setRow_other w b b' _ (fun e => g2 b (by cases cap with | zero => exact g3r.elim | succ => rfl) (e ▸ hF'))
          refine RO.mkrow (xs := xs.take (i * sz' + off) ++ cy.cells.toList ++ xs.drop (i * sz' + off + vs.length)) hl g2 ⟨?_, .inr ⟨b, cap, _, by rw [List.length_set], Nat.zero_le _, setRow_heap w b cur _ e (0, 0) hh, by simpa using hcap, hm, ?_, ?_⟩⟩ ?_ ?_
          ·simp only [List.length_append, List.length_take, List.length_drop, List.length_set, hlc]; omega
          ·simp only [List.size_toArray, List.length_append, List.length_take, List.length_drop, hlc, Array.length_toList, Nat.add_zero]; omega
          ·simp only [List.length_set, Nat.add_zero, hlc]
           rw [← htake]
           apply List.ext_getElem?
           intro p
           have hcs2 : cur.size = cap * sz' := hszc
           have hA : min (i * sz' + off) cur.size = i * sz' + off := by omega
           have hB : min (i * sz' + off) (min (rows.length * sz') cur.size) = i * sz' + off := by omega
           simp only [List.getElem?_take, List.getElem?_append, List.length_take, List.length_append, Array.length_toList, List.getElem?_drop, hlc, hA, hB, Nat.add_zero]
           by_cases q1 : p < i * sz' + off
           ·simp [q1, show p < rows.length * sz' by omega, show p < i * sz' + off + vs.length by omega]
           ·by_cases q2 : p < i * sz' + off + vs.length
            ·simp [q1, q2, show p < rows.length * sz' by omega]
            ·have hD : i * sz' + off + vs.length + (p - (i * sz' + off + vs.length)) = p := by omega
             simp only [q1, q2, if_false, hD]
          ·rw [hflat, putL_eq _ _ _ (by rw [hfl, hlv]; exact hfit), hlv]
           exact (((g4.take _).append hvs').append (g4.drop _)).mono fun _ _ hh => hh.up (fun _ h => h) (hkeep _)
          ·intro r hr'
           rcases List.mem_or_eq_of_mem_set hr' with h6 | rfl
           ·exact g5 r h6
           ·rw [putL_eq _ _ _ (by omega)]; simp; omega
         refine wp_skip (w' := w.setRow b (cur.toList.take (i * sz' + off + 0) ++ cy.cells.toList ++ cur.toList.drop (i * sz' + off + 0 + cy.cells.toList.length)).toArray) ?_ (hc _ _ _ _ _ _ (Nx.trans hr hX hn1' hnx) (.bot _) hk)
         have hsz2 : cy.cells.size = ti.size := by rw [← e1, ← hlc]; simp
         simp [execOp, ho, hev, hev2, Instr.storeAt, Instr.sureAddr, storeVar, hsz, hsz2]
         rw [hst]
         simp [hsz2]
      ·exact hk.elim
    ·exact hk.elim
 ·rename_i l i sz j off c
  cases hx with | c hv => cases hv with
   | tree hv => cases hv
   | iptr l i sz j off b n cap =>
    split at hk
    ·rename_i e e2 sz' ins hob
     cases hq : Nat.beq sz' sz with
     | false => simp [hq] at hk
     | true =>
      simp only [hq, cond_true] at hk
      have := beq_eqn hq
      subst this
      split at hk
      ·rename_i vs hvs
       obtain ⟨hcs, hone⟩ := storable hr.one hy hvs
       obtain ⟨rows, hi, cs, hcs', hk⟩ := hk
       cases hbl : Nat.beq vs.length ti.size && Nat.ble (off + vs.length) sz' with
       | false => simp [hbl] at hk
       | true =>
        simp only [hbl, cond_true] at hk
        rw [Bool.and_eq_true] at hbl
        have e1 := beq_eqn hbl.1
        have e3 := Nat.le_of_ble_eq_true hbl.2
        have hsz := ht.sizeOf w
        obtain ⟨F1, ch, vs', hn1, hvs', hk, hsub⟩ := fz_sound (N := N) _ vs _ _ _ (hr.less (l := l)) hX hcs hk
        have hlc : cy.cells.toList.length = vs.length := hcs.1
        have hlv : vs'.length = vs.length := by rw [← hvs'.1, hlc]
        have hnone : chGet ch l = none := by
         cases hc : chGet ch l with
         | none => rfl
         | some o' => have := hsub l (by rw [hc]; rfl); simp [beq_dec] at this
        have hn1' : Nx F φ w h N ch F1 φ w := hn1.unless
        have hr1 := hr.next hn1' hX
        have hob1 : updF h ch l = some (.grid e e2 sz' ins) := by unfold updF; rw [hnone]; exact hob
        obtain ⟨c0, g1, g2, g3, g4, _⟩ := hr1.objs l _ hob1
        obtain ⟨cur, hh, hbb, hfit, hra⟩ := row_store (g4 _ (List.mem_of_getElem? hi)) hcs' hvs' (off := off) (by omega)
        have hst := run_storeCells_at P b (j * sz' + off) e2 cy.cells.toList 0 cur w hh (by simp only [Array.length_toList] at hfit ⊢; omega) hone
        have hnx := grid_set (N := N) hr1 hob1 hi hbb hh hra
        refine wp_skip (w' := w.setRow b (cur.toList.take (j * sz' + off + 0) ++ cy.cells.toList ++ cur.toList.drop (j * sz' + off + 0 + cy.cells.toList.length)).toArray) ?_ (hc _ _ _ _ _ _ (Nx.trans hr hX hn1' hnx) (.bot _) hk)
        have hsz2 : cy.cells.size = ti.size := by rw [← e1, ← hlc]; simp
        simp [execOp, ho, hev, hev2, Instr.storeAt, Instr.sureAddr, storeVar, hsz, hsz2]
        rw [hst]
        simp [hsz2]
      ·exact hk.elim
    ·exact hk.elim
 ·exact hk.elim

end
end Abs
end Go.Proofs.YtkefgcleaalnnaaGreat
