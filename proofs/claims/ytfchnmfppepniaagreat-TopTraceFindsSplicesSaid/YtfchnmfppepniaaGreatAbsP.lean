/- Stores; aggregates, parts, conversions, function values. -/
import Derived.Test.YtfchnmfppepniaaGreatAbsH
namespace Go.Proofs.YtfchnmfppepniaaGreat
set_option linter.unusedVariables false
set_option linter.unusedSimpArgs false
namespace Abs

theorem flat_set {sz : Nat} : ∀ {rows : List (List V)} (hz : ∀ r ∈ rows, r.length = sz) {i : Nat} {cs : List V} {off : Nat} {vs : List V}, rows[i]? = some cs → off + vs.length ≤ sz → (rows.set i (putL off vs cs)).flatten = putL (i * sz + off) vs rows.flatten
  | [], _, i, cs, off, vs, h, _ => by simp at h
  | r0 :: rest, hz, 0, cs, off, vs, h, hl => by
    simp at h; subst h
    have h0 := hz r0 (by simp)
    simp only [List.set_cons_zero, List.flatten_cons, Nat.zero_mul, Nat.zero_add]
    rw [putL_eq _ _ _ (by omega), putL_eq _ _ _ (by simp; omega)]
    rw [List.take_append_of_le_length (by omega), List.drop_append_of_le_length (by omega)]
    simp
  | r0 :: rest, hz, i + 1, cs, off, vs, h, hl => by
    have h0 := hz r0 (by simp)
    have hz' : ∀ r ∈ rest, r.length = sz := fun r hr => hz r (by simp [hr])
    have ih := flat_set hz' (i := i) (off := off) (vs := vs) (by simpa using h) hl
    have hfl : ∀ (rs : List (List V)), (∀ r ∈ rs, r.length = sz) → rs.flatten.length = rs.length * sz := by
      intro rs
      induction rs with
      | nil => intro _; simp
      | cons r t ih => intro hz; simp only [List.flatten_cons, List.length_append, List.length_cons, ih (fun r hr => hz r (by simp [hr])), hz r (by simp), Nat.add_mul]; omega
    have hil : i < rest.length := (List.getElem?_eq_some_iff.1 (show rest[i]? = some cs by simpa using h)).1
    have hfit : i * sz + off + vs.length ≤ rest.flatten.length := by
      rw [hfl rest hz']
      have : (i + 1) * sz ≤ rest.length * sz := Nat.mul_le_mul_right _ hil
      rw [Nat.add_mul] at this; omega
    simp only [List.set_cons_succ, List.flatten_cons, ih]
    rw [putL_eq _ _ _ hfit, putL_eq _ _ _ (by rw [List.length_append, Nat.add_mul]; omega)]
    have e1 : (i + 1) * sz + off = r0.length + (i * sz + off) := by rw [h0, Nat.add_mul]; omega
    rw [e1, List.take_length_add_append, Nat.add_assoc r0.length, List.drop_length_add_append]
    simp

section
variable {P : Program} {T : List (Nat × TI)} {F : Nat → Prop} {φ : Nat → Option Value} {X : Nat → Prop} {w : World} {h : Nat → Option Ob} {id : Nat} {N : Nat → Prop} {a : Act} {o : Oper} {k : S → Ch → Prop} {K : Act → World → Prop} {Q : Exit → Act → World → Prop} {PC : Nat → List S → List Ob → (S → List Ob → Prop) → Prop} {mt : List Nat}

theorem op_store {t : Nat} {ti : TI} {x y : Operand} {s1 s2 : S} (ht : TIok P T t ti) (hr : Rp F φ X w h) (hX : ∀ b, w.heap.size ≤ b → X b) (ho : o.op = .store t x y) (hx : RS F φ w (a.eval x) s1) (hy : RS F φ w (a.eval y) s2) (hk : aStore h ti s1 s2 k) (hc : Ct F φ w h N o a k K) : o.wp P a w K Q := by
  unfold aStore at hk
  generalize hev : a.eval x = cv at hx
  generalize hev2 : a.eval y = cy at hy
  split at hk
  · rename_i l off
    cases hx with | c hv => cases hv with
      | tree hv => cases hv
      | ptr l off b hl =>
        split at hk
        · rename_i cells tq hob
          split at hk
          · rename_i vs hvs
            obtain ⟨hcs, hone⟩ := storable hr.one hy hvs
            cases hbl : Nat.beq vs.length ti.size && Nat.ble (off + vs.length) cells.length with
            | false => simp [hbl] at hk
            | true =>
              simp only [hbl, cond_true] at hk
              rw [Bool.and_eq_true] at hbl
              have e1 := beq_eqn hbl.1
              have e2 := Nat.le_of_ble_eq_true hbl.2
              obtain ⟨b', cs, E, h1, h2, h3, h4, h9⟩ := hr.objs l _ hob
              rw [hl] at h1; cases h1
              have hlc : cy.cells.toList.length = vs.length := hcs.1
              have hsz := ht.sizeOf w
              have hst := run_storeCells_at P b off E cy.cells.toList 0 cs w h3 (by have := h4.1; simp only [Array.length_toList] at this hlc ⊢; omega) hone
              have hnx : Nx F φ w h N [(l, .box (putL off vs cells) tq)] F φ (w.setRow b (cs.toList.take (off + 0) ++ cy.cells.toList ++ cs.toList.drop (off + 0 + cy.cells.toList.length)).toArray) := by
                refine Nx.set hr hob rfl (by simp [blkOf, hl, hb]) _ cs E h3 ?_
                have hkeep : ∀ (A : Array Value) b', F b' → (w.setRow b A).heap[b']? = w.heap[b']? := by
                  intro A b' hF'
                  exact setRow_other w b b' _ (fun e => h2 (e ▸ hF'))
                refine ⟨b, _, E, hl, h2, setRow_heap w b cs _ E (0, 0) h3, ?_, h9⟩
                rw [putL_eq _ _ _ e2, hlc]
                simp only [Nat.add_zero]
                exact (((h4.take off).append hcs).append (h4.drop (off + vs.length))).ups (fun _ h => h) (fun _ _ h => h) (hkeep _)
              refine wp_skip (w' := w.setRow b (cs.toList.take (off + 0) ++ cy.cells.toList ++ cs.toList.drop (off + 0 + cy.cells.toList.length)).toArray) ?_ (hc _ _ _ _ _ _ hnx (.bot _) hk)
              have hsz2 : cy.cells.size = ti.size := by rw [← e1, ← hlc]; simp
              simp [execOp, ho, hev, hev2, Instr.storeAt, Instr.sureAddr, storeVar, hsz, hsz2]
              rw [hst]
              simp [hsz2]
          · exact hk.elim
        · exact hk.elim
  · rename_i l sz i off
    cases hx with | c hv => cases hv with
      | tree hv => cases hv
      | eptr l sz i off b n cap hl =>
        split at hk
        · rename_i e sz' rows hob
          cases hq : Nat.beq sz' sz with
          | false => simp [hq] at hk
          | true =>
            simp only [hq, cond_true] at hk
            have := beq_eqn hq
            subst this
            split at hk
            · rename_i vs hvs
              obtain ⟨hcs, hone⟩ := storable hr.one hy hvs
              obtain ⟨cs, hcs', hk⟩ := hk
              cases hbl : Nat.beq vs.length ti.size && Nat.ble (off + vs.length) sz' with
              | false => simp [hbl] at hk
              | true =>
                simp only [hbl, cond_true] at hk
                rw [Bool.and_eq_true] at hbl
                have e1 := beq_eqn hbl.1
                have e2 := Nat.le_of_ble_eq_true hbl.2
                have hsz := ht.sizeOf w
                -- what is stored becomes data, while the row itself is left alone
                have hlive := hr.objs l _ hob
                have hr0 : Rp F φ X w (fun l' => bif Nat.beq l' l then none else h l') := by
                  have hh : ∀ l' ob, (bif Nat.beq l' l then none else h l') = some ob → l' ≠ l ∧ h l' = some ob := by
                    intro l' ob hl'
                    rw [beq_dec] at hl'
                    by_cases e : l' = l
                    · simp [e] at hl'
                    · exact ⟨e, by simpa [e] using hl'⟩
                  exact ⟨fun l' ob hl' => hr.objs l' ob (hh l' ob hl').2, fun l1 l2 o1 o2 b h1 h2 => hr.inj l1 l2 o1 o2 b (hh l1 o1 h1).2 (hh l2 o2 h2).2, fun l' ob b hl' => hr.inX l' ob b (hh l' ob hl').2, hr.bd, hr.one, hr.tb⟩
                obtain ⟨F1, ch, vs', hn1, hvs', hk, hsub⟩ := fz_sound (N := N) _ vs _ _ _ hr0 hX hcs hk
                have hlc : cy.cells.toList.length = vs.length := hcs.1
                have hlv : vs'.length = vs.length := by rw [← hvs'.1, hlc]
                have hnone : chGet ch l = none := by
                  cases hc : chGet ch l with
                  | none => rfl
                  | some o' => have := hsub l (by rw [hc]; rfl); simp [beq_dec] at this
                have hn1' : Nx F φ w h N ch F1 φ w := by
                  have hh : ∀ l' ob, (bif Nat.beq l' l then none else h l') = some ob → h l' = some ob := by
                    intro l' ob hl'
                    rw [beq_dec] at hl'
                    by_cases e : l' = l
                    · simp [e] at hl'
                    · simpa [e] using hl'
                  refine ⟨hn1.hF, hn1.hφ, hn1.nφ, hn1.os, hn1.tape, hn1.output, hn1.drawn, hn1.size, ?_, ?_, hn1.objs, ?_, hn1.inj⟩
                  · intro b hb' hne; exact (hne rfl).elim
                  · intro b hb'
                    rcases hn1.nF b hb' with h1 | ⟨h1, h2 | ⟨l', ob, k1, k2⟩⟩
                    · exact .inl h1
                    · exact .inr ⟨h1, .inl h2⟩
                    · exact .inr ⟨h1, .inr ⟨l', ob, hh l' ob k1, k2⟩⟩
                  · intro l' ob b h1 h2 h3
                    rcases hn1.own l' ob b h1 h2 h3 with h4 | ⟨l2, o2, k1, k2⟩
                    · exact .inl h4
                    · exact .inr ⟨l2, o2, hh l2 o2 k1, k2⟩
                have hr1 := hr.next hn1' hX
                have hob1 : updF h ch l = some (.row e sz' rows) := by unfold updF; rw [hnone]; exact hob
                rcases hr1.objs l _ hob1 with ⟨c, xs, g1, g2, ⟨g3, g3r⟩, g4, g5⟩ | ⟨h00, _⟩
                rotate_left
                · subst h00; simp at hcs'
                rw [hl] at g1; cases g1
                rcases g3.2 with ⟨hv, _⟩ | ⟨g, cap', cur, hv, _, hh, hcap, hm, hszc, htake⟩
                · cases hv
                · cases hv
                  have hil : i < rows.length := (List.getElem?_eq_some_iff.1 hcs').1
                  have hxl : xs.length = rows.length * sz' := g3.1
                  have hfit : i * sz' + off + vs.length ≤ rows.length * sz' := by
                    have : (i + 1) * sz' ≤ rows.length * sz' := Nat.mul_le_mul_right _ hil
                    rw [Nat.add_mul] at this; omega
                  have hfit2 : rows.length * sz' ≤ cap * sz' := Nat.mul_le_mul_right _ hcap
                  have hst := run_storeCells_at P b (i * sz' + off) e cy.cells.toList 0 cur w hh (by simp only [Array.length_toList] at hlc ⊢; omega) hone
                  have hcsl : cs.length = sz' := g5 cs (List.mem_of_getElem? hcs')
                  have hflat := flat_set g5 hcs' (off := off) (vs := vs') (by omega)
                  have hfl : rows.flatten.length = rows.length * sz' := by rw [← g4.1, hxl]
                  have hnx : Nx F1 φ w (updF h ch) N [(l, .row e sz' (rows.set i (putL off vs' cs)))] F1 φ (w.setRow b (cur.toList.take (i * sz' + off + 0) ++ cy.cells.toList ++ cur.toList.drop (i * sz' + off + 0 + cy.cells.toList.length)).toArray) := by
                    refine Nx.set hr1 hob1 rfl (by cases cap with | zero => exact g3r.elim | succ => simp [blkOf, hl, hb]) _ cur e hh ?_
                    have hkeep : ∀ (A : Array Value) b', F1 b' → (w.setRow b A).heap[b']? = w.heap[b']? := by
                      intro A b' hF'
                      exact setRow_other w b b' _ (fun e => g2 b (by cases cap with | zero => exact g3r.elim | succ => rfl) (e ▸ hF'))
                    refine RO.mkrow (xs := xs.take (i * sz' + off) ++ cy.cells.toList ++ xs.drop (i * sz' + off + vs.length)) hl g2 ⟨?_, .inr ⟨b, cap, _, by rw [List.length_set], Nat.zero_le _, setRow_heap w b cur _ e (0, 0) hh, by simpa using hcap, hm, ?_, ?_⟩⟩ ?_ ?_
                    · simp only [List.length_append, List.length_take, List.length_drop, List.length_set, hlc]; omega
                    · simp only [List.size_toArray, List.length_append, List.length_take, List.length_drop, hlc, Array.length_toList, Nat.add_zero]; omega
                    · simp only [List.length_set, Nat.add_zero, hlc]
                      rw [← htake]
                      apply List.ext_getElem?
                      intro p
                      have hcs2 : cur.size = cap * sz' := hszc
                      have hA : min (i * sz' + off) cur.size = i * sz' + off := by omega
                      have hB : min (i * sz' + off) (min (rows.length * sz') cur.size) = i * sz' + off := by omega
                      simp only [List.getElem?_take, List.getElem?_append, List.length_take, List.length_append, Array.length_toList, List.getElem?_drop, hlc, hA, hB, Nat.add_zero]
                      by_cases q1 : p < i * sz' + off
                      · simp [q1, show p < rows.length * sz' by omega, show p < i * sz' + off + vs.length by omega]
                      · by_cases q2 : p < i * sz' + off + vs.length
                        · simp [q1, q2, show p < rows.length * sz' by omega]
                        · have hD : i * sz' + off + vs.length + (p - (i * sz' + off + vs.length)) = p := by omega
                          simp only [q1, q2, if_false, hD]
                    · rw [hflat, putL_eq _ _ _ (by rw [hfl, hlv]; exact hfit), hlv]
                      exact (((g4.take _).append hvs').append (g4.drop _)).mono fun _ _ hh => hh.up (fun _ h => h) (hkeep _)
                    · intro r hr'
                      rcases List.mem_or_eq_of_mem_set hr' with h6 | rfl
                      · exact g5 r h6
                      · rw [putL_eq _ _ _ (by omega)]; simp; omega
                  refine wp_skip (w' := w.setRow b (cur.toList.take (i * sz' + off + 0) ++ cy.cells.toList ++ cur.toList.drop (i * sz' + off + 0 + cy.cells.toList.length)).toArray) ?_ (hc _ _ _ _ _ _ (Nx.trans hr hX hn1' hnx) (.bot _) hk)
                  have hsz2 : cy.cells.size = ti.size := by rw [← e1, ← hlc]; simp
                  simp [execOp, ho, hev, hev2, Instr.storeAt, Instr.sureAddr, storeVar, hsz, hsz2]
                  rw [hst]
                  simp [hsz2]
            · exact hk.elim
        · exact hk.elim
  · exact hk.elim


end
end Abs
end Go.Proofs.YtfchnmfppepniaaGreat
