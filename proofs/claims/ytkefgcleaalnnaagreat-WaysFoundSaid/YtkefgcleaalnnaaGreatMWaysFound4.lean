/- Parts of the proof, in order. -/
import Derived.Test.YtkefgcleaalnnaaGreatMWaysFound3

namespace Go.Proofs.YtkefgcleaalnnaaGreat
set_option linter.unusedVariables false
set_option linter.unusedSimpArgs false
open Abs
set_option maxHeartbeats 4000000
set_option maxRecDepth 100000
theorem equalZ_nil : PCp 23 [.c (.lst 1 []), .c .nils] [] (.c (.bool true)) [] := equalS_nil [] rfl
theorem eqLyZ_nil : PCp 24 [.c (.lst 3 []), .c .nils, .c (.fn 25 [])] [] (.c (.bool true)) [] :=
 (eqFuncLyY_pc [] (by simp) (by simp)).wk (gs := [.c (.lst 3 []), .c .nils, .c (.fn 25 [])]) (P2.cons (.refl _) (P2.cons (.c (.nils 3)) (P2.cons (.refl _) P2.nil)))
theorem OptW.len {E : List Ed} (hE : EdsOk E) {fr to : ByteArray} {w : Wy} (h : OptW E fr to w) : w.1.length ≤ 2 * E.length := by
 obtain ⟨⟨W, hW, rfl⟩, hB⟩ := h
 obtain ⟨W0, h1, h2, h3⟩ := wk_cut hE hW
 have e := wLe_one (hB W0 h1) h3
 have := congrArg (fun z : Wy => z.1.length) e
 simp only [wyOf, List.length_map] at this ⊢
 omega
theorem rem_one {k : ByteArray} : ∀ {l : List Ly} {i : Nat} (hi : i < l.length), Rise Ly.cable l → l[i].cable = k → (l.filter fun x => !decide (x.cable = k)) = l.eraseIdx i
 | [], i, hi, _, _ => by simp at hi
 | a :: r, 0, _, hr, hk => by
  have hr2 := List.pairwise_cons.1 hr
  have hk' : a.cable = k := hk
  rw [List.filter_cons, if_neg (by simp [hk']), List.eraseIdx_cons_zero]
  exact List.filter_eq_self.2 (fun y hy => by
   have := ltB_ne (hr2.1 y hy)
   rw [hk'] at this
   have hn : ¬ y.cable = k := fun q => this q.symm
   simp [hn])
 | a :: r, i + 1, hi, hr, hk => by
  have hr2 := List.pairwise_cons.1 hr
  have hi' : i < r.length := by simpa using hi
  have hk' : r[i].cable = k := hk
  have hne : ¬ a.cable = k := by
   have := ltB_ne (hr2.1 _ (List.getElem_mem hi'))
   rw [hk'] at this; exact this
  rw [List.filter_cons, if_pos (by simp [hne]), List.eraseIdx_cons_succ, rem_one hi' hr2.2 hk']
theorem waysFound_pc (L : List Int) (hL : L.length ≤ 9223372036854775807) : PCp 3 [.c (.lst 1 (L.map encI))] [] (.c (.bool true)) [] := by
 have st0 : StOk L 0 := ⟨hL, by omega, by omega⟩
 refine fnP Tryz.func3 Tryz.results3 ?_
 conv => whnf
 skip
 refine .ex _ (pair_pc st0 (by omega)) ?_
 rintro _ _ ⟨d, l, p1, rfl, rfl, hd6, hl1, hx1, hp1, hp2⟩
 have hQ : ∀ x : Int, p1 ≤ x → x ≤ p1 + 100 → StOk L x := fun x h3 h4 => ⟨hL, by omega, by omega⟩
 have hx : ∀ x ∈ l, x.ducts.length ≤ 1000000 := fun x h => Nat.le_trans (hx1 x h) (by decide)
 conv => whnf
 repeat' (first | (refine  CallX.mk _ _ (by exact some_ok (hQ _ (by omega) (by omega)) [_, _, _, _] (by simp) (by simp)) ?_; conv => whnf) | fail)
 refine .ex _ (rOuter_pc (hQ _ (by omega) (by omega))) ?_
 rintro _ _ ⟨o, rfl, rfl⟩
 conv => whnf
 repeat' (first | (refine  CallX.mk _ _ (by exact some_ok (hQ _ (by omega) (by omega)) [_, _, _, _] (by simp) (by simp)) ?_; conv => whnf) | fail)
 generalize someV L p1 [⟨#[97]⟩, ⟨#[97]⟩, ⟨#[98]⟩, ⟨#[122, 122]⟩] = fr
 generalize someV L (p1 + 1) [⟨#[99]⟩, ⟨#[99]⟩, ⟨#[98]⟩, ⟨#[101]⟩] = to
 generalize someV L (p1 + 1 + 1 + 1) [⟨#[107, 57]⟩, ⟨#[107, 57]⟩, ⟨#[107, 49]⟩, ⟨#[65]⟩] = cable
 have cE1 := errs_pc [lyFault d l, endsErr d fr to o] (by simp)
 have cE2 := errs_pc [lyFault d l, if keyB cable then 0 else 5, if (decide (0 ≤ cabIx l cable)) = true then 6 else 0, endsErr d fr to o] (by simp)
 have cE3 := errs_pc [lyFault d l, if keyB cable then 0 else 5, if (decide (cabIx l cable < 0)) = true then 8 else 0] (by simp)
 have q2 : firstErr [lyFault d l, if keyB cable then 0 else 5, if (decide (0 ≤ cabIx l cable)) = true then 6 else 0, endsErr d fr to o] = twoW d l cable fr to o := by
  unfold twoW; by_cases h : 0 ≤ cabIx l cable <;> simp [h]
 have q3 : firstErr [lyFault d l, if keyB cable then 0 else 5, if (decide (cabIx l cable < 0)) = true then 8 else 0] = threeW d l cable := by
  unfold threeW; by_cases h : cabIx l cable < 0 <;> simp [h]
 rw [show firstErr [lyFault d l, endsErr d fr to o] = oneW d l fr to o from rfl] at cE1
 rw [q2] at cE2
 rw [q3] at cE3
 have cLF := rLyingFault_pc d l hx
 have cEF := endsF_pc d (by omega) fr to o
 have cNF := nameFault_pc cable
 have cCI := cableIn_pc l (by omega) cable
 by_cases hf : lyFault d l = 0
 ·have hok := lyFault_ok hf
  have cB := brokenX_pc d l hf
  have cBO := rBroken_pc d l hf
  have hbl := brk_len d l
  have eqB := equalS_same (brkV d l) (brkV d l) rfl (by omega)
  by_cases hE : endsErr d fr to o = 0
  ·have e1 : oneW d l fr to o = 0 := by unfold oneW; simp [firstErr, hf, hE]
   rw [e1] at cE1
   have ho0 := (ends_ok hE).2.2.2
   have ho : 0 ≤ o ∧ o ≤ 1000 := ⟨by omega, by omega⟩
   have cC := capS_pc d l hf fr to o hE
   have cCO := rCapS_pc d l hf fr to o hE hd6
   generalize capZ (netE (mostCap l o) d) fr to = cz at *
   by_cases hV : ∃ w, OptW (netE (fitCap l o) d) fr to w
   ·obtain ⟨w, hw⟩ := hV
    have hwl : w.1.length ≤ 1000 := by
     have h1 := hw.len (net_ok (du_of hf) (fitCap l o)).1
     have h2 := net_len (fitCap l o) d
     omega
    have cW := wayS_pc d l hf fr to o hE hw
    have cWO := rWayS_pc d l hf fr to o (by omega) ho hw
    have eqW := equalS_same w.1 w.1 rfl (by omega)
    cases hk : keyB cable with
    | false =>
     have e2 : twoW d l cable fr to o = 5 := by unfold twoW; simp [firstErr, hf, hk]
     have e3 : threeW d l cable = 5 := by unfold threeW; simp [firstErr, hf, hk]
     have cLd := laidErr_pc d l (by omega) (by omega) hx cable fr to o (by rw [e2]; decide)
     have cR := removedErr_pc d l (by omega) hx cable (by rw [e3]; decide)
     rw [e2] at cLd cE2
     rw [e3] at cR cE3
     repeat' (first | (refine .mk (fun h => ?_) (fun h => ?_) <;> (try simp only [qA, qB, qC, qD, qE, qF, qG, qH] at h) <;> (first | (exfalso; first | omega | exact h trivial | contradiction | (simp at h; done)) | (conv => whnf))) | (refine  CallX.mk _ _ (by first | exact cB | exact cBO | exact eqB | exact cLF | exact cEF | exact cNF | exact cCI | exact when_pc _ _ | exact cE1 | exact cE2 | exact cE3 | exact eqLyZ_nil | exact ducted_pc | exact cW | exact cC | exact cLd | exact cR | exact cWO | exact eqW | exact cCO) ?_; conv => whnf) | fail)
     all_goals first | exact finb rfl | exact .mk ⟨rfl, rfl⟩ | (exfalso; simp at h; done)
    | true =>
     rcases idxP_or (fun x : Ly => decide (x.cable = cable)) l with ⟨hix, hnone⟩ | ⟨i, hi, hix, hpi, _⟩
     ·have hcab : cabIx l cable = -1 := hix
      have e3 : threeW d l cable = 8 := by unfold threeW; simp [firstErr, hf, hk, hcab]
      have cR := removedErr_pc d l (by omega) hx cable (by rw [e3]; decide)
      rw [e3] at cR cE3
      have e2 : twoW d l cable fr to o = 0 := by unfold twoW; simp [firstErr, hf, hk, hcab, hE]
      rw [e2] at cE2
      have cLd := laidS_pc d l hf fr to o cable hk hcab (by omega) hE hw
      have cLO := rLaidS_pc d l hf fr to o (by omega) ho cable hcab (by omega) hw
      have eqL := eqFuncLyY_pc (midL l cable o w) (by unfold midL; simp; omega) (fun x hm => by
       unfold midL at hm
       rcases List.mem_append.1 hm with hm | hm
       ·rcases List.mem_append.1 hm with hm | hm
        ·exact hx x (List.mem_of_mem_take hm)
        ·rw [List.mem_singleton] at hm; subst hm
         show (insSort cmpS w.1).length ≤ _
         rw [(insSort_perm cmpS w.1).length_eq]; omega
       ·exact hx x (List.mem_of_mem_drop hm))
      repeat' (first | (refine .mk (fun h => ?_) (fun h => ?_) <;> (try simp only [qA, qB, qC, qD, qE, qF, qG, qH] at h) <;> (first | (exfalso; first | omega | exact h trivial | contradiction | (simp at h; done)) | (conv => whnf))) | (refine  CallX.mk _ _ (by first | exact cB | exact cBO | exact eqB | exact cLF | exact cEF | exact cNF | exact cCI | exact when_pc _ _ | exact cE1 | exact cE2 | exact cE3 | exact eqLyZ_nil | exact ducted_pc | exact cW | exact cC | exact cLd | exact cR | exact cLO | exact eqL | exact cWO | exact eqW | exact cCO) ?_; conv => whnf) | fail)
      all_goals first | exact finb rfl | exact .mk ⟨rfl, rfl⟩ | (exfalso; simp at h; done)
     ·have hcab : cabIx l cable = ((i : Nat) : Int) := hix
      have hci : 0 ≤ cabIx l cable := by omega
      have hcn : ¬ cabIx l cable < 0 := by omega
      have cR := removed_pc d l hf cable hk i hi hcab
      have cRO := rRemOf_pc l (by omega) cable
      rw [rem_one hi hok.rise (of_decide_eq_true hpi)] at cRO
      have eqR := eqFuncLyY_pc (l.eraseIdx i) (by rw [List.length_eraseIdx]; split <;> omega) (fun x hm => hx x (List.mem_of_mem_eraseIdx hm))
      have e2 : twoW d l cable fr to o = 6 := by unfold twoW; simp [firstErr, hf, hk, hci]
      have e3 : threeW d l cable = 0 := by unfold threeW; simp [firstErr, hf, hk, hcn]
      have cLd := laidErr_pc d l (by omega) (by omega) hx cable fr to o (by rw [e2]; decide)
      rw [e2] at cLd cE2
      rw [e3] at cE3
      repeat' (first | (refine .mk (fun h => ?_) (fun h => ?_) <;> (try simp only [qA, qB, qC, qD, qE, qF, qG, qH] at h) <;> (first | (exfalso; first | omega | exact h trivial | contradiction | (simp at h; done)) | (conv => whnf))) | (refine  CallX.mk _ _ (by first | exact cB | exact cBO | exact eqB | exact cLF | exact cEF | exact cNF | exact cCI | exact when_pc _ _ | exact cE1 | exact cE2 | exact cE3 | exact eqLyZ_nil | exact ducted_pc | exact cW | exact cC | exact cLd | exact cR | exact cRO | exact eqR | exact cWO | exact eqW | exact cCO) ?_; conv => whnf) | fail)
      all_goals first | exact finb rfl | exact .mk ⟨rfl, rfl⟩ | (exfalso; simp at h; done)
   ·have hw := hV
    have cW := wayN_pc d l hf fr to o hE hw
    have cWO := rWayN_pc d l hf fr to o (by omega) ho hw
    cases hk : keyB cable with
    | false =>
     have e2 : twoW d l cable fr to o = 5 := by unfold twoW; simp [firstErr, hf, hk]
     have e3 : threeW d l cable = 5 := by unfold threeW; simp [firstErr, hf, hk]
     have cLd := laidErr_pc d l (by omega) (by omega) hx cable fr to o (by rw [e2]; decide)
     have cR := removedErr_pc d l (by omega) hx cable (by rw [e3]; decide)
     rw [e2] at cLd cE2
     rw [e3] at cR cE3
     repeat' (first | (refine .mk (fun h => ?_) (fun h => ?_) <;> (try simp only [qA, qB, qC, qD, qE, qF, qG, qH] at h) <;> (first | (exfalso; first | omega | exact h trivial | contradiction | (simp at h; done)) | (conv => whnf))) | (refine  CallX.mk _ _ (by first | exact cB | exact cBO | exact eqB | exact cLF | exact cEF | exact cNF | exact cCI | exact when_pc _ _ | exact cE1 | exact cE2 | exact cE3 | exact equalZ_nil | exact eqLyZ_nil | exact ducted_pc | exact cW | exact cC | exact cLd | exact cR | exact cWO | exact cCO) ?_; conv => whnf) | fail)
     all_goals first | exact finb rfl | exact .mk ⟨rfl, rfl⟩ | (exfalso; simp at h; done)
    | true =>
     rcases idxP_or (fun x : Ly => decide (x.cable = cable)) l with ⟨hix, hnone⟩ | ⟨i, hi, hix, hpi, _⟩
     ·have hcab : cabIx l cable = -1 := hix
      have e3 : threeW d l cable = 8 := by unfold threeW; simp [firstErr, hf, hk, hcab]
      have cR := removedErr_pc d l (by omega) hx cable (by rw [e3]; decide)
      rw [e3] at cR cE3
      have e2 : twoW d l cable fr to o = 0 := by unfold twoW; simp [firstErr, hf, hk, hcab, hE]
      rw [e2] at cE2
      have cLd := laidN_pc d l hf fr to o cable hk hcab (by omega) hE hw
      have cLO := rLaidN_pc d l hf fr to o (by omega) ho cable hcab (by omega) hw
      have eqL := eqFuncLyY_pc [] (by simp) (by simp)
      repeat' (first | (refine .mk (fun h => ?_) (fun h => ?_) <;> (try simp only [qA, qB, qC, qD, qE, qF, qG, qH] at h) <;> (first | (exfalso; first | omega | exact h trivial | contradiction | (simp at h; done)) | (conv => whnf))) | (refine  CallX.mk _ _ (by first | exact cB | exact cBO | exact eqB | exact cLF | exact cEF | exact cNF | exact cCI | exact when_pc _ _ | exact cE1 | exact cE2 | exact cE3 | exact equalZ_nil | exact eqLyZ_nil | exact ducted_pc | exact cW | exact cC | exact cLd | exact cR | exact cLO | exact eqL | exact cWO | exact cCO) ?_; conv => whnf) | fail)
      all_goals first | exact finb rfl | exact .mk ⟨rfl, rfl⟩ | (exfalso; simp at h; done)
     ·have hcab : cabIx l cable = ((i : Nat) : Int) := hix
      have hci : 0 ≤ cabIx l cable := by omega
      have hcn : ¬ cabIx l cable < 0 := by omega
      have cR := removed_pc d l hf cable hk i hi hcab
      have cRO := rRemOf_pc l (by omega) cable
      rw [rem_one hi hok.rise (of_decide_eq_true hpi)] at cRO
      have eqR := eqFuncLyY_pc (l.eraseIdx i) (by rw [List.length_eraseIdx]; split <;> omega) (fun x hm => hx x (List.mem_of_mem_eraseIdx hm))
      have e2 : twoW d l cable fr to o = 6 := by unfold twoW; simp [firstErr, hf, hk, hci]
      have e3 : threeW d l cable = 0 := by unfold threeW; simp [firstErr, hf, hk, hcn]
      have cLd := laidErr_pc d l (by omega) (by omega) hx cable fr to o (by rw [e2]; decide)
      rw [e2] at cLd cE2
      rw [e3] at cE3
      repeat' (first | (refine .mk (fun h => ?_) (fun h => ?_) <;> (try simp only [qA, qB, qC, qD, qE, qF, qG, qH] at h) <;> (first | (exfalso; first | omega | exact h trivial | contradiction | (simp at h; done)) | (conv => whnf))) | (refine  CallX.mk _ _ (by first | exact cB | exact cBO | exact eqB | exact cLF | exact cEF | exact cNF | exact cCI | exact when_pc _ _ | exact cE1 | exact cE2 | exact cE3 | exact equalZ_nil | exact eqLyZ_nil | exact ducted_pc | exact cW | exact cC | exact cLd | exact cR | exact cRO | exact eqR | exact cWO | exact cCO) ?_; conv => whnf) | fail)
      all_goals first | exact finb rfl | exact .mk ⟨rfl, rfl⟩ | (exfalso; simp at h; done)
  ·have e1 : oneW d l fr to o = endsErr d fr to o := by unfold oneW; simp [firstErr, hf, hE]
   have cW := wayErr_pc d l (by omega) hx fr to o (by rw [e1]; exact hE)
   have cC := capErr_pc d l (by omega) hx fr to o (by rw [e1]; exact hE)
   rw [e1] at cW cC cE1
   cases hk : keyB cable with
   | false =>
    have e2 : twoW d l cable fr to o = 5 := by unfold twoW; simp [firstErr, hf, hk]
    have e3 : threeW d l cable = 5 := by unfold threeW; simp [firstErr, hf, hk]
    have cLd := laidErr_pc d l (by omega) (by omega) hx cable fr to o (by rw [e2]; decide)
    have cR := removedErr_pc d l (by omega) hx cable (by rw [e3]; decide)
    rw [e2] at cLd cE2
    rw [e3] at cR cE3
    repeat' (first | (refine .mk (fun h => ?_) (fun h => ?_) <;> (try simp only [qA, qB, qC, qD, qE, qF, qG, qH] at h) <;> (first | (exfalso; first | omega | exact h trivial | contradiction | (simp at h; done)) | (conv => whnf))) | (refine  CallX.mk _ _ (by first | exact cB | exact cBO | exact eqB | exact cLF | exact cEF | exact cNF | exact cCI | exact when_pc _ _ | exact cE1 | exact cE2 | exact cE3 | exact equalZ_nil | exact eqLyZ_nil | exact ducted_pc | exact cW | exact cC | exact cLd | exact cR) ?_; conv => whnf) | fail)
    all_goals first | exact finb rfl | exact .mk ⟨rfl, rfl⟩ | (exfalso; simp at h; done)
   | true =>
    rcases idxP_or (fun x : Ly => decide (x.cable = cable)) l with ⟨hix, hnone⟩ | ⟨i, hi, hix, hpi, _⟩
    ·have hcab : cabIx l cable = -1 := hix
     have e3 : threeW d l cable = 8 := by unfold threeW; simp [firstErr, hf, hk, hcab]
     have cR := removedErr_pc d l (by omega) hx cable (by rw [e3]; decide)
     rw [e3] at cR cE3
     have e2 : twoW d l cable fr to o = endsErr d fr to o := by unfold twoW; simp [firstErr, hf, hk, hcab, hE]
     have cLd := laidErr_pc d l (by omega) (by omega) hx cable fr to o (by rw [e2]; exact hE)
     rw [e2] at cLd cE2
     repeat' (first | (refine .mk (fun h => ?_) (fun h => ?_) <;> (try simp only [qA, qB, qC, qD, qE, qF, qG, qH] at h) <;> (first | (exfalso; first | omega | exact h trivial | contradiction | (simp at h; done)) | (conv => whnf))) | (refine  CallX.mk _ _ (by first | exact cB | exact cBO | exact eqB | exact cLF | exact cEF | exact cNF | exact cCI | exact when_pc _ _ | exact cE1 | exact cE2 | exact cE3 | exact equalZ_nil | exact eqLyZ_nil | exact ducted_pc | exact cW | exact cC | exact cLd | exact cR) ?_; conv => whnf) | fail)
     all_goals first | exact finb rfl | exact .mk ⟨rfl, rfl⟩ | (exfalso; simp at h; done)
    ·have hcab : cabIx l cable = ((i : Nat) : Int) := hix
     have hci : 0 ≤ cabIx l cable := by omega
     have hcn : ¬ cabIx l cable < 0 := by omega
     have cR := removed_pc d l hf cable hk i hi hcab
     have cRO := rRemOf_pc l (by omega) cable
     rw [rem_one hi hok.rise (of_decide_eq_true hpi)] at cRO
     have eqR := eqFuncLyY_pc (l.eraseIdx i) (by rw [List.length_eraseIdx]; split <;> omega) (fun x hm => hx x (List.mem_of_mem_eraseIdx hm))
     have e2 : twoW d l cable fr to o = 6 := by unfold twoW; simp [firstErr, hf, hk, hci]
     have e3 : threeW d l cable = 0 := by unfold threeW; simp [firstErr, hf, hk, hcn]
     have cLd := laidErr_pc d l (by omega) (by omega) hx cable fr to o (by rw [e2]; decide)
     rw [e2] at cLd cE2
     rw [e3] at cE3
     repeat' (first | (refine .mk (fun h => ?_) (fun h => ?_) <;> (try simp only [qA, qB, qC, qD, qE, qF, qG, qH] at h) <;> (first | (exfalso; first | omega | exact h trivial | contradiction | (simp at h; done)) | (conv => whnf))) | (refine  CallX.mk _ _ (by first | exact cB | exact cBO | exact eqB | exact cLF | exact cEF | exact cNF | exact cCI | exact when_pc _ _ | exact cE1 | exact cE2 | exact cE3 | exact equalZ_nil | exact eqLyZ_nil | exact ducted_pc | exact cW | exact cC | exact cLd | exact cR | exact cRO | exact eqR) ?_; conv => whnf) | fail)
     all_goals first | exact finb rfl | exact .mk ⟨rfl, rfl⟩ | (exfalso; simp at h; done)
 ·have e1 : oneW d l fr to o = lyFault d l := by unfold oneW; simp [firstErr, hf]
  have e2 : twoW d l cable fr to o = lyFault d l := by unfold twoW; simp [firstErr, hf]
  have e3 : threeW d l cable = lyFault d l := by unfold threeW; simp [firstErr, hf]
  have cW := wayErr_pc d l (by omega) hx fr to o (by rw [e1]; exact hf)
  have cC := capErr_pc d l (by omega) hx fr to o (by rw [e1]; exact hf)
  have cLd := laidErr_pc d l (by omega) (by omega) hx cable fr to o (by rw [e2]; exact hf)
  have cR := removedErr_pc d l (by omega) hx cable (by rw [e3]; exact hf)
  have cB := brokenE_pc d l hx hf
  rw [e1] at cW cC cE1
  rw [e2] at cLd cE2
  rw [e3] at cR cE3
  repeat' (first | (refine .mk (fun h => ?_) (fun h => ?_) <;> (try simp only [qA, qB, qC, qD, qE, qF, qG, qH] at h) <;> (first | (exfalso; first | omega | exact h trivial | contradiction | (simp at h; done)) | (conv => whnf))) | (refine  CallX.mk _ _ (by first | exact cW | exact cLd | exact cB | exact cR | exact cC | exact cLF | exact cEF | exact cNF | exact cCI | exact when_pc _ _ | exact cE1 | exact cE2 | exact cE3 | exact equalZ_nil | exact eqLyZ_nil | exact ducted_pc) ?_; conv => whnf) | fail)
  all_goals first | exact finb rfl | exact .mk ⟨rfl, rfl⟩ | (exfalso; simp at h; done)
end Go.Proofs.YtkefgcleaalnnaaGreat
