/- Each operation does what the abstract walk says (values made and taken apart). -/
import Derived.Test.YtkefgcleaalnnaaGreatAbsP
import Derived.Laws.Tables
namespace Go.Proofs.YtkefgcleaalnnaaGreat
set_option linter.unusedVariables false
set_option linter.unusedSimpArgs false
namespace Abs

section
variable {P : Program} {T : List (Nat × TI)} {F : Nat → Prop} {φ : Nat → Option Value} {X : Nat → Prop} {w : World} {h : Nat → Option Ob} {id : Nat} {N : Nat → Prop} {a : Act} {o : Oper} {k : S → Ch → Prop} {K : Act → World → Prop} {Q : Exit → Act → World → Prop} {PC : Nat → List S → List Ob → (S → List Ob → Prop) → Prop} {mt : List Nat}

theorem withT2_inv (hT : TabOK P T) {t : Nat} {k : TI → Prop} (hk : withT2 T t k) : ∃ ti, TIok P T t ti ∧ k ti := by
 unfold withT2 at hk
 split at hk
 ·rename_i ti hti; exact ⟨ti, hT t ti hti, hk⟩
 ·exact hk.elim
theorem elemTIe_inv2 (hT : TabOK P T) {t : Nat} {k : Nat → TI → Prop} (hk : elemTIe T t k) : ∃ e ei, P.underlying t = some (.slice e) ∧ TIok P T e ei ∧ 0 < ei.size ∧ k e ei := by
 unfold elemTIe at hk
 split at hk
 ·rename_i ti hti
  obtain ⟨i, z, d, hi, h1, h2, h3, h4, h5, hd, hkd⟩ := hT t ti hti
  split at hk
  ·rename_i e he
   simp only [he] at hkd
   subst hkd
   split at hk
   ·rename_i ei hei
    cases hb : Nat.blt 0 ei.size with
    | false => simp [hb] at hk
    | true =>
     simp only [hb, cond_true] at hk
     exact ⟨e, ei, hd, hT e ei hei, by simpa [Nat.blt_eq] using hb, hk⟩
   ·exact hk.elim
  ·exact hk.elim
 ·exact hk.elim

theorem op_nilCheck {x : Operand} {s : S} (ho : o.op = .nilCheck x) (hx : RS F φ w (a.eval x) s) (hk : aNilCheck s k) (hc : Ct F φ w h N o a k K) : o.wp P a w K Q := by
 unfold aNilCheck at hk
 generalize hev : a.eval x = cv at hx
 split at hk
 ·rename_i l off
  cases hx with | c hv => cases hv with
   | tree hv => cases hv
   | ptr l off b hl => exact ct_same hc (.c (.ptr l off b hl)) hk (by simp [execOp, ho, hev])
 ·rename_i cells
  cases hx with | c hv => cases hv with | tree hv => cases hv with
   | cptr b off cells f hF hx hr' => exact ct_same hc (.c (.tree (.cptr b off cells f hF hx hr'))) hk (by simp [execOp, ho, hev])
 ·rename_i l sz i off
  cases hx with | c hv => cases hv with
   | tree hv => cases hv
   | eptr l sz i off b n cap hl => exact ct_same hc (.c (.eptr l sz i off b n cap hl)) hk (by simp [execOp, ho, hev])
 ·rename_i l i sz j off c
  cases hx with | c hv => cases hv with
   | tree hv => cases hv
   | iptr l i sz j off b n cap => exact ct_same hc (.c (.iptr l i sz j off b n cap)) hk (by simp [execOp, ho, hev])
 ·rename_i f caps
  cases hx with | c hv => cases hv with
   | tree hv => cases hv
   | fn f caps cs hl hh => exact ct_same hc (.c (.fn f caps cs hl hh)) hk (by simp [execOp, ho, hev])
 ·exact hk.elim

theorem oneV_sound : ∀ (cs : List Value) (ss : List S) (vs : List V), P2 (RS F φ w) cs ss → oneV ss = some vs → P2 (RV F φ w) cs vs
 | cs, [], vs, hp, h => by simp [oneV] at h; subst h; rw [hp.nil_inv]; exact P2.nil
 | cs, s :: r, vs, hp, h => by
  obtain ⟨c, cs', rfl, h1, h2⟩ := hp.cons_inv
  cases s with
  | c v =>
   simp only [oneV] at h
   split at h
   ·rename_i vs' hvs
    cases h
    cases h1 with | c hv => exact P2.cons hv (oneV_sound cs' r vs' h2 hvs)
   ·cases h
  | agg => simp [oneV] at h
  | tup => simp [oneV] at h
  | bot => simp [oneV] at h

theorem op_makeFunc {f : Nat} {first cap : Array Operand} {ss : List S} {vs : List V} (ho : o.op = .makeFunc (.func f) first cap) (hf : first = #[]) (hx : P2 (RS F φ w) (cap.toList.map a.eval) ss) (hv : oneV ss = some vs) (hk : k (.c (.fn f vs)) []) (hc : Ct F φ w h N o a k K) : o.wp P a w K Q := by
 have hp := oneV_sound _ _ _ hx hv
 subst hf
 refine ct_same hc (.c (.fn f vs (cap.map a.eval) ?_ ?_)) hk (by simp [execOp, ho, Instr.makeFunc])
 ·rw [← hp.1]; simp
 ·intro j c v h1 h2
  exact hp.2 j c v (by simpa using h1) h2

theorem op_convert {src dst : TypeId} {si di : TI} {x : Operand} {s : S} (hs : TIok P T src si) (hd : TIok P T dst di) (ho : o.op = .convert src dst x) (hx : RS F φ w (a.eval x) s) (hk : aConvert si.kind di.kind s k) (hc : Ct F φ w h N o a k K) : o.wp P a w K Q := by
 obtain ⟨_, _, d1, _, _, _, _, _, _, hd1, hk1⟩ := hs
 obtain ⟨_, _, d2, _, _, _, _, _, _, hd2, hk2⟩ := hd
 unfold aConvert at hk
 split at hk
 ·rename_i k1 k2 e1 e2
  simp only [e1] at hk1
  simp only [e2] at hk2
  subst hk1 hk2
  split at hk
  ·have e := hx.int_inv
   exact ct_same hc (RS.mki _ _) hk (by simp [execOp, ho, e, Go.convert, run_underlying hd1, run_underlying hd2, Conv.intToInt])
  ·exact hk.elim
 ·rename_i k1 e1 e2
  simp only [e1] at hk1
  simp only [e2] at hk2
  subst hk1 hk2
  split at hk
  ·have e := hx.int_inv
   exact ct_same hc (.c (.tree (.str _))) hk (by simp [execOp, ho, e, Go.convert, run_underlying hd1, run_underlying hd2, Conv.intToString])
  ·exact hk.elim
 ·rename_i e1 e2
  simp only [e1] at hk1
  simp only [e2] at hk2
  subst hk1 hk2
  split at hk
  ·have e := hx.str_inv
   exact ct_same hc (.c (.tree (.str _))) hk (by simp [execOp, ho, e, Go.convert, run_underlying hd1, run_underlying hd2])
  ·exact hk.elim
 ·exact hk.elim

theorem part_at {t : Nat} {ti : TI} (ht : TIok P T t ti) {cs : Array Value} {off : Nat} {vs : List V} (hx : P2 (RV F φ w) cs.toList vs) {k : S → Prop} (hk : mkS ti (dropN off vs) k) :
  ∃ c s, (part t cs off).run P w = .ok c w ∧ RS F φ w c s ∧ k s := by
 unfold mkS at hk
 have hag := ht.isAgg w
 have hsz := ht.sizeOf w
 rw [dropN_eq] at hk
 cases hA : isAggK ti.kind with
 | true =>
  simp only [hA, cond_true] at hk
  cases hle : Nat.ble ti.size (vs.drop off).length with
  | false => simp only [hle, cond_false] at hk
  | true =>
   simp only [hle, cond_true] at hk
   have hle' : ti.size ≤ (vs.drop off).length := Nat.le_of_ble_eq_true hle
   rw [List.length_drop] at hle'
   refine ⟨.agg (cs.extract off (off + ti.size)), .agg (takeN ti.size (vs.drop off)), ?_, ?_, hk⟩
   ·simp [part, hag, hA, hsz]
   ·refine .agg _ _ ⟨?_, fun j x v h1 h2 => ?_⟩
    ·have := hx.1
     rw [takeN_len _ _ (by rw [List.length_drop]; exact hle')]
     simp at this ⊢; omega
    ·have hj : j < ti.size := by
      have := (List.getElem?_eq_some_iff.1 h2).1
      rwa [takeN_len _ _ (by rw [List.length_drop]; exact hle')] at this
     rw [takeN_get _ _ _ hj, List.getElem?_drop] at h2
     refine hx.2 (off + j) x v ?_ h2
     simp only [Array.toList_extract, List.extract_eq_take_drop, List.getElem?_take, List.getElem?_drop] at h1
     split at h1
     ·exact h1
     ·cases h1
 | false =>
  simp only [hA, cond_false] at hk
  split at hk
  ·rename_i v r hv
   have hv' : vs[off]? = some v := by
    have := congrArg (fun l => l[0]?) hv
    simpa using this
   obtain ⟨c, hc, hr⟩ := hx.get hv'
   refine ⟨c, .c v, ?_, .c hr, hk⟩
   have : cs[off]? = some c := by simpa using hc
   simp [part, hag, hA, this]
  ·exact hk.elim

theorem op_field {t f : Nat} {ti : TI} {x : Operand} {s : S} (hT : TabOK P T) (ht : TIok P T t ti) (ho : o.op = .field t x f) (hx : RS F φ w (a.eval x) s) (hk : aField T ti f s k) (hc : Ct F φ w h N o a k K) : o.wp P a w K Q := by
 obtain ⟨i, z, d, hi, h1, h2, h3, h4, h5, hd, hkd⟩ := ht
 unfold aField at hk
 generalize hev : a.eval x = cv at hx
 split at hk
 ·rename_i fs hfs
  simp only [hfs] at hkd
  obtain ⟨fields, rfl, _, hf⟩ := hkd
  split at hk
  ·rename_i fo hfo
   obtain ⟨fld, i', hg1, hg2, hg3, hg4, hg5⟩ := hf f fo hfo
   split at hk
   ·rename_i cells
    cases hx with | agg cs vs hp =>
    obtain ⟨fi, hfi, hk⟩ := withT2_inv hT hk
    obtain ⟨c, s', hrun, hs, hks⟩ := part_at hfi hp hk
    refine ct_same hc hs hks ?_
    simp [execOp, ho, hev, Instr.field, run_underlying hd, hg1, asAgg, hg2, hg3, hrun]
   ·exact hk.elim
  ·exact hk.elim
 ·exact hk.elim

theorem op_index {t : Nat} {ti : TI} {x y : Operand} {s s2 : S} (hT : TabOK P T) (ht : TIok P T t ti) (ho : o.op = .index t x y) (hx : RS F φ w (a.eval x) s) (hy : RS F φ w (a.eval y) s2) (hk : aIndex T ti s s2 k) (hc : Ct F φ w h N o a k K) : o.wp P a w K Q := by
 obtain ⟨i, z, d, hi, h1, h2, h3, h4, h5, hd, hkd⟩ := ht
 unfold aIndex at hk
 generalize hev : a.eval x = cv at hx
 split at hk
 ·rename_i ki n
  have e2 := hy.int_inv
  split at hk
  ·rename_i hks
   simp only [hks] at hkd
   subst hkd
   split at hk
   ·rename_i str
    have e := hx.str_inv
    subst e
    obtain ⟨hb, hk⟩ := hk
    refine ct_same hc (RS.mki _ _) hk ?_
    simp only [execOp, ho, hev, e2, Sem.run_bind, run_index_string w t str ki n hd, dif_pos hb, Result.andThen_ok, Sem.run_pure]
    have hlt : n.toNat < str.size := by omega
    have : str.data.getD n.toNat 0 = str[n.toNat] := by
     have h2 : n.toNat < str.data.size := hlt
     simp only [Array.getD]; rw [dif_pos h2]; rfl
    rw [byteAt, this]
   ·exact hk.elim
  ·rename_i m e hks
   simp only [hks] at hkd
   subst hkd
   split at hk
   ·rename_i cells
    cases hx with | agg cs vs hp =>
    obtain ⟨hb, hk⟩ := hk
    obtain ⟨ei, hei, hk⟩ := withT2_inv hT hk
    obtain ⟨c, s', hrun, hs, hks'⟩ := part_at hei hp hk
    refine ct_same hc hs hks' ?_
    simp [execOp, ho, hev, e2, Instr.index, asIntOf, run_underlying hd, hb, hei.sizeOf w, hrun]
   ·exact hk.elim
  ·exact hk.elim
 ·exact hk.elim
end
end Abs
end Go.Proofs.YtkefgcleaalnnaaGreat
