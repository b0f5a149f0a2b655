/- Parts of the proof, in order. -/
import Derived.Test.YtgomipfameinoaaGreatDoorMDuctTexts7

/- Lines read one by one, by a reader with two lists (ducts and cables): base.Each and spref2.Lines. -/
namespace Go.Proofs.YtgomipfameinoaaGreatDoor
set_option linter.unusedVariables false
set_option linter.unusedSimpArgs false
open Abs

abbrev duS : Type := List Du × List Ly
abbrev duO (d : List Du) (l : List Ly) : List Ob := [.box [.row 1], .row 56 3 (l.map encLy), .box [.row 3], .row 52 5 (d.map encDu)]
abbrev duR (s : duS) : List Ob := [.box [.row 2], .box [.row 3], .row 56 3 (s.2.map encLy), .row 52 5 (s.1.map encDu)]
def RdQ (d : List Du) (l : List Ly) (q : duS × Bool) (r : S) (os : List Ob) : Prop :=
  r = .c (.bool q.2) ∧ ((os = duO d l ∧ q.1 = (d, l)) ∨ (os = [.box [.row 4], .dead, .box [.row 3], .row 52 5 (d.map encDu), .row 56 3 (q.1.2.map encLy)] ∧ q.1.1 = d) ∨
    (os = [.box [.row 1], .row 56 3 (l.map encLy), .box [.row 4], .dead, .row 52 5 (q.1.1.map encDu)] ∧ q.1.2 = l))
def Rdr2 (g : Nat) (f : duS → List UInt8 → duS × Bool) : Prop :=
  ∀ (d : List Du) (l : List Ly) (line : List UInt8), d.length ≤ 999999 → l.length ≤ 999999 → line.length ≤ 999999 →
    PCq g [.c (.str (BL line)), .c (.ptr 0 0), .c (.ptr 2 0)] (duO d l) (RdQ d l (f (d, l) line))
set_option maxRecDepth 100000 in
set_option maxHeartbeats 4000000 in
theorem each2_pc (g : Nat) (f : duS → List UInt8 → duS × Bool) (hf : ∀ st x, (f st x).1.1.length + (f st x).1.2.length ≤ st.1.length + st.2.length + 1) (hC : Rdr2 g f) (tl : List UInt8) (hs : tl.length ≤ 200000) :
    PCp 70 [.c (.str (BL tl)), .c (.fn g [.ptr 0 0, .ptr 1 0])] [.box [.nils], .box [.nils]] (.tup [.c (.int .i64 ((goL f ([], []) 0 (spl 10 tl)).2.1 : Nat)), .c (.bool (goL f ([], []) 0 (spl 10 tl)).2.2)]) (duR (goL f ([], []) 0 (spl 10 tl)).1) := by
  have hE := lines_go f ([], []) tl
  have hb := linesV_bd tl
  have cL := bLines_pc (BL tl) (by rw [bl_size]; omega)
  have hx : (BL tl).data.toList = tl := by simp
  rw [hx] at cL
  unfold linesB at cL
  rw [← hE]
  generalize linesV tl = LL at *
  generalize endsV tl = en at *
  have hlm : ((LL.map BL).map encS).length = LL.length := by simp
  have hlm2 : (LL.map BL).length = LL.length := by simp
  refine fn_sound (mt := mts) tab_fits tab_mixed Tryz.func70 (by rfl) (by kernel_rfl) (by kernel_rfl) Tryz.results70 (Nat.le_of_ble_eq_true (by kernel_rfl)) ?_
  conv => whnf
  repeat' (first | ((first | refine Split.mk (fun h => ?_) (fun h => ?_) | refine CondG.mk (fun h => ?_) (fun h => ?_)) <;> (try simp only [decide_eq_true_eq, decide_eq_false_iff_not, Bool.not_eq_true', Bool.not_eq_false', beq_iff_eq, beq_eq_false_iff_ne, bne_iff_ne, bne_eq_false_iff_eq] at h) <;> (first | (exfalso; first | omega | exact h trivial) | (conv => whnf))) | (refine CallX.mk _ _ (by first | exact cL) ?_; conv => whnf) | (refine CallG.mk _ _ (by first | exact cL) ?_; conv => whnf) | (refine Ask.mk (by first | omega | (unfold roomOK; simp [cutRows]; done) | (unfold roomOK; simp [cutRows]; omega) | (simp [cutRows]; done) | (simp [cutRows]; omega)) ?_; conv => whnf) | (refine AppG.mk (by first | omega | (unfold roomOK; simp [cutRows]; done) | (unfold roomOK; simp [cutRows]; omega) | (simp [cutRows]; done) | (simp [cutRows]; omega)) ?_; conv => whnf) | (refine SliceG.fr ?_; conv => whnf) | (refine idx_at _ (by with_reducible rfl) (by first | assumption | omega) ?_; conv => whnf) | ((with_reducible refine row_map (by first | assumption | omega) ?_); conv => whnf) | ((with_reducible refine row_set (by first | assumption | omega | (simp only [List.length_set]; omega) | (simp; omega)) ?_); conv => whnf) | fail)
  refine loop_for2 (LL.length) [.ob 0 0 56 3, .ob 1 0 52 5] [1, 6, 7, 15, 16, 17] (fun k (d : List Du) (l : List Ly) => [(17, .c (.int .i64 (k : Int)))]) (fun k (d : List Du) (l : List Ly) => [(0, .box [.row 2]), (1, .box [.row 3]), (2, .row 56 3 (l.map encLy)), (3, .row 52 5 (d.map encDu))]) (fun k (d : List Du) (l : List Ly) => eachL f en (d, l) k (LL.drop k) = eachL f en ([], []) 0 LL ∧ d.length + l.length ≤ k) ([]) ([]) ?_
  conv => whnf
  refine ⟨(by first | rfl | (simp; done) | (simp; rfl)), ?_, ?_, ?_⟩
  · exact ⟨rfl, Nat.le_refl _⟩
  · intro k d l hk ⟨hi, hl⟩
    have hll := hb.2 _ (List.getElem_mem hk)
    have hgr := hf (d, l) LL[k]
    have hg : (LL.map BL)[k]'(by omega) = BL LL[k] := by simp
    have hd : LL.drop (k + 1) = [] ↔ k + 1 = LL.length := by rw [List.drop_eq_nil_iff]; omega
    rw [List.drop_eq_getElem_cons hk, eachL] at hi
    have wl : IntKind.i64.wrap (((((LL.map BL).map encS).length : Nat) : Int) - 1) = (LL.length : Int) - 1 := by rw [hlm]; exact wrap_in (by omega) (by omega)
    have cH := hC d l LL[k] (by omega) (by omega) (by omega)
    rw [← hg] at cH
    generalize f (d, l) LL[k] = q at *
    obtain ⟨⟨d', l'⟩, b⟩ := q
    simp only at hi hgr
    have hnx : (en = false → k + 1 ≠ LL.length) → b = true → eachL f en (d', l') (k + 1) (LL.drop (k + 1)) = eachL f en ([], []) 0 LL := fun h1 h2 => by
      rw [if_neg (fun h => h1 h.1 (hd.1 h.2)), if_pos h2] at hi; exact hi
    have hrt : (en = false → k + 1 ≠ LL.length) → b = false → ((d', l'), k, false) = eachL f en ([], []) 0 LL := fun h1 h2 => by
      rw [if_neg (fun h => h1 h.1 (hd.1 h.2)), if_neg (by rw [h2]; decide)] at hi; exact hi
    have hlast : en = false → k + 1 = LL.length → ((d, l), k, false) = eachL f en ([], []) 0 LL := fun h1 h2 => by
      rw [if_pos ⟨h1, hd.2 h2⟩] at hi; exact hi
    clear hi
    conv => whnf
    repeat' (first | ((first | refine Split.mk (fun h => ?_) (fun h => ?_) | refine CondG.mk (fun h => ?_) (fun h => ?_)) <;> (try simp only [decide_eq_true_eq, decide_eq_false_iff_not, Bool.not_eq_true', Bool.not_eq_false', beq_iff_eq, beq_eq_false_iff_ne, bne_iff_ne, bne_eq_false_iff_eq] at h) <;> (first | (exfalso; first | omega | exact h trivial) | (conv => whnf))) | (refine Ask.mk (by first | omega | (unfold roomOK; simp [cutRows]; done) | (unfold roomOK; simp [cutRows]; omega) | (simp [cutRows]; done) | (simp [cutRows]; omega)) ?_; conv => whnf) | (refine AppG.mk (by first | omega | (unfold roomOK; simp [cutRows]; done) | (unfold roomOK; simp [cutRows]; omega) | (simp [cutRows]; done) | (simp [cutRows]; omega)) ?_; conv => whnf) | (refine SliceG.fr ?_; conv => whnf) | (refine idx_at _ (by with_reducible rfl) (by first | assumption | omega) ?_; conv => whnf) | ((with_reducible refine row_map (by first | assumption | omega) ?_); conv => whnf) | ((with_reducible refine row_set (by first | assumption | omega | (simp only [List.length_set]; omega) | (simp; omega)) ?_); conv => whnf) | fail)
    · rw [← hlast (by assumption) (by omega)]
      exact .mk ⟨rfl, rfl⟩
    all_goals
      have hne : en = false → k + 1 ≠ LL.length := fun h1 => by first | omega | (exfalso; have h2 : en = true := (by assumption); rw [h2] at h1; cases h1)
      refine .ex _ cH ?_
      rintro _ _ ⟨rfl, h⟩
      rcases h with ⟨rfl, h⟩ | ⟨rfl, h⟩ | ⟨rfl, h⟩
      · obtain ⟨rfl, rfl⟩ := Prod.mk.inj h
        conv => whnf
        repeat' (first | ((first | refine Split.mk (fun h => ?_) (fun h => ?_) | refine CondG.mk (fun h => ?_) (fun h => ?_)) <;> (try simp only [decide_eq_true_eq, decide_eq_false_iff_not, Bool.not_eq_true', Bool.not_eq_false', beq_iff_eq, beq_eq_false_iff_ne, bne_iff_ne, bne_eq_false_iff_eq] at h) <;> (first | (exfalso; first | omega | exact h trivial) | (conv => whnf))) | (refine Ask.mk (by first | omega | (unfold roomOK; simp [cutRows]; done) | (unfold roomOK; simp [cutRows]; omega) | (simp [cutRows]; done) | (simp [cutRows]; omega)) ?_; conv => whnf) | (refine AppG.mk (by first | omega | (unfold roomOK; simp [cutRows]; done) | (unfold roomOK; simp [cutRows]; omega) | (simp [cutRows]; done) | (simp [cutRows]; omega)) ?_; conv => whnf) | (refine SliceG.fr ?_; conv => whnf) | (refine idx_at _ (by with_reducible rfl) (by first | assumption | omega) ?_; conv => whnf) | ((with_reducible refine row_map (by first | assumption | omega) ?_); conv => whnf) | ((with_reducible refine row_set (by first | assumption | omega | (simp only [List.length_set]; omega) | (simp; omega)) ?_); conv => whnf) | fail)
        · rw [← hrt hne (by assumption)]
          exact .mk ⟨rfl, rfl⟩
        · exact count_next (d', l') hk (by rw [wrap_succ hk (by omega)]; rfl) ⟨hnx hne (by assumption), by simp only; omega⟩
      · obtain rfl : d' = d := h
        conv => whnf
        repeat' (first | ((first | refine Split.mk (fun h => ?_) (fun h => ?_) | refine CondG.mk (fun h => ?_) (fun h => ?_)) <;> (try simp only [decide_eq_true_eq, decide_eq_false_iff_not, Bool.not_eq_true', Bool.not_eq_false', beq_iff_eq, beq_eq_false_iff_ne, bne_iff_ne, bne_eq_false_iff_eq] at h) <;> (first | (exfalso; first | omega | exact h trivial) | (conv => whnf))) | (refine Ask.mk (by first | omega | (unfold roomOK; simp [cutRows]; done) | (unfold roomOK; simp [cutRows]; omega) | (simp [cutRows]; done) | (simp [cutRows]; omega)) ?_; conv => whnf) | (refine AppG.mk (by first | omega | (unfold roomOK; simp [cutRows]; done) | (unfold roomOK; simp [cutRows]; omega) | (simp [cutRows]; done) | (simp [cutRows]; omega)) ?_; conv => whnf) | (refine SliceG.fr ?_; conv => whnf) | (refine idx_at _ (by with_reducible rfl) (by first | assumption | omega) ?_; conv => whnf) | ((with_reducible refine row_map (by first | assumption | omega) ?_); conv => whnf) | ((with_reducible refine row_set (by first | assumption | omega | (simp only [List.length_set]; omega) | (simp; omega)) ?_); conv => whnf) | fail)
        · rw [← hrt hne (by assumption)]
          exact .mk ⟨rfl, rfl⟩
        · exact count_next (d', l') hk (by rw [wrap_succ hk (by omega)]; rfl) ⟨hnx hne (by assumption), by simp only; omega⟩
      · obtain rfl : l' = l := h
        conv => whnf
        repeat' (first | ((first | refine Split.mk (fun h => ?_) (fun h => ?_) | refine CondG.mk (fun h => ?_) (fun h => ?_)) <;> (try simp only [decide_eq_true_eq, decide_eq_false_iff_not, Bool.not_eq_true', Bool.not_eq_false', beq_iff_eq, beq_eq_false_iff_ne, bne_iff_ne, bne_eq_false_iff_eq] at h) <;> (first | (exfalso; first | omega | exact h trivial) | (conv => whnf))) | (refine Ask.mk (by first | omega | (unfold roomOK; simp [cutRows]; done) | (unfold roomOK; simp [cutRows]; omega) | (simp [cutRows]; done) | (simp [cutRows]; omega)) ?_; conv => whnf) | (refine AppG.mk (by first | omega | (unfold roomOK; simp [cutRows]; done) | (unfold roomOK; simp [cutRows]; omega) | (simp [cutRows]; done) | (simp [cutRows]; omega)) ?_; conv => whnf) | (refine SliceG.fr ?_; conv => whnf) | (refine idx_at _ (by with_reducible rfl) (by first | assumption | omega) ?_; conv => whnf) | ((with_reducible refine row_map (by first | assumption | omega) ?_); conv => whnf) | ((with_reducible refine row_set (by first | assumption | omega | (simp only [List.length_set]; omega) | (simp; omega)) ?_); conv => whnf) | fail)
        · rw [← hrt hne (by assumption)]
          exact .mk ⟨rfl, rfl⟩
        · exact count_next (d', l') hk (by rw [wrap_succ hk (by omega)]; rfl) ⟨hnx hne (by assumption), by simp only; omega⟩
  · intro d l ⟨hi, hl⟩
    rw [List.drop_of_length_le (Nat.le_refl _), eachL] at hi
    rw [← hi]
    conv => whnf
    repeat' (first | ((first | refine Split.mk (fun h => ?_) (fun h => ?_) | refine CondG.mk (fun h => ?_) (fun h => ?_)) <;> (try simp only [decide_eq_true_eq, decide_eq_false_iff_not, Bool.not_eq_true', Bool.not_eq_false', beq_iff_eq, beq_eq_false_iff_ne, bne_iff_ne, bne_eq_false_iff_eq] at h) <;> (first | (exfalso; first | omega | exact h trivial) | (conv => whnf))) | (refine Ask.mk (by first | omega | (unfold roomOK; simp [cutRows]; done) | (unfold roomOK; simp [cutRows]; omega) | (simp [cutRows]; done) | (simp [cutRows]; omega)) ?_; conv => whnf) | (refine AppG.mk (by first | omega | (unfold roomOK; simp [cutRows]; done) | (unfold roomOK; simp [cutRows]; omega) | (simp [cutRows]; done) | (simp [cutRows]; omega)) ?_; conv => whnf) | (refine SliceG.fr ?_; conv => whnf) | (refine idx_at _ (by with_reducible rfl) (by first | assumption | omega) ?_; conv => whnf) | ((with_reducible refine row_map (by first | assumption | omega) ?_); conv => whnf) | ((with_reducible refine row_set (by first | assumption | omega | (simp only [List.length_set]; omega) | (simp; omega)) ?_); conv => whnf) | fail)
    all_goals exact .mk ⟨rfl, rfl⟩
set_option maxRecDepth 100000 in
set_option maxHeartbeats 4000000 in
theorem lines2_pc (g : Nat) (f : duS → List UInt8 → duS × Bool) (hf : ∀ st x, (f st x).1.1.length + (f st x).1.2.length ≤ st.1.length + st.2.length + 1) (hC : Rdr2 g f) (tl : List UInt8) (hs : tl.length ≤ 200000) :
    PCp 74 [.c (.str (BL tl)), .c (.fn g [.ptr 0 0, .ptr 1 0])] [.box [.nils], .box [.nils]] (.tup [.c (.int .i64 ((goL f ([], []) 0 (spl 10 tl)).2.1 : Nat)), .c (.bool (goL f ([], []) 0 (spl 10 tl)).2.2)]) (duR (goL f ([], []) 0 (spl 10 tl)).1) := by
  refine fn_sound (mt := mts) tab_fits tab_mixed Tryz.func74 (by rfl) (by kernel_rfl) (by kernel_rfl) Tryz.results74 (Nat.le_of_ble_eq_true (by kernel_rfl)) ?_
  conv => whnf
  repeat' (first | ((first | refine Split.mk (fun h => ?_) (fun h => ?_) | refine CondG.mk (fun h => ?_) (fun h => ?_)) <;> (try simp only [decide_eq_true_eq, decide_eq_false_iff_not, Bool.not_eq_true', Bool.not_eq_false', beq_iff_eq, beq_eq_false_iff_ne, bne_iff_ne, bne_eq_false_iff_eq] at h) <;> (first | (exfalso; first | omega | exact h trivial) | (conv => whnf))) | (refine Ask.mk (by first | omega | (unfold roomOK; simp [cutRows]; done) | (unfold roomOK; simp [cutRows]; omega) | (simp [cutRows]; done) | (simp [cutRows]; omega)) ?_; conv => whnf) | (refine AppG.mk (by first | omega | (unfold roomOK; simp [cutRows]; done) | (unfold roomOK; simp [cutRows]; omega) | (simp [cutRows]; done) | (simp [cutRows]; omega)) ?_; conv => whnf) | (refine SliceG.fr ?_; conv => whnf) | (refine idx_at _ (by with_reducible rfl) (by first | assumption | omega) ?_; conv => whnf) | ((with_reducible refine row_map (by first | assumption | omega) ?_); conv => whnf) | ((with_reducible refine row_set (by first | assumption | omega | (simp only [List.length_set]; omega) | (simp; omega)) ?_); conv => whnf) | fail)
  refine loop_while3 (fun (t : List UInt8) (i : Nat) (st : duS) => t.length) [.ob 0 0 56 3, .ob 1 0 52 5] [0, 1, 6] (fun (t : List UInt8) (i : Nat) (st : duS) => [(0, .c (.str (BL t))), (6, .c (.int .i64 (i : Int)))]) (fun (t : List UInt8) (i : Nat) (st : duS) => [(0, .box [.row 2]), (1, .box [.row 3]), (2, .row 56 3 (st.2.map encLy)), (3, .row 52 5 (st.1.map encDu))]) (fun (t : List UInt8) (i : Nat) (st : duS) => goL f st i (spl 10 t) = goL f ([], []) 0 (spl 10 tl) ∧ st.1.length + st.2.length ≤ i ∧ i + t.length ≤ 200000) (tl) (0) (([], [])) ?_
  conv => whnf
  refine ⟨(by first | rfl | (simp; done) | (simp; rfl)), ?_, ?_⟩
  · exact ⟨rfl, Nat.le_refl _, by omega⟩
  · rintro t i ⟨d, l⟩ ⟨hi, hl, hn⟩
    simp only at hl
    have hbt := bl_size t
    have hei := emp_iff (BL t)
    by_cases ht : t = []
    · subst ht
      rw [goL_end] at hi
      rw [← hi]
      conv => whnf
      repeat' (first | ((first | refine Split.mk (fun h => ?_) (fun h => ?_) | refine CondG.mk (fun h => ?_) (fun h => ?_)) <;> (try simp only [decide_eq_true_eq, decide_eq_false_iff_not, Bool.not_eq_true', Bool.not_eq_false', beq_iff_eq, beq_eq_false_iff_ne, bne_iff_ne, bne_eq_false_iff_eq] at h) <;> (first | (exfalso; first | omega | exact h trivial) | (conv => whnf))) | (refine Ask.mk (by first | omega | (unfold roomOK; simp [cutRows]; done) | (unfold roomOK; simp [cutRows]; omega) | (simp [cutRows]; done) | (simp [cutRows]; omega)) ?_; conv => whnf) | (refine AppG.mk (by first | omega | (unfold roomOK; simp [cutRows]; done) | (unfold roomOK; simp [cutRows]; omega) | (simp [cutRows]; done) | (simp [cutRows]; omega)) ?_; conv => whnf) | (refine SliceG.fr ?_; conv => whnf) | (refine idx_at _ (by with_reducible rfl) (by first | assumption | omega) ?_; conv => whnf) | ((with_reducible refine row_map (by first | assumption | omega) ?_); conv => whnf) | ((with_reducible refine row_set (by first | assumption | omega | (simp only [List.length_set]; omega) | (simp; omega)) ?_); conv => whnf) | fail)
      · have h1 : (BL []).toList ≠ (⟨#[]⟩ : ByteArray).toList := by assumption
        exact absurd rfl h1
      · exact .mk ⟨rfl, rfl⟩
    · have hpos := List.length_pos_iff.2 ht
      rw [goL_cut f (d, l) i t ht] at hi
      have hsh := cut_shape 10 t
      have cC := cut_pc 10 (BL t) (by omega)
      rw [show (BL t).data.toList = t by simp] at cC
      generalize cutL 10 t = q at *
      obtain ⟨ln, rest, en⟩ := q
      simp only at hi hsh cC
      have hgr := hf (d, l) ln
      have cH := hC d l ln (by omega) (by omega) (by omega)
      generalize f (d, l) ln = q at *
      obtain ⟨⟨d', l'⟩, b⟩ := q
      simp only at hi hgr
      conv => whnf
      repeat' (first | ((first | refine Split.mk (fun h => ?_) (fun h => ?_) | refine CondG.mk (fun h => ?_) (fun h => ?_)) <;> (try simp only [decide_eq_true_eq, decide_eq_false_iff_not, Bool.not_eq_true', Bool.not_eq_false', beq_iff_eq, beq_eq_false_iff_ne, bne_iff_ne, bne_eq_false_iff_eq] at h) <;> (first | (exfalso; first | omega | exact h trivial) | (conv => whnf))) | (refine CallX.mk _ _ (by first | exact cC) ?_; conv => whnf) | (refine CallG.mk _ _ (by first | exact cC) ?_; conv => whnf) | (refine Ask.mk (by first | omega | (unfold roomOK; simp [cutRows]; done) | (unfold roomOK; simp [cutRows]; omega) | (simp [cutRows]; done) | (simp [cutRows]; omega)) ?_; conv => whnf) | (refine AppG.mk (by first | omega | (unfold roomOK; simp [cutRows]; done) | (unfold roomOK; simp [cutRows]; omega) | (simp [cutRows]; done) | (simp [cutRows]; omega)) ?_; conv => whnf) | (refine SliceG.fr ?_; conv => whnf) | (refine idx_at _ (by with_reducible rfl) (by first | assumption | omega) ?_; conv => whnf) | ((with_reducible refine row_map (by first | assumption | omega) ?_); conv => whnf) | ((with_reducible refine row_set (by first | assumption | omega | (simp only [List.length_set]; omega) | (simp; omega)) ?_); conv => whnf) | fail)
      · have h1 : en = false := by assumption
        rw [h1, if_neg (by decide)] at hi
        rw [← hi]
        exact .mk ⟨rfl, rfl⟩
      · have h1 : en = true := by assumption
        have hr := hsh.2.1 h1
        rw [h1, if_pos rfl] at hi
        refine .ex _ cH ?_
        rintro _ _ ⟨rfl, h⟩
        rcases h with ⟨rfl, h⟩ | ⟨rfl, h⟩ | ⟨rfl, h⟩
        · obtain ⟨rfl, rfl⟩ := Prod.mk.inj h
          conv => whnf
          repeat' (first | ((first | refine Split.mk (fun h => ?_) (fun h => ?_) | refine CondG.mk (fun h => ?_) (fun h => ?_)) <;> (try simp only [decide_eq_true_eq, decide_eq_false_iff_not, Bool.not_eq_true', Bool.not_eq_false', beq_iff_eq, beq_eq_false_iff_ne, bne_iff_ne, bne_eq_false_iff_eq] at h) <;> (first | (exfalso; first | omega | exact h trivial) | (conv => whnf))) | (refine Ask.mk (by first | omega | (unfold roomOK; simp [cutRows]; done) | (unfold roomOK; simp [cutRows]; omega) | (simp [cutRows]; done) | (simp [cutRows]; omega)) ?_; conv => whnf) | (refine AppG.mk (by first | omega | (unfold roomOK; simp [cutRows]; done) | (unfold roomOK; simp [cutRows]; omega) | (simp [cutRows]; done) | (simp [cutRows]; omega)) ?_; conv => whnf) | (refine SliceG.fr ?_; conv => whnf) | (refine idx_at _ (by with_reducible rfl) (by first | assumption | omega) ?_; conv => whnf) | ((with_reducible refine row_map (by first | assumption | omega) ?_); conv => whnf) | ((with_reducible refine row_set (by first | assumption | omega | (simp only [List.length_set]; omega) | (simp; omega)) ?_); conv => whnf) | fail)
          · have h2 : b = false := by assumption
            rw [h2, if_neg (by decide)] at hi
            rw [← hi]
            exact .mk ⟨rfl, rfl⟩
          · have h2 : b = true := by assumption
            rw [h2, if_pos rfl] at hi
            exact meas_next (rest, i + 1, (d', l')) (by simp only; omega) (by rw [show IntKind.i64.wrap ((i : Int) + 1) = ((i + 1 : Nat) : Int) by rw [wrap_in (by omega) (by omega)]; omega]; rfl) ⟨hi, by simp only; omega, by simp only; omega⟩
        · obtain rfl : d' = d := h
          conv => whnf
          repeat' (first | ((first | refine Split.mk (fun h => ?_) (fun h => ?_) | refine CondG.mk (fun h => ?_) (fun h => ?_)) <;> (try simp only [decide_eq_true_eq, decide_eq_false_iff_not, Bool.not_eq_true', Bool.not_eq_false', beq_iff_eq, beq_eq_false_iff_ne, bne_iff_ne, bne_eq_false_iff_eq] at h) <;> (first | (exfalso; first | omega | exact h trivial) | (conv => whnf))) | (refine Ask.mk (by first | omega | (unfold roomOK; simp [cutRows]; done) | (unfold roomOK; simp [cutRows]; omega) | (simp [cutRows]; done) | (simp [cutRows]; omega)) ?_; conv => whnf) | (refine AppG.mk (by first | omega | (unfold roomOK; simp [cutRows]; done) | (unfold roomOK; simp [cutRows]; omega) | (simp [cutRows]; done) | (simp [cutRows]; omega)) ?_; conv => whnf) | (refine SliceG.fr ?_; conv => whnf) | (refine idx_at _ (by with_reducible rfl) (by first | assumption | omega) ?_; conv => whnf) | ((with_reducible refine row_map (by first | assumption | omega) ?_); conv => whnf) | ((with_reducible refine row_set (by first | assumption | omega | (simp only [List.length_set]; omega) | (simp; omega)) ?_); conv => whnf) | fail)
          · have h2 : b = false := by assumption
            rw [h2, if_neg (by decide)] at hi
            rw [← hi]
            exact .mk ⟨rfl, rfl⟩
          · have h2 : b = true := by assumption
            rw [h2, if_pos rfl] at hi
            exact meas_next (rest, i + 1, (d', l')) (by simp only; omega) (by rw [show IntKind.i64.wrap ((i : Int) + 1) = ((i + 1 : Nat) : Int) by rw [wrap_in (by omega) (by omega)]; omega]; rfl) ⟨hi, by simp only; omega, by simp only; omega⟩
        · obtain rfl : l' = l := h
          conv => whnf
          repeat' (first | ((first | refine Split.mk (fun h => ?_) (fun h => ?_) | refine CondG.mk (fun h => ?_) (fun h => ?_)) <;> (try simp only [decide_eq_true_eq, decide_eq_false_iff_not, Bool.not_eq_true', Bool.not_eq_false', beq_iff_eq, beq_eq_false_iff_ne, bne_iff_ne, bne_eq_false_iff_eq] at h) <;> (first | (exfalso; first | omega | exact h trivial) | (conv => whnf))) | (refine Ask.mk (by first | omega | (unfold roomOK; simp [cutRows]; done) | (unfold roomOK; simp [cutRows]; omega) | (simp [cutRows]; done) | (simp [cutRows]; omega)) ?_; conv => whnf) | (refine AppG.mk (by first | omega | (unfold roomOK; simp [cutRows]; done) | (unfold roomOK; simp [cutRows]; omega) | (simp [cutRows]; done) | (simp [cutRows]; omega)) ?_; conv => whnf) | (refine SliceG.fr ?_; conv => whnf) | (refine idx_at _ (by with_reducible rfl) (by first | assumption | omega) ?_; conv => whnf) | ((with_reducible refine row_map (by first | assumption | omega) ?_); conv => whnf) | ((with_reducible refine row_set (by first | assumption | omega | (simp only [List.length_set]; omega) | (simp; omega)) ?_); conv => whnf) | fail)
          · have h2 : b = false := by assumption
            rw [h2, if_neg (by decide)] at hi
            rw [← hi]
            exact .mk ⟨rfl, rfl⟩
          · have h2 : b = true := by assumption
            rw [h2, if_pos rfl] at hi
            exact meas_next (rest, i + 1, (d', l')) (by simp only; omega) (by rw [show IntKind.i64.wrap ((i : Int) + 1) = ((i + 1 : Nat) : Int) by rw [wrap_in (by omega) (by omega)]; omega]; rfl) ⟨hi, by simp only; omega, by simp only; omega⟩
      · exact absurd (hei.1 (by assumption)) (by omega)
end Go.Proofs.YtgomipfameinoaaGreatDoor

/- Ducts and cables read: the program and the document, line by line. -/
namespace Go.Proofs.YtgomipfameinoaaGreatDoor
set_option linter.unusedVariables false
set_option linter.unusedSimpArgs false
open Abs

theorem splB_pos (c : UInt8) (l : List UInt8) : 0 < (splB c (BL l)).length := by
  unfold splB
  rw [List.length_map]
  exact List.length_pos_iff.2 (spl_ne c _)
theorem sub_dropG {W : List (List V)} (n : Nat) : sub W n W.length = W.drop n := by
  unfold sub
  rw [List.take_of_length_le (by simp)]
theorem none_hn {W : List ByteArray} (h : noneE W = true) : decide (⟨#[]⟩ ∈ W) = false := by
  have := noneE_mem W
  rw [h] at this
  cases hd : decide (⟨#[]⟩ ∈ W) with
  | false => rfl
  | true => rw [hd] at this; cases this
theorem six {W : List ByteArray} (h : W.length = 6) : ∃ a b c d e f, W = [a, b, c, d, e, f] := by
  match W, h with
  | [a, b, c, d, e, f], _ => exact ⟨a, b, c, d, e, f, rfl⟩
theorem four {W : List ByteArray} (h : 4 ≤ W.length) : ∃ a b c r, W = a :: b :: c :: r ∧ 1 ≤ r.length := by
  match W, h with
  | a :: b :: c :: r, h => exact ⟨a, b, c, r, rfl, by simp only [List.length_cons] at h; omega⟩
theorem numsOk_two (a b : ByteArray) : numsOk 15 [a, b] = ((numP 15 a).isSome && (numP 15 b).isSome) := by
  unfold numsOk; simp
set_option maxRecDepth 100000 in
set_option maxHeartbeats 4000000 in
theorem dRead1_pc : Rdr2 91 (duSt false nvP) := by
  intro d l line hd hl hz
  have hbz := bl_size line
  have cW := split_pc 32 (BL line) (by omega)
  have hxz : ∀ x ∈ splB 32 (BL line), x.size ≤ 999999 := fun x hx => by have := splB_memL hx; omega
  have hdm : (d.map encDu).length = d.length := List.length_map ..
  have hlm : (l.map encLy).length = l.length := List.length_map ..
  have hwl := splB_len 32 (BL line)
  have hwp := splB_pos 32 line
  unfold duSt isDu isLy wd
  generalize splB 32 (BL line) = W at *
  have hWm : (W.map encS).length = W.length := List.length_map ..
  have cC := containsS_pc ⟨#[]⟩ W (by omega)
  cases hn : noneE W with
  | false =>
    simp only [Bool.false_and, Bool.false_eq_true, false_and, if_false]
    have hh : decide (⟨#[]⟩ ∈ W) = true := by
      have := noneE_mem W
      rw [hn] at this
      cases hd : decide (⟨#[]⟩ ∈ W) with
      | true => rfl
      | false => rw [hd] at this; cases this
    rw [hh] at cC
    refine fn_soundX (mt := mts) tab_fits tab_mixed Tryz.func91 (by rfl) (by kernel_rfl) (by kernel_rfl) Tryz.results91 (Nat.le_of_ble_eq_true (by kernel_rfl)) ?_
    conv => whnf
    repeat' (first | ((first | refine Split.mk (fun h => ?_) (fun h => ?_) | refine CondG.mk (fun h => ?_) (fun h => ?_)) <;> (try simp only [decide_eq_true_eq, decide_eq_false_iff_not, Bool.not_eq_true', Bool.not_eq_false', beq_iff_eq, beq_eq_false_iff_ne, bne_iff_ne, bne_eq_false_iff_eq] at h) <;> (first | (exfalso; first | omega | exact h trivial) | (conv => whnf))) | (refine CallX.mk _ _ (by first | exact cW | exact cC) ?_; conv => whnf) | (refine CallG.mk _ _ (by first | exact cW | exact cC) ?_; conv => whnf) | (refine Ask.mk (by first | omega | (unfold roomOK; simp [cutRows]; done) | (unfold roomOK; simp [cutRows]; omega) | (simp [cutRows]; done) | (simp [cutRows]; omega)) ?_; conv => whnf) | (refine AppG.mk (by first | omega | (unfold roomOK; simp [cutRows]; done) | (unfold roomOK; simp [cutRows]; omega) | (simp [cutRows]; done) | (simp [cutRows]; omega)) ?_; conv => whnf) | (refine SliceG.fr ?_; conv => whnf) | (refine idx_at _ (by with_reducible rfl) (by first | assumption | omega) ?_; conv => whnf) | ((with_reducible refine row_map (by first | assumption | omega) ?_); conv => whnf) | ((with_reducible refine row_set (by first | assumption | omega | (simp only [List.length_set]; omega) | (simp; omega)) ?_); conv => whnf) | fail)
    all_goals first | (cases ‹true = false›; done) | (cases ‹false = true›; done) | skip
    all_goals exact FinX.mk _ _ ⟨rfl, .inl ⟨rfl, rfl⟩⟩ (.mk ⟨rfl, rfl⟩)
  | true =>
    have hh := none_hn hn
    rw [hh] at cC
    dsimp only
    simp only [Bool.true_and]
    by_cases hB : (decide (W.getD 0 ⟨#[]⟩ = bDuct) && decide (W.length = 6)) = true ∧ l = []
    · rw [if_pos hB]
      obtain ⟨hB1, rfl⟩ := hB
      rw [Bool.and_eq_true, decide_eq_true_iff, decide_eq_true_iff] at hB1
      obtain ⟨w0, w1, w2, w3, w4, w5, rfl⟩ := six hB1.2
      obtain rfl : w0 = bDuct := hB1.1
      have cN := bNumbers_pc 15 (by omega) [w4, w5] (by simp) (fun x hx => Nat.le_trans (hxz x (by simp at hx ⊢; rcases hx with rfl | rfl <;> simp)) (by omega))
      rw [numsOk_two] at cN
      simp only [List.getD_cons_zero, List.getD_cons_succ, Bool.false_eq_true, false_or]
      by_cases hb : (numP 15 w4).isSome = true ∧ (numP 15 w5).isSome = true
      · rw [if_pos hb]
        have hbb : ((numP 15 w4).isSome && (numP 15 w5).isSome) = true := by rw [hb.1, hb.2]; rfl
        have hv : numsV 15 [w4, w5] = [nvP w4, nvP w5] := by unfold numsV; rw [numsOk_two, if_pos hbb]; rfl
        rw [hv, hbb] at cN
        rw [hbb]
        refine fn_soundX (mt := mts) tab_fits tab_mixed Tryz.func91 (by rfl) (by kernel_rfl) (by kernel_rfl) Tryz.results91 (Nat.le_of_ble_eq_true (by kernel_rfl)) ?_
        conv => whnf
        repeat' (first | ((first | refine Split.mk (fun h => ?_) (fun h => ?_) | refine CondG.mk (fun h => ?_) (fun h => ?_)) <;> (try simp only [decide_eq_true_eq, decide_eq_false_iff_not, Bool.not_eq_true', Bool.not_eq_false', beq_iff_eq, beq_eq_false_iff_ne, bne_iff_ne, bne_eq_false_iff_eq] at h) <;> (first | (exfalso; first | omega | exact h trivial) | (conv => whnf))) | (refine CallX.mk _ _ (by first | exact cW | exact cC | exact cN) ?_; conv => whnf) | (refine CallG.mk _ _ (by first | exact cW | exact cC | exact cN) ?_; conv => whnf) | (refine Ask.mk (by first | omega | (unfold roomOK; simp [cutRows]; done) | (unfold roomOK; simp [cutRows]; omega) | (simp [cutRows]; done) | (simp [cutRows]; omega)) ?_; conv => whnf) | (refine AppG.mk (by first | omega | (unfold roomOK; simp [cutRows]; done) | (unfold roomOK; simp [cutRows]; omega) | (simp [cutRows]; done) | (simp [cutRows]; omega)) ?_; conv => whnf) | (refine SliceG.fr ?_; conv => whnf) | (refine idx_at _ (by with_reducible rfl) (by first | assumption | omega) ?_; conv => whnf) | ((with_reducible refine row_map (by first | assumption | omega) ?_); conv => whnf) | ((with_reducible refine row_set (by first | assumption | omega | (simp only [List.length_set]; omega) | (simp; omega)) ?_); conv => whnf) | ((refine IdxG.mk _ ⟨by decide, by rfl⟩ ?_); conv => whnf) | fail)
        all_goals first | (cases ‹false = true›; done) | (cases ‹true = false›; done) | exact absurd (toList_inj (show bDuct.toList = (⟨#[99, 97, 98, 108, 101]⟩ : ByteArray).toList from (by assumption))) (by decide) | exact absurd (show bDuct.toList = (⟨#[100, 117, 99, 116]⟩ : ByteArray).toList from rfl) (by assumption) | exact absurd (show (((([] : List Ly).map encLy).length : Nat) : Int) = 0 from rfl) (by assumption) | exact absurd (show (((([] : List Ly).map encLy).length : Nat) : Int) = 0 from rfl) (by assumption) | exact absurd (toList_inj (show bCable.toList = (⟨#[100, 117, 99, 116]⟩ : ByteArray).toList from (by assumption))) (by decide) | exact absurd (show bCable.toList = (⟨#[99, 97, 98, 108, 101]⟩ : ByteArray).toList from rfl) (by assumption) | (exfalso; omega) | skip
        all_goals exact FinX.mk _ _ ⟨rfl, .inr (.inr ⟨rfl, rfl⟩)⟩ (.mk ⟨rfl, by rw [List.map_append]; rfl⟩)
      · rw [if_neg hb]
        have hbb : ((numP 15 w4).isSome && (numP 15 w5).isSome) = false := by
          rw [Bool.eq_false_iff]; intro h; rw [Bool.and_eq_true] at h; exact hb h
        rw [hbb] at cN
        refine fn_soundX (mt := mts) tab_fits tab_mixed Tryz.func91 (by rfl) (by kernel_rfl) (by kernel_rfl) Tryz.results91 (Nat.le_of_ble_eq_true (by kernel_rfl)) ?_
        conv => whnf
        repeat' (first | ((first | refine Split.mk (fun h => ?_) (fun h => ?_) | refine CondG.mk (fun h => ?_) (fun h => ?_)) <;> (try simp only [decide_eq_true_eq, decide_eq_false_iff_not, Bool.not_eq_true', Bool.not_eq_false', beq_iff_eq, beq_eq_false_iff_ne, bne_iff_ne, bne_eq_false_iff_eq] at h) <;> (first | (exfalso; first | omega | exact h trivial) | (conv => whnf))) | (refine CallX.mk _ _ (by first | exact cW | exact cC | exact cN) ?_; conv => whnf) | (refine CallG.mk _ _ (by first | exact cW | exact cC | exact cN) ?_; conv => whnf) | (refine Ask.mk (by first | omega | (unfold roomOK; simp [cutRows]; done) | (unfold roomOK; simp [cutRows]; omega) | (simp [cutRows]; done) | (simp [cutRows]; omega)) ?_; conv => whnf) | (refine AppG.mk (by first | omega | (unfold roomOK; simp [cutRows]; done) | (unfold roomOK; simp [cutRows]; omega) | (simp [cutRows]; done) | (simp [cutRows]; omega)) ?_; conv => whnf) | (refine SliceG.fr ?_; conv => whnf) | (refine idx_at _ (by with_reducible rfl) (by first | assumption | omega) ?_; conv => whnf) | ((with_reducible refine row_map (by first | assumption | omega) ?_); conv => whnf) | ((with_reducible refine row_set (by first | assumption | omega | (simp only [List.length_set]; omega) | (simp; omega)) ?_); conv => whnf) | ((refine IdxG.mk _ ⟨by decide, by rfl⟩ ?_); conv => whnf) | fail)
        all_goals first | (cases ‹false = true›; done) | (cases ‹true = false›; done) | exact absurd (toList_inj (show bDuct.toList = (⟨#[99, 97, 98, 108, 101]⟩ : ByteArray).toList from (by assumption))) (by decide) | exact absurd (show bDuct.toList = (⟨#[100, 117, 99, 116]⟩ : ByteArray).toList from rfl) (by assumption) | exact absurd (show (((([] : List Ly).map encLy).length : Nat) : Int) = 0 from rfl) (by assumption) | exact absurd (show (((([] : List Ly).map encLy).length : Nat) : Int) = 0 from rfl) (by assumption) | exact absurd (toList_inj (show bCable.toList = (⟨#[100, 117, 99, 116]⟩ : ByteArray).toList from (by assumption))) (by decide) | exact absurd (show bCable.toList = (⟨#[99, 97, 98, 108, 101]⟩ : ByteArray).toList from rfl) (by assumption) | (exfalso; omega) | skip
        all_goals exact FinX.mk _ _ ⟨rfl, .inl ⟨rfl, rfl⟩⟩ (.mk ⟨rfl, rfl⟩)
    · rw [if_neg hB]
      by_cases hy : (decide (W.getD 0 ⟨#[]⟩ = bCable) && decide (4 ≤ W.length)) = true
      · rw [if_pos hy]
        rw [Bool.and_eq_true, decide_eq_true_iff, decide_eq_true_iff] at hy
        obtain ⟨a, b, c, r, rfl, hr⟩ := four hy.2
        obtain rfl : a = bCable := hy.1
        have cN := bNumber_pc c 15 (by omega) (Nat.le_trans (hxz c (by simp)) (by omega))
        have hsub : sub (List.map encS (bCable :: b :: c :: r)) (Int.toNat 3) (List.map encS (bCable :: b :: c :: r)).length = r.map encS := by rw [sub_dropG]; rfl
        have hl4 : (List.map encS (bCable :: b :: c :: r)).length = r.length + 3 := by simp
        refine fn_soundX (mt := mts) tab_fits tab_mixed Tryz.func91 (by rfl) (by kernel_rfl) (by kernel_rfl) Tryz.results91 (Nat.le_of_ble_eq_true (by kernel_rfl)) ?_
        conv => whnf
        repeat' (first | ((first | refine Split.mk (fun h => ?_) (fun h => ?_) | refine CondG.mk (fun h => ?_) (fun h => ?_)) <;> (try simp only [decide_eq_true_eq, decide_eq_false_iff_not, Bool.not_eq_true', Bool.not_eq_false', beq_iff_eq, beq_eq_false_iff_ne, bne_iff_ne, bne_eq_false_iff_eq] at h) <;> (first | (exfalso; first | omega | exact h trivial) | (conv => whnf))) | (refine CallX.mk _ _ (by first | exact cW | exact cC | exact cN) ?_; conv => whnf) | (refine CallG.mk _ _ (by first | exact cW | exact cC | exact cN) ?_; conv => whnf) | (refine Ask.mk (by first | omega | (unfold roomOK; simp [cutRows]; done) | (unfold roomOK; simp [cutRows]; omega) | (simp [cutRows]; done) | (simp [cutRows]; omega)) ?_; conv => whnf) | (refine AppG.mk (by first | omega | (unfold roomOK; simp [cutRows]; done) | (unfold roomOK; simp [cutRows]; omega) | (simp [cutRows]; done) | (simp [cutRows]; omega)) ?_; conv => whnf) | (refine SliceG.fr ?_; conv => whnf) | (refine idx_at _ (by with_reducible rfl) (by first | assumption | omega) ?_; conv => whnf) | ((with_reducible refine row_map (by first | assumption | omega) ?_); conv => whnf) | ((with_reducible refine row_set (by first | assumption | omega | (simp only [List.length_set]; omega) | (simp; omega)) ?_); conv => whnf) | ((refine IdxG.mk _ ⟨by decide, by rfl⟩ ?_); conv => whnf) | fail)
        all_goals first | (cases ‹false = true›; done) | (cases ‹true = false›; done) | exact absurd (toList_inj (show bDuct.toList = (⟨#[99, 97, 98, 108, 101]⟩ : ByteArray).toList from (by assumption))) (by decide) | exact absurd (show bDuct.toList = (⟨#[100, 117, 99, 116]⟩ : ByteArray).toList from rfl) (by assumption) | exact absurd (show (((([] : List Ly).map encLy).length : Nat) : Int) = 0 from rfl) (by assumption) | exact absurd (show (((([] : List Ly).map encLy).length : Nat) : Int) = 0 from rfl) (by assumption) | exact absurd (toList_inj (show bCable.toList = (⟨#[100, 117, 99, 116]⟩ : ByteArray).toList from (by assumption))) (by decide) | exact absurd (show bCable.toList = (⟨#[99, 97, 98, 108, 101]⟩ : ByteArray).toList from rfl) (by assumption) | (exfalso; omega) | skip
        all_goals exact FinX.mk _ _ ⟨rfl, .inr (.inl ⟨rfl, rfl⟩)⟩ (.mk ⟨rfl, by rw [List.map_append, hsub]; rfl⟩)
      · rw [if_neg hy]
        have hg0 := getD0 (W := W) (i := 0) hwp
        have hno1 : ∀ (_ : W[0].toList = (⟨#[100, 117, 99, 116]⟩ : ByteArray).toList) (_ : (((W.map encS).length : Nat) : Int) = 6) (_ : (((l.map encLy).length : Nat) : Int) = 0), False := fun e1 e2 e3 => hB ⟨by
          rw [hg0, decide_eq_true (show W[0] = bDuct from toList_inj e1), decide_eq_true (show W.length = 6 by omega)]; rfl, List.length_eq_zero_iff.1 (by omega)⟩
        have hno2 : ∀ (_ : W[0].toList = (⟨#[99, 97, 98, 108, 101]⟩ : ByteArray).toList) (_ : 4 ≤ (((W.map encS).length : Nat) : Int)), False := fun e1 e2 => hy (by
          rw [hg0, decide_eq_true (show W[0] = bCable from toList_inj e1), decide_eq_true (show 4 ≤ W.length by omega)]; rfl)
        refine fn_soundX (mt := mts) tab_fits tab_mixed Tryz.func91 (by rfl) (by kernel_rfl) (by kernel_rfl) Tryz.results91 (Nat.le_of_ble_eq_true (by kernel_rfl)) ?_
        conv => whnf
        repeat' (first | ((first | refine Split.mk (fun h => ?_) (fun h => ?_) | refine CondG.mk (fun h => ?_) (fun h => ?_)) <;> (try simp only [decide_eq_true_eq, decide_eq_false_iff_not, Bool.not_eq_true', Bool.not_eq_false', beq_iff_eq, beq_eq_false_iff_ne, bne_iff_ne, bne_eq_false_iff_eq] at h) <;> (first | (exfalso; first | omega | exact h trivial) | (conv => whnf))) | (refine CallX.mk _ _ (by first | exact cW | exact cC) ?_; conv => whnf) | (refine CallG.mk _ _ (by first | exact cW | exact cC) ?_; conv => whnf) | (refine Ask.mk (by first | omega | (unfold roomOK; simp [cutRows]; done) | (unfold roomOK; simp [cutRows]; omega) | (simp [cutRows]; done) | (simp [cutRows]; omega)) ?_; conv => whnf) | (refine AppG.mk (by first | omega | (unfold roomOK; simp [cutRows]; done) | (unfold roomOK; simp [cutRows]; omega) | (simp [cutRows]; done) | (simp [cutRows]; omega)) ?_; conv => whnf) | (refine SliceG.fr ?_; conv => whnf) | (refine idx_at _ (by with_reducible rfl) (by first | assumption | omega) ?_; conv => whnf) | ((with_reducible refine row_map (by first | assumption | omega) ?_); conv => whnf) | ((with_reducible refine row_set (by first | assumption | omega | (simp only [List.length_set]; omega) | (simp; omega)) ?_); conv => whnf) | ((refine idx_map (enc := encS) (l := W) 0 (by omega) (by rfl) ?_); conv => whnf) | fail)
        all_goals first | (cases ‹false = true›; done) | (cases ‹true = false›; done) | exact FinX.mk _ _ ⟨rfl, .inl ⟨rfl, rfl⟩⟩ (.mk ⟨rfl, rfl⟩) | exact (hno1 (by assumption) (by assumption) (by assumption)).elim | exact (hno2 (by assumption) (by first | assumption | omega)).elim | skip
set_option maxRecDepth 100000 in
set_option maxHeartbeats 4000000 in
theorem rDuRead1_pc : Rdr2 95 (duSt true nvD) := by
  intro d l line hd hl hz
  have hbz := bl_size line
  have cW := rWords_pc (BL line) (by omega)
  have hxz : ∀ x ∈ splB 32 (BL line), x.size ≤ 999999 := fun x hx => by have := splB_memL hx; omega
  have hdm : (d.map encDu).length = d.length := List.length_map ..
  have hlm : (l.map encLy).length = l.length := List.length_map ..
  have hwl := splB_len 32 (BL line)
  have hwp := splB_pos 32 line
  unfold duSt isDu isLy wd
  generalize splB 32 (BL line) = W at *
  have hWm : (W.map encS).length = W.length := List.length_map ..
  cases hn : noneE W with
  | false =>
    rw [hn] at cW
    simp only [Bool.false_and, Bool.false_eq_true, false_and, if_false]
    refine fn_soundX (mt := mts) tab_fits tab_mixed Tryz.func95 (by rfl) (by kernel_rfl) (by kernel_rfl) Tryz.results95 (Nat.le_of_ble_eq_true (by kernel_rfl)) ?_
    conv => whnf
    repeat' (first | ((first | refine Split.mk (fun h => ?_) (fun h => ?_) | refine CondG.mk (fun h => ?_) (fun h => ?_)) <;> (try simp only [decide_eq_true_eq, decide_eq_false_iff_not, Bool.not_eq_true', Bool.not_eq_false', beq_iff_eq, beq_eq_false_iff_ne, bne_iff_ne, bne_eq_false_iff_eq] at h) <;> (first | (exfalso; first | omega | exact h trivial) | (conv => whnf))) | (refine CallX.mk _ _ (by first | exact cW) ?_; conv => whnf) | (refine CallG.mk _ _ (by first | exact cW) ?_; conv => whnf) | (refine Ask.mk (by first | omega | (unfold roomOK; simp [cutRows]; done) | (unfold roomOK; simp [cutRows]; omega) | (simp [cutRows]; done) | (simp [cutRows]; omega)) ?_; conv => whnf) | (refine AppG.mk (by first | omega | (unfold roomOK; simp [cutRows]; done) | (unfold roomOK; simp [cutRows]; omega) | (simp [cutRows]; done) | (simp [cutRows]; omega)) ?_; conv => whnf) | (refine SliceG.fr ?_; conv => whnf) | (refine idx_at _ (by with_reducible rfl) (by first | assumption | omega) ?_; conv => whnf) | ((with_reducible refine row_map (by first | assumption | omega) ?_); conv => whnf) | ((with_reducible refine row_set (by first | assumption | omega | (simp only [List.length_set]; omega) | (simp; omega)) ?_); conv => whnf) | fail)
    all_goals first | (cases ‹true = false›; done) | (cases ‹false = true›; done) | skip
    all_goals exact FinX.mk _ _ ⟨rfl, .inl ⟨rfl, rfl⟩⟩ (.mk ⟨rfl, rfl⟩)
  | true =>
    rw [hn] at cW
    dsimp only
    simp only [Bool.true_and]
    by_cases hB : (decide (W.getD 0 ⟨#[]⟩ = bDuct) && decide (W.length = 6)) = true ∧ l = []
    · rw [if_pos hB]
      obtain ⟨hB1, rfl⟩ := hB
      rw [Bool.and_eq_true, decide_eq_true_iff, decide_eq_true_iff] at hB1
      obtain ⟨w0, w1, w2, w3, w4, w5, rfl⟩ := six hB1.2
      obtain rfl : w0 = bDuct := hB1.1
      have cN := rNumbersIn_pc 15 (by omega) [w4, w5] (by simp) (fun x hx => Nat.le_trans (hxz x (by simp at hx ⊢; rcases hx with rfl | rfl <;> simp)) (by omega))
      rw [numsOk_two] at cN
      simp only [List.getD_cons_zero, List.getD_cons_succ, true_or, if_true]
      refine fn_soundX (mt := mts) tab_fits tab_mixed Tryz.func95 (by rfl) (by kernel_rfl) (by kernel_rfl) Tryz.results95 (Nat.le_of_ble_eq_true (by kernel_rfl)) ?_
      conv => whnf
      repeat' (first | ((first | refine Split.mk (fun h => ?_) (fun h => ?_) | refine CondG.mk (fun h => ?_) (fun h => ?_)) <;> (try simp only [decide_eq_true_eq, decide_eq_false_iff_not, Bool.not_eq_true', Bool.not_eq_false', beq_iff_eq, beq_eq_false_iff_ne, bne_iff_ne, bne_eq_false_iff_eq] at h) <;> (first | (exfalso; first | omega | exact h trivial) | (conv => whnf))) | (refine CallX.mk _ _ (by first | exact cW | exact cN) ?_; conv => whnf) | (refine CallG.mk _ _ (by first | exact cW | exact cN) ?_; conv => whnf) | (refine Ask.mk (by first | omega | (unfold roomOK; simp [cutRows]; done) | (unfold roomOK; simp [cutRows]; omega) | (simp [cutRows]; done) | (simp [cutRows]; omega)) ?_; conv => whnf) | (refine AppG.mk (by first | omega | (unfold roomOK; simp [cutRows]; done) | (unfold roomOK; simp [cutRows]; omega) | (simp [cutRows]; done) | (simp [cutRows]; omega)) ?_; conv => whnf) | (refine SliceG.fr ?_; conv => whnf) | (refine idx_at _ (by with_reducible rfl) (by first | assumption | omega) ?_; conv => whnf) | ((with_reducible refine row_map (by first | assumption | omega) ?_); conv => whnf) | ((with_reducible refine row_set (by first | assumption | omega | (simp only [List.length_set]; omega) | (simp; omega)) ?_); conv => whnf) | ((refine IdxG.mk _ ⟨by decide, by rfl⟩ ?_); conv => whnf) | fail)
      all_goals first | (cases ‹false = true›; done) | (cases ‹true = false›; done) | exact absurd (toList_inj (show bDuct.toList = (⟨#[99, 97, 98, 108, 101]⟩ : ByteArray).toList from (by assumption))) (by decide) | exact absurd (show bDuct.toList = (⟨#[100, 117, 99, 116]⟩ : ByteArray).toList from rfl) (by assumption) | exact absurd (show (((([] : List Ly).map encLy).length : Nat) : Int) = 0 from rfl) (by assumption) | exact absurd (show (((([] : List Ly).map encLy).length : Nat) : Int) = 0 from rfl) (by assumption) | exact absurd (toList_inj (show bCable.toList = (⟨#[100, 117, 99, 116]⟩ : ByteArray).toList from (by assumption))) (by decide) | exact absurd (show bCable.toList = (⟨#[99, 97, 98, 108, 101]⟩ : ByteArray).toList from rfl) (by assumption) | (exfalso; omega) | skip
      all_goals exact FinX.mk _ _ ⟨rfl, .inr (.inr ⟨rfl, rfl⟩)⟩ (.mk ⟨rfl, by rw [List.map_append]; rfl⟩)
    · rw [if_neg hB]
      by_cases hy : (decide (W.getD 0 ⟨#[]⟩ = bCable) && decide (4 ≤ W.length)) = true
      · rw [if_pos hy]
        rw [Bool.and_eq_true, decide_eq_true_iff, decide_eq_true_iff] at hy
        obtain ⟨a, b, c, r, rfl, hr⟩ := four hy.2
        obtain rfl : a = bCable := hy.1
        have cN := rNumber_pc c 15 (by omega) (Nat.le_trans (hxz c (by simp)) (by omega))
        have hsub : sub (List.map encS (bCable :: b :: c :: r)) (Int.toNat 3) (List.map encS (bCable :: b :: c :: r)).length = r.map encS := by rw [sub_dropG]; rfl
        have hl4 : (List.map encS (bCable :: b :: c :: r)).length = r.length + 3 := by simp
        refine fn_soundX (mt := mts) tab_fits tab_mixed Tryz.func95 (by rfl) (by kernel_rfl) (by kernel_rfl) Tryz.results95 (Nat.le_of_ble_eq_true (by kernel_rfl)) ?_
        conv => whnf
        repeat' (first | ((first | refine Split.mk (fun h => ?_) (fun h => ?_) | refine CondG.mk (fun h => ?_) (fun h => ?_)) <;> (try simp only [decide_eq_true_eq, decide_eq_false_iff_not, Bool.not_eq_true', Bool.not_eq_false', beq_iff_eq, beq_eq_false_iff_ne, bne_iff_ne, bne_eq_false_iff_eq] at h) <;> (first | (exfalso; first | omega | exact h trivial) | (conv => whnf))) | (refine CallX.mk _ _ (by first | exact cW | exact cN) ?_; conv => whnf) | (refine CallG.mk _ _ (by first | exact cW | exact cN) ?_; conv => whnf) | (refine Ask.mk (by first | omega | (unfold roomOK; simp [cutRows]; done) | (unfold roomOK; simp [cutRows]; omega) | (simp [cutRows]; done) | (simp [cutRows]; omega)) ?_; conv => whnf) | (refine AppG.mk (by first | omega | (unfold roomOK; simp [cutRows]; done) | (unfold roomOK; simp [cutRows]; omega) | (simp [cutRows]; done) | (simp [cutRows]; omega)) ?_; conv => whnf) | (refine SliceG.fr ?_; conv => whnf) | (refine idx_at _ (by with_reducible rfl) (by first | assumption | omega) ?_; conv => whnf) | ((with_reducible refine row_map (by first | assumption | omega) ?_); conv => whnf) | ((with_reducible refine row_set (by first | assumption | omega | (simp only [List.length_set]; omega) | (simp; omega)) ?_); conv => whnf) | ((refine IdxG.mk _ ⟨by decide, by rfl⟩ ?_); conv => whnf) | fail)
        all_goals first | (cases ‹false = true›; done) | (cases ‹true = false›; done) | exact absurd (toList_inj (show bDuct.toList = (⟨#[99, 97, 98, 108, 101]⟩ : ByteArray).toList from (by assumption))) (by decide) | exact absurd (show bDuct.toList = (⟨#[100, 117, 99, 116]⟩ : ByteArray).toList from rfl) (by assumption) | exact absurd (show (((([] : List Ly).map encLy).length : Nat) : Int) = 0 from rfl) (by assumption) | exact absurd (show (((([] : List Ly).map encLy).length : Nat) : Int) = 0 from rfl) (by assumption) | exact absurd (toList_inj (show bCable.toList = (⟨#[100, 117, 99, 116]⟩ : ByteArray).toList from (by assumption))) (by decide) | exact absurd (show bCable.toList = (⟨#[99, 97, 98, 108, 101]⟩ : ByteArray).toList from rfl) (by assumption) | (exfalso; omega) | skip
        all_goals exact FinX.mk _ _ ⟨rfl, .inr (.inl ⟨rfl, rfl⟩)⟩ (.mk ⟨rfl, by rw [List.map_append, hsub]; rfl⟩)
      · rw [if_neg hy]
        have hg0 := getD0 (W := W) (i := 0) hwp
        have hno1 : ∀ (_ : W[0].toList = (⟨#[100, 117, 99, 116]⟩ : ByteArray).toList) (_ : (((W.map encS).length : Nat) : Int) = 6) (_ : (((l.map encLy).length : Nat) : Int) = 0), False := fun e1 e2 e3 => hB ⟨by
          rw [hg0, decide_eq_true (show W[0] = bDuct from toList_inj e1), decide_eq_true (show W.length = 6 by omega)]; rfl, List.length_eq_zero_iff.1 (by omega)⟩
        have hno2 : ∀ (_ : W[0].toList = (⟨#[99, 97, 98, 108, 101]⟩ : ByteArray).toList) (_ : 4 ≤ (((W.map encS).length : Nat) : Int)), False := fun e1 e2 => hy (by
          rw [hg0, decide_eq_true (show W[0] = bCable from toList_inj e1), decide_eq_true (show 4 ≤ W.length by omega)]; rfl)
        refine fn_soundX (mt := mts) tab_fits tab_mixed Tryz.func95 (by rfl) (by kernel_rfl) (by kernel_rfl) Tryz.results95 (Nat.le_of_ble_eq_true (by kernel_rfl)) ?_
        conv => whnf
        repeat' (first | ((first | refine Split.mk (fun h => ?_) (fun h => ?_) | refine CondG.mk (fun h => ?_) (fun h => ?_)) <;> (try simp only [decide_eq_true_eq, decide_eq_false_iff_not, Bool.not_eq_true', Bool.not_eq_false', beq_iff_eq, beq_eq_false_iff_ne, bne_iff_ne, bne_eq_false_iff_eq] at h) <;> (first | (exfalso; first | omega | exact h trivial) | (conv => whnf))) | (refine CallX.mk _ _ (by first | exact cW) ?_; conv => whnf) | (refine CallG.mk _ _ (by first | exact cW) ?_; conv => whnf) | (refine Ask.mk (by first | omega | (unfold roomOK; simp [cutRows]; done) | (unfold roomOK; simp [cutRows]; omega) | (simp [cutRows]; done) | (simp [cutRows]; omega)) ?_; conv => whnf) | (refine AppG.mk (by first | omega | (unfold roomOK; simp [cutRows]; done) | (unfold roomOK; simp [cutRows]; omega) | (simp [cutRows]; done) | (simp [cutRows]; omega)) ?_; conv => whnf) | (refine SliceG.fr ?_; conv => whnf) | (refine idx_at _ (by with_reducible rfl) (by first | assumption | omega) ?_; conv => whnf) | ((with_reducible refine row_map (by first | assumption | omega) ?_); conv => whnf) | ((with_reducible refine row_set (by first | assumption | omega | (simp only [List.length_set]; omega) | (simp; omega)) ?_); conv => whnf) | ((refine idx_map (enc := encS) (l := W) 0 (by omega) (by rfl) ?_); conv => whnf) | fail)
        all_goals first | (cases ‹false = true›; done) | (cases ‹true = false›; done) | exact FinX.mk _ _ ⟨rfl, .inl ⟨rfl, rfl⟩⟩ (.mk ⟨rfl, rfl⟩) | exact (hno1 (by assumption) (by assumption) (by assumption)).elim | exact (hno2 (by assumption) (by first | assumption | omega)).elim | skip
end Go.Proofs.YtgomipfameinoaaGreatDoor

/- A full duct; two diameters; ducts and cables are checked. -/
namespace Go.Proofs.YtgomipfameinoaaGreatDoor
set_option linter.unusedVariables false
set_option linter.unusedSimpArgs false
open Abs

set_option maxRecDepth 100000 in
set_option maxHeartbeats 4000000 in
theorem rFull_pc {L : List Int} {p : Int} (hst : StOk L p) (hp : p ≤ 800000000) :
    PCq 79 [.c (.ptr 0 0)] [stO L p] fun r os => ∃ (d : List Du) (l : List Ly), r = .tup [.c (.lst 5 (d.map encDu)), .c (.lst 3 (l.map encLy))] ∧ os = [stO L (p + 1)] ∧ d.length ≤ 6 ∧ l.length ≤ 100 ∧ (∀ x ∈ l, x.ducts.length ≤ 100) := by
  have hQ : ∀ x : Int, p ≤ x → x ≤ p + 100 → StOk L x := fun x h3 h4 => ⟨hst.1, by have := hst.2.1; omega, by omega⟩
  have hb := nextV_lt L p 3 (by omega)
  have hv : -1 ≤ pickV L p [-1, 0, 1] ∧ pickV L p [-1, 0, 1] ≤ 1 := by
    unfold pickV
    have h3 : ([-1, 0, 1] : List Int).length = 3 := rfl
    rw [h3]
    rcases (show (nextV L p (3 : Nat)).toNat = 0 ∨ (nextV L p (3 : Nat)).toNat = 1 ∨ (nextV L p (3 : Nat)).toNat = 2 by have : ((3 : Nat) : Int) = 3 := rfl; rw [this]; omega) with h | h | h <;> rw [h] <;> decide
  refine fn_soundX (mt := mts) tab_fits tab_mixed Tryz.func79 (by rfl) (by kernel_rfl) (by kernel_rfl) Tryz.results79 (Nat.le_of_ble_eq_true (by kernel_rfl)) ?_
  conv => whnf
  repeat' (first | ((first | refine Split.mk (fun h => ?_) (fun h => ?_) | refine CondG.mk (fun h => ?_) (fun h => ?_)) <;> (try simp only [decide_eq_true_eq, decide_eq_false_iff_not, Bool.not_eq_true', Bool.not_eq_false', beq_iff_eq, beq_eq_false_iff_ne, bne_iff_ne, bne_eq_false_iff_eq] at h) <;> (first | (exfalso; first | omega | exact h trivial | (simp [cutRows] at h; done) | (simp [cutRows] at h; omega)) | (conv => whnf))) | (refine CallX.mk _ _ (by first | exact flip_ok (hQ _ (by omega) (by omega)) _ (by omega) | exact next_ok (hQ _ (by omega) (by omega)) _ (by omega) | exact range_ok (hQ _ (by omega) (by omega)) _ _ (by omega) (small_lit (by omega)) (small_lit (by omega)) | exact odd_ok (hQ _ (by omega) (by omega)) (hQ _ (by omega) (by omega)) _ _ (small_lit (by omega)) (small_lit (by omega)) (by omega) | exact pick_ok (hQ _ (by omega) (by omega)) [_] (by simp) (by simp) | exact pick_ok (hQ _ (by omega) (by omega)) [_, _] (by simp) (by simp) | exact pick_ok (hQ _ (by omega) (by omega)) [_, _, _] (by simp) (by simp) | exact pick_ok (hQ _ (by omega) (by omega)) [_, _, _, _] (by simp) (by simp) | exact pick_ok (hQ _ (by omega) (by omega)) [_, _, _, _, _] (by simp) (by simp) | exact pick_ok (hQ _ (by omega) (by omega)) [_, _, _, _, _, _] (by simp) (by simp) | exact pick_ok (hQ _ (by omega) (by omega)) [_, _, _, _, _, _, _] (by simp) (by simp) | exact pick_ok (hQ _ (by omega) (by omega)) [_, _, _, _, _, _, _, _] (by simp) (by simp) | exact pick_ok (hQ _ (by omega) (by omega)) [_, _, _, _, _, _, _, _, _] (by simp) (by simp) | exact pick_ok (hQ _ (by omega) (by omega)) [_, _, _, _, _, _, _, _, _, _] (by simp) (by simp) | exact some_ok (hQ _ (by omega) (by omega)) [_] (by simp) (by simp) | exact some_ok (hQ _ (by omega) (by omega)) [_, _] (by simp) (by simp) | exact some_ok (hQ _ (by omega) (by omega)) [_, _, _] (by simp) (by simp) | exact some_ok (hQ _ (by omega) (by omega)) [_, _, _, _] (by simp) (by simp) | exact some_ok (hQ _ (by omega) (by omega)) [_, _, _, _, _] (by simp) (by simp) | exact some_ok (hQ _ (by omega) (by omega)) [_, _, _, _, _, _] (by simp) (by simp) | exact some_ok (hQ _ (by omega) (by omega)) [_, _, _, _, _, _, _] (by simp) (by simp) | exact some_ok (hQ _ (by omega) (by omega)) [_, _, _, _, _, _, _, _] (by simp) (by simp)) ?_; conv => whnf) | (refine CallG.mk _ _ (by first | exact flip_ok (hQ _ (by omega) (by omega)) _ (by omega) | exact next_ok (hQ _ (by omega) (by omega)) _ (by omega) | exact range_ok (hQ _ (by omega) (by omega)) _ _ (by omega) (small_lit (by omega)) (small_lit (by omega)) | exact odd_ok (hQ _ (by omega) (by omega)) (hQ _ (by omega) (by omega)) _ _ (small_lit (by omega)) (small_lit (by omega)) (by omega) | exact pick_ok (hQ _ (by omega) (by omega)) [_] (by simp) (by simp) | exact pick_ok (hQ _ (by omega) (by omega)) [_, _] (by simp) (by simp) | exact pick_ok (hQ _ (by omega) (by omega)) [_, _, _] (by simp) (by simp) | exact pick_ok (hQ _ (by omega) (by omega)) [_, _, _, _] (by simp) (by simp) | exact pick_ok (hQ _ (by omega) (by omega)) [_, _, _, _, _] (by simp) (by simp) | exact pick_ok (hQ _ (by omega) (by omega)) [_, _, _, _, _, _] (by simp) (by simp) | exact pick_ok (hQ _ (by omega) (by omega)) [_, _, _, _, _, _, _] (by simp) (by simp) | exact pick_ok (hQ _ (by omega) (by omega)) [_, _, _, _, _, _, _, _] (by simp) (by simp) | exact pick_ok (hQ _ (by omega) (by omega)) [_, _, _, _, _, _, _, _, _] (by simp) (by simp) | exact pick_ok (hQ _ (by omega) (by omega)) [_, _, _, _, _, _, _, _, _, _] (by simp) (by simp) | exact some_ok (hQ _ (by omega) (by omega)) [_] (by simp) (by simp) | exact some_ok (hQ _ (by omega) (by omega)) [_, _] (by simp) (by simp) | exact some_ok (hQ _ (by omega) (by omega)) [_, _, _] (by simp) (by simp) | exact some_ok (hQ _ (by omega) (by omega)) [_, _, _, _] (by simp) (by simp) | exact some_ok (hQ _ (by omega) (by omega)) [_, _, _, _, _] (by simp) (by simp) | exact some_ok (hQ _ (by omega) (by omega)) [_, _, _, _, _, _] (by simp) (by simp) | exact some_ok (hQ _ (by omega) (by omega)) [_, _, _, _, _, _, _] (by simp) (by simp) | exact some_ok (hQ _ (by omega) (by omega)) [_, _, _, _, _, _, _, _] (by simp) (by simp)) ?_; conv => whnf) | (refine Ask.mk (by first | omega | (unfold roomOK; simp [cutRows]; done) | (unfold roomOK; simp [cutRows]; omega) | (simp [cutRows]; done) | (simp [cutRows]; omega)) ?_; conv => whnf) | (refine AppG.mk (by first | omega | (unfold roomOK; simp [cutRows]; done) | (unfold roomOK; simp [cutRows]; omega) | (simp [cutRows]; done) | (simp [cutRows]; omega)) ?_; conv => whnf) | (refine SliceG.fr ?_; conv => whnf) | (refine idx_at _ (by with_reducible rfl) (by first | assumption | omega) ?_; conv => whnf) | ((with_reducible refine row_map (by first | assumption | omega) ?_); conv => whnf) | (refine row_str (by rfl) (by first | (simp [cutRows]; done) | (simp [cutRows]; omega)) ?_; intro str; conv => whnf) | ((with_reducible refine row_set (by first | assumption | omega | (simp only [List.length_set]; omega) | (simp; omega)) ?_); conv => whnf) | fail)
  obtain ⟨n, hn⟩ := Int.eq_ofNat_of_zero_le (show 0 ≤ 20 + pickV L p [-1, 0, 1] by omega)
  rw [wrap_in (by omega) (by omega), hn]
  refine loop_for (n) [.sl 5 56 3] [4, 5, 12, 13] (fun k (l : List Ly) => [(13, .c (.int .i64 (k : Int)))]) (fun k (l : List Ly) => [(2, .row 56 3 (l.map encLy))]) (fun k (l : List Ly) => l.length ≤ k ∧ (∀ x ∈ l, x.ducts.length ≤ 10)) ([]) ?_
  conv => whnf
  refine ⟨(by first | rfl | (simp; done) | (simp; rfl)), ?_, ?_, ?_⟩
  · exact ⟨by simp, by simp⟩
  · intro k l hk ⟨h1, h2⟩
    have hlm : (l.map encLy).length = l.length := List.length_map ..
    conv => whnf
    repeat' (first | ((first | refine Split.mk (fun h => ?_) (fun h => ?_) | refine CondG.mk (fun h => ?_) (fun h => ?_)) <;> (try simp only [decide_eq_true_eq, decide_eq_false_iff_not, Bool.not_eq_true', Bool.not_eq_false', beq_iff_eq, beq_eq_false_iff_ne, bne_iff_ne, bne_eq_false_iff_eq] at h) <;> (first | (exfalso; first | omega | exact h trivial | (simp [cutRows] at h; done) | (simp [cutRows] at h; omega)) | (conv => whnf))) | (refine CallX.mk _ _ (by first | exact flip_ok (hQ _ (by omega) (by omega)) _ (by omega) | exact next_ok (hQ _ (by omega) (by omega)) _ (by omega) | exact range_ok (hQ _ (by omega) (by omega)) _ _ (by omega) (small_lit (by omega)) (small_lit (by omega)) | exact odd_ok (hQ _ (by omega) (by omega)) (hQ _ (by omega) (by omega)) _ _ (small_lit (by omega)) (small_lit (by omega)) (by omega) | exact pick_ok (hQ _ (by omega) (by omega)) [_] (by simp) (by simp) | exact pick_ok (hQ _ (by omega) (by omega)) [_, _] (by simp) (by simp) | exact pick_ok (hQ _ (by omega) (by omega)) [_, _, _] (by simp) (by simp) | exact pick_ok (hQ _ (by omega) (by omega)) [_, _, _, _] (by simp) (by simp) | exact pick_ok (hQ _ (by omega) (by omega)) [_, _, _, _, _] (by simp) (by simp) | exact pick_ok (hQ _ (by omega) (by omega)) [_, _, _, _, _, _] (by simp) (by simp) | exact pick_ok (hQ _ (by omega) (by omega)) [_, _, _, _, _, _, _] (by simp) (by simp) | exact pick_ok (hQ _ (by omega) (by omega)) [_, _, _, _, _, _, _, _] (by simp) (by simp) | exact pick_ok (hQ _ (by omega) (by omega)) [_, _, _, _, _, _, _, _, _] (by simp) (by simp) | exact pick_ok (hQ _ (by omega) (by omega)) [_, _, _, _, _, _, _, _, _, _] (by simp) (by simp) | exact some_ok (hQ _ (by omega) (by omega)) [_] (by simp) (by simp) | exact some_ok (hQ _ (by omega) (by omega)) [_, _] (by simp) (by simp) | exact some_ok (hQ _ (by omega) (by omega)) [_, _, _] (by simp) (by simp) | exact some_ok (hQ _ (by omega) (by omega)) [_, _, _, _] (by simp) (by simp) | exact some_ok (hQ _ (by omega) (by omega)) [_, _, _, _, _] (by simp) (by simp) | exact some_ok (hQ _ (by omega) (by omega)) [_, _, _, _, _, _] (by simp) (by simp) | exact some_ok (hQ _ (by omega) (by omega)) [_, _, _, _, _, _, _] (by simp) (by simp) | exact some_ok (hQ _ (by omega) (by omega)) [_, _, _, _, _, _, _, _] (by simp) (by simp)) ?_; conv => whnf) | (refine CallG.mk _ _ (by first | exact flip_ok (hQ _ (by omega) (by omega)) _ (by omega) | exact next_ok (hQ _ (by omega) (by omega)) _ (by omega) | exact range_ok (hQ _ (by omega) (by omega)) _ _ (by omega) (small_lit (by omega)) (small_lit (by omega)) | exact odd_ok (hQ _ (by omega) (by omega)) (hQ _ (by omega) (by omega)) _ _ (small_lit (by omega)) (small_lit (by omega)) (by omega) | exact pick_ok (hQ _ (by omega) (by omega)) [_] (by simp) (by simp) | exact pick_ok (hQ _ (by omega) (by omega)) [_, _] (by simp) (by simp) | exact pick_ok (hQ _ (by omega) (by omega)) [_, _, _] (by simp) (by simp) | exact pick_ok (hQ _ (by omega) (by omega)) [_, _, _, _] (by simp) (by simp) | exact pick_ok (hQ _ (by omega) (by omega)) [_, _, _, _, _] (by simp) (by simp) | exact pick_ok (hQ _ (by omega) (by omega)) [_, _, _, _, _, _] (by simp) (by simp) | exact pick_ok (hQ _ (by omega) (by omega)) [_, _, _, _, _, _, _] (by simp) (by simp) | exact pick_ok (hQ _ (by omega) (by omega)) [_, _, _, _, _, _, _, _] (by simp) (by simp) | exact pick_ok (hQ _ (by omega) (by omega)) [_, _, _, _, _, _, _, _, _] (by simp) (by simp) | exact pick_ok (hQ _ (by omega) (by omega)) [_, _, _, _, _, _, _, _, _, _] (by simp) (by simp) | exact some_ok (hQ _ (by omega) (by omega)) [_] (by simp) (by simp) | exact some_ok (hQ _ (by omega) (by omega)) [_, _] (by simp) (by simp) | exact some_ok (hQ _ (by omega) (by omega)) [_, _, _] (by simp) (by simp) | exact some_ok (hQ _ (by omega) (by omega)) [_, _, _, _] (by simp) (by simp) | exact some_ok (hQ _ (by omega) (by omega)) [_, _, _, _, _] (by simp) (by simp) | exact some_ok (hQ _ (by omega) (by omega)) [_, _, _, _, _, _] (by simp) (by simp) | exact some_ok (hQ _ (by omega) (by omega)) [_, _, _, _, _, _, _] (by simp) (by simp) | exact some_ok (hQ _ (by omega) (by omega)) [_, _, _, _, _, _, _, _] (by simp) (by simp)) ?_; conv => whnf) | (refine Ask.mk (by first | omega | (unfold roomOK; simp [cutRows]; done) | (unfold roomOK; simp [cutRows]; omega) | (simp [cutRows]; done) | (simp [cutRows]; omega)) ?_; conv => whnf) | (refine AppG.mk (by first | omega | (unfold roomOK; simp [cutRows]; done) | (unfold roomOK; simp [cutRows]; omega) | (simp [cutRows]; done) | (simp [cutRows]; omega)) ?_; conv => whnf) | (refine SliceG.fr ?_; conv => whnf) | (refine idx_at _ (by with_reducible rfl) (by first | assumption | omega) ?_; conv => whnf) | ((with_reducible refine row_map (by first | assumption | omega) ?_); conv => whnf) | (refine row_str (by rfl) (by first | (simp [cutRows]; done) | (simp [cutRows]; omega)) ?_; intro str; conv => whnf) | ((with_reducible refine row_set (by first | assumption | omega | (simp only [List.length_set]; omega) | (simp; omega)) ?_); conv => whnf) | ((refine .mk (lab_ok _ _ (by decide)) ?_); conv => whnf) | fail)
    exact count_next (l ++ [(⟨_, _, [_]⟩ : Ly)]) hk (by rw [wrap_succ hk (by omega), List.map_append]; rfl) ⟨by simp; omega, by intro x hx; rcases List.mem_append.1 hx with hx | hx; exact h2 x hx; simp at hx; subst hx; simp⟩
  · intro l ⟨h1, h2⟩
    have hlm : (l.map encLy).length = l.length := List.length_map ..
    conv => whnf
    repeat' (first | ((first | refine Split.mk (fun h => ?_) (fun h => ?_) | refine CondG.mk (fun h => ?_) (fun h => ?_)) <;> (try simp only [decide_eq_true_eq, decide_eq_false_iff_not, Bool.not_eq_true', Bool.not_eq_false', beq_iff_eq, beq_eq_false_iff_ne, bne_iff_ne, bne_eq_false_iff_eq] at h) <;> (first | (exfalso; first | omega | exact h trivial | (simp [cutRows] at h; done) | (simp [cutRows] at h; omega)) | (conv => whnf))) | (refine CallX.mk _ _ (by first | exact flip_ok (hQ _ (by omega) (by omega)) _ (by omega) | exact next_ok (hQ _ (by omega) (by omega)) _ (by omega) | exact range_ok (hQ _ (by omega) (by omega)) _ _ (by omega) (small_lit (by omega)) (small_lit (by omega)) | exact odd_ok (hQ _ (by omega) (by omega)) (hQ _ (by omega) (by omega)) _ _ (small_lit (by omega)) (small_lit (by omega)) (by omega) | exact pick_ok (hQ _ (by omega) (by omega)) [_] (by simp) (by simp) | exact pick_ok (hQ _ (by omega) (by omega)) [_, _] (by simp) (by simp) | exact pick_ok (hQ _ (by omega) (by omega)) [_, _, _] (by simp) (by simp) | exact pick_ok (hQ _ (by omega) (by omega)) [_, _, _, _] (by simp) (by simp) | exact pick_ok (hQ _ (by omega) (by omega)) [_, _, _, _, _] (by simp) (by simp) | exact pick_ok (hQ _ (by omega) (by omega)) [_, _, _, _, _, _] (by simp) (by simp) | exact pick_ok (hQ _ (by omega) (by omega)) [_, _, _, _, _, _, _] (by simp) (by simp) | exact pick_ok (hQ _ (by omega) (by omega)) [_, _, _, _, _, _, _, _] (by simp) (by simp) | exact pick_ok (hQ _ (by omega) (by omega)) [_, _, _, _, _, _, _, _, _] (by simp) (by simp) | exact pick_ok (hQ _ (by omega) (by omega)) [_, _, _, _, _, _, _, _, _, _] (by simp) (by simp) | exact some_ok (hQ _ (by omega) (by omega)) [_] (by simp) (by simp) | exact some_ok (hQ _ (by omega) (by omega)) [_, _] (by simp) (by simp) | exact some_ok (hQ _ (by omega) (by omega)) [_, _, _] (by simp) (by simp) | exact some_ok (hQ _ (by omega) (by omega)) [_, _, _, _] (by simp) (by simp) | exact some_ok (hQ _ (by omega) (by omega)) [_, _, _, _, _] (by simp) (by simp) | exact some_ok (hQ _ (by omega) (by omega)) [_, _, _, _, _, _] (by simp) (by simp) | exact some_ok (hQ _ (by omega) (by omega)) [_, _, _, _, _, _, _] (by simp) (by simp) | exact some_ok (hQ _ (by omega) (by omega)) [_, _, _, _, _, _, _, _] (by simp) (by simp)) ?_; conv => whnf) | (refine CallG.mk _ _ (by first | exact flip_ok (hQ _ (by omega) (by omega)) _ (by omega) | exact next_ok (hQ _ (by omega) (by omega)) _ (by omega) | exact range_ok (hQ _ (by omega) (by omega)) _ _ (by omega) (small_lit (by omega)) (small_lit (by omega)) | exact odd_ok (hQ _ (by omega) (by omega)) (hQ _ (by omega) (by omega)) _ _ (small_lit (by omega)) (small_lit (by omega)) (by omega) | exact pick_ok (hQ _ (by omega) (by omega)) [_] (by simp) (by simp) | exact pick_ok (hQ _ (by omega) (by omega)) [_, _] (by simp) (by simp) | exact pick_ok (hQ _ (by omega) (by omega)) [_, _, _] (by simp) (by simp) | exact pick_ok (hQ _ (by omega) (by omega)) [_, _, _, _] (by simp) (by simp) | exact pick_ok (hQ _ (by omega) (by omega)) [_, _, _, _, _] (by simp) (by simp) | exact pick_ok (hQ _ (by omega) (by omega)) [_, _, _, _, _, _] (by simp) (by simp) | exact pick_ok (hQ _ (by omega) (by omega)) [_, _, _, _, _, _, _] (by simp) (by simp) | exact pick_ok (hQ _ (by omega) (by omega)) [_, _, _, _, _, _, _, _] (by simp) (by simp) | exact pick_ok (hQ _ (by omega) (by omega)) [_, _, _, _, _, _, _, _, _] (by simp) (by simp) | exact pick_ok (hQ _ (by omega) (by omega)) [_, _, _, _, _, _, _, _, _, _] (by simp) (by simp) | exact some_ok (hQ _ (by omega) (by omega)) [_] (by simp) (by simp) | exact some_ok (hQ _ (by omega) (by omega)) [_, _] (by simp) (by simp) | exact some_ok (hQ _ (by omega) (by omega)) [_, _, _] (by simp) (by simp) | exact some_ok (hQ _ (by omega) (by omega)) [_, _, _, _] (by simp) (by simp) | exact some_ok (hQ _ (by omega) (by omega)) [_, _, _, _, _] (by simp) (by simp) | exact some_ok (hQ _ (by omega) (by omega)) [_, _, _, _, _, _] (by simp) (by simp) | exact some_ok (hQ _ (by omega) (by omega)) [_, _, _, _, _, _, _] (by simp) (by simp) | exact some_ok (hQ _ (by omega) (by omega)) [_, _, _, _, _, _, _, _] (by simp) (by simp)) ?_; conv => whnf) | (refine Ask.mk (by first | omega | (unfold roomOK; simp [cutRows]; done) | (unfold roomOK; simp [cutRows]; omega) | (simp [cutRows]; done) | (simp [cutRows]; omega)) ?_; conv => whnf) | (refine AppG.mk (by first | omega | (unfold roomOK; simp [cutRows]; done) | (unfold roomOK; simp [cutRows]; omega) | (simp [cutRows]; done) | (simp [cutRows]; omega)) ?_; conv => whnf) | (refine SliceG.fr ?_; conv => whnf) | (refine idx_at _ (by with_reducible rfl) (by first | assumption | omega) ?_; conv => whnf) | ((with_reducible refine row_map (by first | assumption | omega) ?_); conv => whnf) | (refine row_str (by rfl) (by first | (simp [cutRows]; done) | (simp [cutRows]; omega)) ?_; intro str; conv => whnf) | ((with_reducible refine row_set (by first | assumption | omega | (simp only [List.length_set]; omega) | (simp; omega)) ?_); conv => whnf) | fail)
    refine .mk _ _ ⟨[⟨⟨#[100, 49]⟩, ⟨#[97]⟩, ⟨#[98]⟩, 10, 1000⟩], l, rfl, rfl, by simp, by omega, fun x hx => Nat.le_trans (h2 x hx) (by decide)⟩ (.frz 1 _ _ _ rfl (.frz 2 _ _ _ rfl (.weak [_, _] (.tup _ _ rfl ?_) rfl (Nat.le_refl _))))
    intro i a b ha hb
    match i with
    | 0 => cases ha; cases hb; exact .fro 1 _ _ rfl
    | 1 => cases ha; cases hb; exact .fro 2 _ _ rfl
end Go.Proofs.YtgomipfameinoaaGreatDoor

/- The law of ducts. -/
namespace Go.Proofs.YtgomipfameinoaaGreatDoor
set_option linter.unusedVariables false
set_option linter.unusedSimpArgs false
open Abs

set_option maxRecDepth 100000 in
set_option maxHeartbeats 4000000 in
theorem ducted_pc : PCp 27 [] [] (.c (.bool true)) [] := by
  have hlk : lyFault [⟨⟨#[100]⟩, ⟨#[97]⟩, ⟨#[98]⟩, 1, 10⟩] [⟨⟨#[107]⟩, 5, [⟨#[100]⟩]⟩] = 0 := by decide +kernel
  have ho : oneE [⟨⟨#[100]⟩, ⟨#[97]⟩, ⟨#[98]⟩, 1, 10⟩] [⟨⟨#[107]⟩, 5, [⟨#[100]⟩]⟩] ⟨#[100]⟩ = 0 := by decide +kernel
  have hv : fillV [⟨⟨#[100]⟩, ⟨#[97]⟩, ⟨#[98]⟩, 1, 10⟩] [⟨⟨#[107]⟩, 5, [⟨#[100]⟩]⟩] ⟨#[100]⟩ = (1, 4) := by decide +kernel
  have hF := dFill_pc [⟨⟨#[100]⟩, ⟨#[97]⟩, ⟨#[98]⟩, 1, 10⟩] [⟨⟨#[107]⟩, 5, [⟨#[100]⟩]⟩] (by simp) ⟨#[100]⟩
  refine fn_sound (mt := mts) tab_fits tab_mixed Tryz.func27 (by rfl) (by kernel_rfl) (by kernel_rfl) Tryz.results27 (Nat.le_of_ble_eq_true (by kernel_rfl)) ?_
  conv => whnf
  rw [ho, hv] at hF
  repeat' (first | ((first | refine Split.mk (fun h => ?_) (fun h => ?_) | refine CondG.mk (fun h => ?_) (fun h => ?_)) <;> (try simp only [decide_eq_true_eq, decide_eq_false_iff_not, Bool.not_eq_true', Bool.not_eq_false', beq_iff_eq, beq_eq_false_iff_ne, bne_iff_ne, bne_eq_false_iff_eq] at h) <;> (first | (exfalso; first | omega | exact h trivial | contradiction | (simp_all [eqRes]; done)) | (conv => whnf))) | (refine CallX.mk _ _ (by first | exact hF) ?_; conv => whnf) | (refine CallG.mk _ _ (by first | exact hF) ?_; conv => whnf) | (refine Ask.mk (by first | omega | (unfold roomOK; simp [cutRows]; done) | (unfold roomOK; simp [cutRows]; omega) | (simp [cutRows]; done) | (simp [cutRows]; omega)) ?_; conv => whnf) | (refine AppG.mk (by first | omega | (unfold roomOK; simp [cutRows]; done) | (unfold roomOK; simp [cutRows]; omega) | (simp [cutRows]; done) | (simp [cutRows]; omega)) ?_; conv => whnf) | (refine SliceG.fr ?_; conv => whnf) | (refine idx_at _ (by with_reducible rfl) (by first | assumption | omega) ?_; conv => whnf) | ((with_reducible refine row_map (by first | assumption | omega) ?_); conv => whnf) | ((with_reducible refine row_set (by first | assumption | omega | (simp only [List.length_set]; omega) | (simp; omega)) ?_); conv => whnf) | fail)
  exact finb rfl
set_option maxRecDepth 100000 in
set_option maxHeartbeats 4000000 in
theorem pair_pc {L : List Int} {p : Int} (hst : StOk L p) (hp : p ≤ 700000000) :
    PCq 17 [.c (.ptr 0 0)] [stO L p] fun r os => ∃ (d : List Du) (l : List Ly) (p' : Int), r = .tup [.c (.lst 5 (d.map encDu)), .c (.lst 3 (l.map encLy))] ∧ os = [stO L p'] ∧ d.length ≤ 6 ∧ l.length ≤ 100 ∧ (∀ x ∈ l, x.ducts.length ≤ 100) ∧ p ≤ p' ∧ p' ≤ p + 1000 := by
  have hS : ∀ x : Int, p ≤ x → x ≤ p + 1000 → StOk L x := fun x h3 h4 => ⟨hst.1, by have := hst.2.1; omega, by omega⟩
  have hQ : ∀ x : Int, p ≤ x → x ≤ p → StOk L x := fun x h3 h4 => hS x (by omega) (by omega)
  refine fn_soundX (mt := mts) tab_fits tab_mixed Tryz.func17 (by rfl) (by kernel_rfl) (by kernel_rfl) Tryz.results17 (Nat.le_of_ble_eq_true (by kernel_rfl)) ?_
  conv => whnf
  repeat' (first | ((first | refine Split.mk (fun h => ?_) (fun h => ?_) | refine CondG.mk (fun h => ?_) (fun h => ?_)) <;> (try simp only [decide_eq_true_eq, decide_eq_false_iff_not, Bool.not_eq_true', Bool.not_eq_false', beq_iff_eq, beq_eq_false_iff_ne, bne_iff_ne, bne_eq_false_iff_eq] at h) <;> (first | (exfalso; first | omega | exact h trivial | (simp [cutRows] at h; done) | (simp [cutRows] at h; omega)) | (conv => whnf))) | (refine CallX.mk _ _ (by first | exact flip_ok (hQ _ (by omega) (by omega)) _ (by omega) | exact next_ok (hQ _ (by omega) (by omega)) _ (by omega) | exact range_ok (hQ _ (by omega) (by omega)) _ _ (by omega) (small_lit (by omega)) (small_lit (by omega)) | exact odd_ok (hQ _ (by omega) (by omega)) (hQ _ (by omega) (by omega)) _ _ (small_lit (by omega)) (small_lit (by omega)) (by omega) | exact pick_ok (hQ _ (by omega) (by omega)) [_] (by simp) (by simp) | exact pick_ok (hQ _ (by omega) (by omega)) [_, _] (by simp) (by simp) | exact pick_ok (hQ _ (by omega) (by omega)) [_, _, _] (by simp) (by simp) | exact pick_ok (hQ _ (by omega) (by omega)) [_, _, _, _] (by simp) (by simp) | exact pick_ok (hQ _ (by omega) (by omega)) [_, _, _, _, _] (by simp) (by simp) | exact pick_ok (hQ _ (by omega) (by omega)) [_, _, _, _, _, _] (by simp) (by simp) | exact pick_ok (hQ _ (by omega) (by omega)) [_, _, _, _, _, _, _] (by simp) (by simp) | exact pick_ok (hQ _ (by omega) (by omega)) [_, _, _, _, _, _, _, _] (by simp) (by simp) | exact pick_ok (hQ _ (by omega) (by omega)) [_, _, _, _, _, _, _, _, _] (by simp) (by simp) | exact pick_ok (hQ _ (by omega) (by omega)) [_, _, _, _, _, _, _, _, _, _] (by simp) (by simp) | exact some_ok (hQ _ (by omega) (by omega)) [_] (by simp) (by simp) | exact some_ok (hQ _ (by omega) (by omega)) [_, _] (by simp) (by simp) | exact some_ok (hQ _ (by omega) (by omega)) [_, _, _] (by simp) (by simp) | exact some_ok (hQ _ (by omega) (by omega)) [_, _, _, _] (by simp) (by simp) | exact some_ok (hQ _ (by omega) (by omega)) [_, _, _, _, _] (by simp) (by simp) | exact some_ok (hQ _ (by omega) (by omega)) [_, _, _, _, _, _] (by simp) (by simp) | exact some_ok (hQ _ (by omega) (by omega)) [_, _, _, _, _, _, _] (by simp) (by simp) | exact some_ok (hQ _ (by omega) (by omega)) [_, _, _, _, _, _, _, _] (by simp) (by simp)) ?_; conv => whnf) | (refine CallG.mk _ _ (by first | exact flip_ok (hQ _ (by omega) (by omega)) _ (by omega) | exact next_ok (hQ _ (by omega) (by omega)) _ (by omega) | exact range_ok (hQ _ (by omega) (by omega)) _ _ (by omega) (small_lit (by omega)) (small_lit (by omega)) | exact odd_ok (hQ _ (by omega) (by omega)) (hQ _ (by omega) (by omega)) _ _ (small_lit (by omega)) (small_lit (by omega)) (by omega) | exact pick_ok (hQ _ (by omega) (by omega)) [_] (by simp) (by simp) | exact pick_ok (hQ _ (by omega) (by omega)) [_, _] (by simp) (by simp) | exact pick_ok (hQ _ (by omega) (by omega)) [_, _, _] (by simp) (by simp) | exact pick_ok (hQ _ (by omega) (by omega)) [_, _, _, _] (by simp) (by simp) | exact pick_ok (hQ _ (by omega) (by omega)) [_, _, _, _, _] (by simp) (by simp) | exact pick_ok (hQ _ (by omega) (by omega)) [_, _, _, _, _, _] (by simp) (by simp) | exact pick_ok (hQ _ (by omega) (by omega)) [_, _, _, _, _, _, _] (by simp) (by simp) | exact pick_ok (hQ _ (by omega) (by omega)) [_, _, _, _, _, _, _, _] (by simp) (by simp) | exact pick_ok (hQ _ (by omega) (by omega)) [_, _, _, _, _, _, _, _, _] (by simp) (by simp) | exact pick_ok (hQ _ (by omega) (by omega)) [_, _, _, _, _, _, _, _, _, _] (by simp) (by simp) | exact some_ok (hQ _ (by omega) (by omega)) [_] (by simp) (by simp) | exact some_ok (hQ _ (by omega) (by omega)) [_, _] (by simp) (by simp) | exact some_ok (hQ _ (by omega) (by omega)) [_, _, _] (by simp) (by simp) | exact some_ok (hQ _ (by omega) (by omega)) [_, _, _, _] (by simp) (by simp) | exact some_ok (hQ _ (by omega) (by omega)) [_, _, _, _, _] (by simp) (by simp) | exact some_ok (hQ _ (by omega) (by omega)) [_, _, _, _, _, _] (by simp) (by simp) | exact some_ok (hQ _ (by omega) (by omega)) [_, _, _, _, _, _, _] (by simp) (by simp) | exact some_ok (hQ _ (by omega) (by omega)) [_, _, _, _, _, _, _, _] (by simp) (by simp)) ?_; conv => whnf) | (refine Ask.mk (by first | omega | (unfold roomOK; simp [cutRows]; done) | (unfold roomOK; simp [cutRows]; omega) | (simp [cutRows]; done) | (simp [cutRows]; omega)) ?_; conv => whnf) | (refine AppG.mk (by first | omega | (unfold roomOK; simp [cutRows]; done) | (unfold roomOK; simp [cutRows]; omega) | (simp [cutRows]; done) | (simp [cutRows]; omega)) ?_; conv => whnf) | (refine SliceG.fr ?_; conv => whnf) | (refine idx_at _ (by with_reducible rfl) (by first | assumption | omega) ?_; conv => whnf) | ((with_reducible refine row_map (by first | assumption | omega) ?_); conv => whnf) | (refine row_str (by rfl) (by first | (simp [cutRows]; done) | (simp [cutRows]; omega)) ?_; intro str; conv => whnf) | ((with_reducible refine row_set (by first | assumption | omega | (simp only [List.length_set]; omega) | (simp; omega)) ?_); conv => whnf) | fail)
  · refine .ex _ (rFull_pc (hS (p + 1) (by omega) (by omega)) (by omega)) ?_
    rintro _ _ ⟨d, l, rfl, rfl, h1, h2, h3⟩
    conv => whnf
    repeat' (first | ((first | refine Split.mk (fun h => ?_) (fun h => ?_) | refine CondG.mk (fun h => ?_) (fun h => ?_)) <;> (try simp only [decide_eq_true_eq, decide_eq_false_iff_not, Bool.not_eq_true', Bool.not_eq_false', beq_iff_eq, beq_eq_false_iff_ne, bne_iff_ne, bne_eq_false_iff_eq] at h) <;> (first | (exfalso; first | omega | exact h trivial) | (conv => whnf))) | (refine Ask.mk (by first | omega | (unfold roomOK; simp [cutRows]; done) | (unfold roomOK; simp [cutRows]; omega) | (simp [cutRows]; done) | (simp [cutRows]; omega)) ?_; conv => whnf) | (refine AppG.mk (by first | omega | (unfold roomOK; simp [cutRows]; done) | (unfold roomOK; simp [cutRows]; omega) | (simp [cutRows]; done) | (simp [cutRows]; omega)) ?_; conv => whnf) | (refine SliceG.fr ?_; conv => whnf) | (refine idx_at _ (by with_reducible rfl) (by first | assumption | omega) ?_; conv => whnf) | ((with_reducible refine row_map (by first | assumption | omega) ?_); conv => whnf) | ((with_reducible refine row_set (by first | assumption | omega | (simp only [List.length_set]; omega) | (simp; omega)) ?_); conv => whnf) | fail)
    exact .mk _ _ ⟨d, l, _, rfl, rfl, h1, h2, h3, by omega, by omega⟩ (.mk ⟨rfl, rfl⟩)
  · refine .ex _ (rDucts_pc (hS (p + 1) (by omega) (by omega)) (by omega)) ?_
    rintro _ _ ⟨d, p1, rfl, rfl, h1, h2, h3⟩
    conv => whnf
    repeat' (first | ((first | refine Split.mk (fun h => ?_) (fun h => ?_) | refine CondG.mk (fun h => ?_) (fun h => ?_)) <;> (try simp only [decide_eq_true_eq, decide_eq_false_iff_not, Bool.not_eq_true', Bool.not_eq_false', beq_iff_eq, beq_eq_false_iff_ne, bne_iff_ne, bne_eq_false_iff_eq] at h) <;> (first | (exfalso; first | omega | exact h trivial) | (conv => whnf))) | (refine Ask.mk (by first | omega | (unfold roomOK; simp [cutRows]; done) | (unfold roomOK; simp [cutRows]; omega) | (simp [cutRows]; done) | (simp [cutRows]; omega)) ?_; conv => whnf) | (refine AppG.mk (by first | omega | (unfold roomOK; simp [cutRows]; done) | (unfold roomOK; simp [cutRows]; omega) | (simp [cutRows]; done) | (simp [cutRows]; omega)) ?_; conv => whnf) | (refine SliceG.fr ?_; conv => whnf) | (refine idx_at _ (by with_reducible rfl) (by first | assumption | omega) ?_; conv => whnf) | ((with_reducible refine row_map (by first | assumption | omega) ?_); conv => whnf) | ((with_reducible refine row_set (by first | assumption | omega | (simp only [List.length_set]; omega) | (simp; omega)) ?_); conv => whnf) | fail)
    refine .ex _ (rLyIn_pc (hS p1 (by omega) (by omega)) (by omega) d h1) ?_
    rintro _ _ ⟨l, p2, rfl, rfl, h4, h5, h6, h7⟩
    conv => whnf
    repeat' (first | ((first | refine Split.mk (fun h => ?_) (fun h => ?_) | refine CondG.mk (fun h => ?_) (fun h => ?_)) <;> (try simp only [decide_eq_true_eq, decide_eq_false_iff_not, Bool.not_eq_true', Bool.not_eq_false', beq_iff_eq, beq_eq_false_iff_ne, bne_iff_ne, bne_eq_false_iff_eq] at h) <;> (first | (exfalso; first | omega | exact h trivial) | (conv => whnf))) | (refine Ask.mk (by first | omega | (unfold roomOK; simp [cutRows]; done) | (unfold roomOK; simp [cutRows]; omega) | (simp [cutRows]; done) | (simp [cutRows]; omega)) ?_; conv => whnf) | (refine AppG.mk (by first | omega | (unfold roomOK; simp [cutRows]; done) | (unfold roomOK; simp [cutRows]; omega) | (simp [cutRows]; done) | (simp [cutRows]; omega)) ?_; conv => whnf) | (refine SliceG.fr ?_; conv => whnf) | (refine idx_at _ (by with_reducible rfl) (by first | assumption | omega) ?_; conv => whnf) | ((with_reducible refine row_map (by first | assumption | omega) ?_); conv => whnf) | ((with_reducible refine row_set (by first | assumption | omega | (simp only [List.length_set]; omega) | (simp; omega)) ?_); conv => whnf) | fail)
    exact .mk _ _ ⟨d, l, _, rfl, rfl, h1, by omega, h5, by omega, by omega⟩ (.mk ⟨rfl, rfl⟩)
end Go.Proofs.YtgomipfameinoaaGreatDoor

/- The law of repairs. -/
namespace Go.Proofs.YtgomipfameinoaaGreatDoor
set_option linter.unusedVariables false
set_option linter.unusedSimpArgs false
open Abs

theorem eqSsS (l : List ByteArray) (hl : l.length ≤ 1000000) : PCp 97 [.c (.lst 1 (l.map encS)), .c (.lst 1 (l.map encS))] [] (.c (.bool true)) [] := by
  have := equalS_pc l l hl
  rwa [decide_eq_true rfl] at this
end Go.Proofs.YtgomipfameinoaaGreatDoor

/- The law of the texts of ducts and cables. -/
namespace Go.Proofs.YtgomipfameinoaaGreatDoor
set_option linter.unusedVariables false
set_option linter.unusedSimpArgs false
open Abs

theorem fin4n {x y : S} {sz sz2 : Nat} {os : List Ob} : FinR 0 (.tup [.c (.lst sz []), .c (.lst sz2 []), x, y]) [] (.tup [.c .nils, .c .nils, x, y]) os :=
  .weak os (.tup _ _ rfl (by
    intro i a b ha hb
    match i with
    | 0 => cases ha; cases hb; exact .nil sz
    | 1 => cases ha; cases hb; exact .nil sz2
    | 2 => cases ha; cases hb; exact .refl _
    | 3 => cases ha; cases hb; exact .refl _)) rfl (Nat.le_refl _)
theorem fin4f {x y : S} {l sz l2 sz2 : Nat} {rows rows2 : List (List V)} {os : List Ob} (h : os[l]? = some (.frow sz rows)) (h2 : os[l2]? = some (.frow sz2 rows2)) : FinR 0 (.tup [.c (.lst sz rows), .c (.lst sz2 rows2), x, y]) [] (.tup [.c (.row l), .c (.row l2), x, y]) os :=
  .weak os (.tup _ _ rfl (by
    intro i a b ha hb
    match i with
    | 0 => cases ha; cases hb; exact .fro l sz rows h
    | 1 => cases ha; cases hb; exact .fro l2 sz2 rows2 h2
    | 2 => cases ha; cases hb; exact .refl _
    | 3 => cases ha; cases hb; exact .refl _)) rfl (Nat.le_refl _)
def lyF (s : duS) : Int := lyFault s.1 s.2
def duRd (tl : List UInt8) : Rd duS := readV (duSt false nvP) ([], []) lyF tl
theorem duRd_two (tl : List UInt8) : readV (duSt true nvD) ([], []) lyF tl = duRd tl := (readV_two _ _ ([], []) lyF duSt_two1 duSt_two2 tl).symm
def LySmo (s : duS) : Prop := ∀ x ∈ s.2, x.ducts.length ≤ 1000000
theorem duSt_sm (all : Bool) (nv : ByteArray → Int) (s : duS) (x : List UInt8) (h : LySmo s) (hx : x.length ≤ 999998) : LySmo (duSt all nv s x).1 := by
  unfold duSt
  (repeat' split) <;> first | exact h | skip
  intro y hy
  rcases List.mem_append.1 hy with hy | hy
  · exact h y hy
  · have := List.mem_singleton.1 hy
    subst this
    have h1 := splB_len 32 (BL x)
    rw [bl_size] at h1
    simp only [List.length_drop]
    omega
theorem duSt_all (all : Bool) (nv : ByteArray → Int) (tl : List UInt8) (ht : tl.length ≤ 999998) : LySmo (goL (duSt all nv) ([], []) 0 (spl 10 tl)).1 :=
  goL_inv (duSt all nv) LySmo (fun x => x.length ≤ 999998) (fun s x h hx => duSt_sm all nv s x h hx) _ _ _ (fun x hx => by simp at hx) (fun x hx => Nat.le_trans (spl_mem 10 _ x hx) ht)
theorem duSt_gr (all : Bool) (nv : ByteArray → Int) (st : duS) (x : List UInt8) : (duSt all nv st x).1.1.length + (duSt all nv st x).1.2.length ≤ st.1.length + st.2.length + 1 := duSt_grow all nv st x
theorem duGo_len (all : Bool) (nv : ByteArray → Int) (tl : List UInt8) : (goL (duSt all nv) ([], []) 0 (spl 10 tl)).1.1.length + (goL (duSt all nv) ([], []) 0 (spl 10 tl)).1.2.length ≤ tl.length + 1 := by
  have h1 := goL_grow (duSt all nv) duLen (duSt_grow all nv) (spl 10 tl) ([], []) 0
  have h2 := spl_len 10 tl
  have h3 : duLen ([], []) = 0 := rfl
  rw [h3] at h1
  unfold duLen at h1
  omega
set_option maxRecDepth 100000 in
set_option maxHeartbeats 4000000 in
theorem dRead_pc (tl : List UInt8) (ht : tl.length ≤ 900000) : PCp 22 [.c (.str (BL tl))] [] (.tup [.c (.lst 5 ((duRd tl).v.1.map encDu)), .c (.lst 3 ((duRd tl).v.2.map encLy)), .c (.int .i64 ((duRd tl).i : Nat)), .c (.int .i64 (duRd tl).e)]) [] := by
  have hbz := bl_size tl
  by_cases h0 : 200000 < tl.length
  · rw [show duRd tl = ⟨([], []), 0, 2⟩ by unfold duRd readV; rw [if_pos h0]]
    refine fn_sound (mt := mts) tab_fits tab_mixed Tryz.func22 (by rfl) (by kernel_rfl) (by kernel_rfl) Tryz.results22 (Nat.le_of_ble_eq_true (by kernel_rfl)) ?_
    conv => whnf
    repeat' (first | ((first | refine Split.mk (fun h => ?_) (fun h => ?_) | refine CondG.mk (fun h => ?_) (fun h => ?_)) <;> (try simp only [decide_eq_true_eq, decide_eq_false_iff_not, Bool.not_eq_true', Bool.not_eq_false', beq_iff_eq, beq_eq_false_iff_ne, bne_iff_ne, bne_eq_false_iff_eq] at h) <;> (first | (exfalso; first | omega | exact h trivial) | (conv => whnf))) | (refine Ask.mk (by first | omega | (unfold roomOK; simp [cutRows]; done) | (unfold roomOK; simp [cutRows]; omega) | (simp [cutRows]; done) | (simp [cutRows]; omega)) ?_; conv => whnf) | (refine AppG.mk (by first | omega | (unfold roomOK; simp [cutRows]; done) | (unfold roomOK; simp [cutRows]; omega) | (simp [cutRows]; done) | (simp [cutRows]; omega)) ?_; conv => whnf) | (refine SliceG.fr ?_; conv => whnf) | (refine idx_at _ (by with_reducible rfl) (by first | assumption | omega) ?_; conv => whnf) | ((with_reducible refine row_map (by first | assumption | omega) ?_); conv => whnf) | ((with_reducible refine row_set (by first | assumption | omega | (simp only [List.length_set]; omega) | (simp; omega)) ?_); conv => whnf) | fail)
    exact fin4n
  · have cE := each2_pc 91 (duSt false nvP) (duSt_gr false nvP) dRead1_pc tl (by omega)
    have hlen := duGo_len false nvP tl
    have hsm := duSt_all false nvP tl (by omega)
    obtain ⟨q, hq⟩ : ∃ q, goL (duSt false nvP) ([], []) 0 (spl 10 tl) = q := ⟨_, rfl⟩
    rw [hq] at cE hlen hsm
    obtain ⟨⟨d, l⟩, i, ok⟩ := q
    simp only at cE hlen
    obtain ⟨r1, r2, r3⟩ := readV_cases (fault := lyF) hq h0
    have cF := checkLying_pc d l hsm
    unfold duRd
    cases ok with
    | false =>
      rw [r1 rfl]
      refine fn_sound (mt := mts) tab_fits tab_mixed Tryz.func22 (by rfl) (by kernel_rfl) (by kernel_rfl) Tryz.results22 (Nat.le_of_ble_eq_true (by kernel_rfl)) ?_
      conv => whnf
      repeat' (first | ((first | refine Split.mk (fun h => ?_) (fun h => ?_) | refine CondG.mk (fun h => ?_) (fun h => ?_)) <;> (try simp only [decide_eq_true_eq, decide_eq_false_iff_not, Bool.not_eq_true', Bool.not_eq_false', beq_iff_eq, beq_eq_false_iff_ne, bne_iff_ne, bne_eq_false_iff_eq] at h) <;> (first | (exfalso; first | omega | exact h trivial) | (conv => whnf))) | (refine CallX.mk _ _ (by first | exact cE) ?_; conv => whnf) | (refine CallG.mk _ _ (by first | exact cE) ?_; conv => whnf) | (refine Ask.mk (by first | omega | (unfold roomOK; simp [cutRows]; done) | (unfold roomOK; simp [cutRows]; omega) | (simp [cutRows]; done) | (simp [cutRows]; omega)) ?_; conv => whnf) | (refine AppG.mk (by first | omega | (unfold roomOK; simp [cutRows]; done) | (unfold roomOK; simp [cutRows]; omega) | (simp [cutRows]; done) | (simp [cutRows]; omega)) ?_; conv => whnf) | (refine SliceG.fr ?_; conv => whnf) | (refine idx_at _ (by with_reducible rfl) (by first | assumption | omega) ?_; conv => whnf) | ((with_reducible refine row_map (by first | assumption | omega) ?_); conv => whnf) | ((with_reducible refine row_set (by first | assumption | omega | (simp only [List.length_set]; omega) | (simp; omega)) ?_); conv => whnf) | fail)
      all_goals first | (cases ‹true = false›; done) | (cases ‹false = true›; done) | skip
      exact fin4n
    | true =>
      by_cases hf : lyFault d l = 0
      · rw [r3 rfl hf]
        rw [hf] at cF
        refine fn_sound (mt := mts) tab_fits tab_mixed Tryz.func22 (by rfl) (by kernel_rfl) (by kernel_rfl) Tryz.results22 (Nat.le_of_ble_eq_true (by kernel_rfl)) ?_
        conv => whnf
        repeat' (first | ((first | refine Split.mk (fun h => ?_) (fun h => ?_) | refine CondG.mk (fun h => ?_) (fun h => ?_)) <;> (try simp only [decide_eq_true_eq, decide_eq_false_iff_not, Bool.not_eq_true', Bool.not_eq_false', beq_iff_eq, beq_eq_false_iff_ne, bne_iff_ne, bne_eq_false_iff_eq] at h) <;> (first | (exfalso; first | omega | exact h trivial) | (conv => whnf))) | (refine CallX.mk _ _ (by first | exact cE | exact cF) ?_; conv => whnf) | (refine CallG.mk _ _ (by first | exact cE | exact cF) ?_; conv => whnf) | (refine Ask.mk (by first | omega | (unfold roomOK; simp [cutRows]; done) | (unfold roomOK; simp [cutRows]; omega) | (simp [cutRows]; done) | (simp [cutRows]; omega)) ?_; conv => whnf) | (refine AppG.mk (by first | omega | (unfold roomOK; simp [cutRows]; done) | (unfold roomOK; simp [cutRows]; omega) | (simp [cutRows]; done) | (simp [cutRows]; omega)) ?_; conv => whnf) | (refine SliceG.fr ?_; conv => whnf) | (refine idx_at _ (by with_reducible rfl) (by first | assumption | omega) ?_; conv => whnf) | ((with_reducible refine row_map (by first | assumption | omega) ?_); conv => whnf) | ((with_reducible refine row_set (by first | assumption | omega | (simp only [List.length_set]; omega) | (simp; omega)) ?_); conv => whnf) | fail)
        all_goals first | (cases ‹true = false›; done) | (cases ‹false = true›; done) | skip
        exact fin4f rfl rfl
      · rw [r2 rfl hf]
        refine fn_sound (mt := mts) tab_fits tab_mixed Tryz.func22 (by rfl) (by kernel_rfl) (by kernel_rfl) Tryz.results22 (Nat.le_of_ble_eq_true (by kernel_rfl)) ?_
        conv => whnf
        repeat' (first | ((first | refine Split.mk (fun h => ?_) (fun h => ?_) | refine CondG.mk (fun h => ?_) (fun h => ?_)) <;> (try simp only [decide_eq_true_eq, decide_eq_false_iff_not, Bool.not_eq_true', Bool.not_eq_false', beq_iff_eq, beq_eq_false_iff_ne, bne_iff_ne, bne_eq_false_iff_eq] at h) <;> (first | (exfalso; first | omega | exact h trivial) | (conv => whnf))) | (refine CallX.mk _ _ (by first | exact cE | exact cF) ?_; conv => whnf) | (refine CallG.mk _ _ (by first | exact cE | exact cF) ?_; conv => whnf) | (refine Ask.mk (by first | omega | (unfold roomOK; simp [cutRows]; done) | (unfold roomOK; simp [cutRows]; omega) | (simp [cutRows]; done) | (simp [cutRows]; omega)) ?_; conv => whnf) | (refine AppG.mk (by first | omega | (unfold roomOK; simp [cutRows]; done) | (unfold roomOK; simp [cutRows]; omega) | (simp [cutRows]; done) | (simp [cutRows]; omega)) ?_; conv => whnf) | (refine SliceG.fr ?_; conv => whnf) | (refine idx_at _ (by with_reducible rfl) (by first | assumption | omega) ?_; conv => whnf) | ((with_reducible refine row_map (by first | assumption | omega) ?_); conv => whnf) | ((with_reducible refine row_set (by first | assumption | omega | (simp only [List.length_set]; omega) | (simp; omega)) ?_); conv => whnf) | fail)
        all_goals first | (cases ‹true = false›; done) | (cases ‹false = true›; done) | (exact absurd (by assumption) hf) | skip
        exact fin4n
set_option maxRecDepth 100000 in
set_option maxHeartbeats 4000000 in
theorem rDuRead_pc (tl : List UInt8) (ht : tl.length ≤ 900000) : PCp 23 [.c (.str (BL tl))] [] (.tup [.c (.lst 5 ((duRd tl).v.1.map encDu)), .c (.lst 3 ((duRd tl).v.2.map encLy)), .c (.int .i64 ((duRd tl).i : Nat)), .c (.int .i64 (duRd tl).e)]) [] := by
  have hbz := bl_size tl
  rw [← duRd_two]
  by_cases h0 : 200000 < tl.length
  · rw [show readV (duSt true nvD) ([], []) lyF tl = ⟨([], []), 0, 2⟩ by unfold readV; rw [if_pos h0]]
    refine fn_sound (mt := mts) tab_fits tab_mixed Tryz.func23 (by rfl) (by kernel_rfl) (by kernel_rfl) Tryz.results23 (Nat.le_of_ble_eq_true (by kernel_rfl)) ?_
    conv => whnf
    repeat' (first | ((first | refine Split.mk (fun h => ?_) (fun h => ?_) | refine CondG.mk (fun h => ?_) (fun h => ?_)) <;> (try simp only [decide_eq_true_eq, decide_eq_false_iff_not, Bool.not_eq_true', Bool.not_eq_false', beq_iff_eq, beq_eq_false_iff_ne, bne_iff_ne, bne_eq_false_iff_eq] at h) <;> (first | (exfalso; first | omega | exact h trivial) | (conv => whnf))) | (refine Ask.mk (by first | omega | (unfold roomOK; simp [cutRows]; done) | (unfold roomOK; simp [cutRows]; omega) | (simp [cutRows]; done) | (simp [cutRows]; omega)) ?_; conv => whnf) | (refine AppG.mk (by first | omega | (unfold roomOK; simp [cutRows]; done) | (unfold roomOK; simp [cutRows]; omega) | (simp [cutRows]; done) | (simp [cutRows]; omega)) ?_; conv => whnf) | (refine SliceG.fr ?_; conv => whnf) | (refine idx_at _ (by with_reducible rfl) (by first | assumption | omega) ?_; conv => whnf) | ((with_reducible refine row_map (by first | assumption | omega) ?_); conv => whnf) | ((with_reducible refine row_set (by first | assumption | omega | (simp only [List.length_set]; omega) | (simp; omega)) ?_); conv => whnf) | fail)
    exact fin4n
  · have cE := lines2_pc 95 (duSt true nvD) (duSt_gr true nvD) rDuRead1_pc tl (by omega)
    have hlen := duGo_len true nvD tl
    have hsm := duSt_all true nvD tl (by omega)
    obtain ⟨q, hq⟩ : ∃ q, goL (duSt true nvD) ([], []) 0 (spl 10 tl) = q := ⟨_, rfl⟩
    rw [hq] at cE hlen hsm
    obtain ⟨⟨d, l⟩, i, ok⟩ := q
    simp only at cE hlen
    obtain ⟨r1, r2, r3⟩ := readV_cases (fault := lyF) hq h0
    have cF := rLyingFault_pc d l hsm
    cases ok with
    | false =>
      rw [r1 rfl]
      refine fn_sound (mt := mts) tab_fits tab_mixed Tryz.func23 (by rfl) (by kernel_rfl) (by kernel_rfl) Tryz.results23 (Nat.le_of_ble_eq_true (by kernel_rfl)) ?_
      conv => whnf
      repeat' (first | ((first | refine Split.mk (fun h => ?_) (fun h => ?_) | refine CondG.mk (fun h => ?_) (fun h => ?_)) <;> (try simp only [decide_eq_true_eq, decide_eq_false_iff_not, Bool.not_eq_true', Bool.not_eq_false', beq_iff_eq, beq_eq_false_iff_ne, bne_iff_ne, bne_eq_false_iff_eq] at h) <;> (first | (exfalso; first | omega | exact h trivial) | (conv => whnf))) | (refine CallX.mk _ _ (by first | exact cE) ?_; conv => whnf) | (refine CallG.mk _ _ (by first | exact cE) ?_; conv => whnf) | (refine Ask.mk (by first | omega | (unfold roomOK; simp [cutRows]; done) | (unfold roomOK; simp [cutRows]; omega) | (simp [cutRows]; done) | (simp [cutRows]; omega)) ?_; conv => whnf) | (refine AppG.mk (by first | omega | (unfold roomOK; simp [cutRows]; done) | (unfold roomOK; simp [cutRows]; omega) | (simp [cutRows]; done) | (simp [cutRows]; omega)) ?_; conv => whnf) | (refine SliceG.fr ?_; conv => whnf) | (refine idx_at _ (by with_reducible rfl) (by first | assumption | omega) ?_; conv => whnf) | ((with_reducible refine row_map (by first | assumption | omega) ?_); conv => whnf) | ((with_reducible refine row_set (by first | assumption | omega | (simp only [List.length_set]; omega) | (simp; omega)) ?_); conv => whnf) | fail)
      all_goals first | (cases ‹true = false›; done) | (cases ‹false = true›; done) | skip
      exact fin4n
    | true =>
      by_cases hf : lyFault d l = 0
      · rw [r3 rfl hf]
        rw [hf] at cF
        refine fn_sound (mt := mts) tab_fits tab_mixed Tryz.func23 (by rfl) (by kernel_rfl) (by kernel_rfl) Tryz.results23 (Nat.le_of_ble_eq_true (by kernel_rfl)) ?_
        conv => whnf
        repeat' (first | ((first | refine Split.mk (fun h => ?_) (fun h => ?_) | refine CondG.mk (fun h => ?_) (fun h => ?_)) <;> (try simp only [decide_eq_true_eq, decide_eq_false_iff_not, Bool.not_eq_true', Bool.not_eq_false', beq_iff_eq, beq_eq_false_iff_ne, bne_iff_ne, bne_eq_false_iff_eq] at h) <;> (first | (exfalso; first | omega | exact h trivial) | (conv => whnf))) | (refine CallX.mk _ _ (by first | exact cE | exact cF) ?_; conv => whnf) | (refine CallG.mk _ _ (by first | exact cE | exact cF) ?_; conv => whnf) | (refine Ask.mk (by first | omega | (unfold roomOK; simp [cutRows]; done) | (unfold roomOK; simp [cutRows]; omega) | (simp [cutRows]; done) | (simp [cutRows]; omega)) ?_; conv => whnf) | (refine AppG.mk (by first | omega | (unfold roomOK; simp [cutRows]; done) | (unfold roomOK; simp [cutRows]; omega) | (simp [cutRows]; done) | (simp [cutRows]; omega)) ?_; conv => whnf) | (refine SliceG.fr ?_; conv => whnf) | (refine idx_at _ (by with_reducible rfl) (by first | assumption | omega) ?_; conv => whnf) | ((with_reducible refine row_map (by first | assumption | omega) ?_); conv => whnf) | ((with_reducible refine row_set (by first | assumption | omega | (simp only [List.length_set]; omega) | (simp; omega)) ?_); conv => whnf) | fail)
        all_goals first | (cases ‹true = false›; done) | (cases ‹false = true›; done) | skip
        exact fin4f rfl rfl
      · rw [r2 rfl hf]
        refine fn_sound (mt := mts) tab_fits tab_mixed Tryz.func23 (by rfl) (by kernel_rfl) (by kernel_rfl) Tryz.results23 (Nat.le_of_ble_eq_true (by kernel_rfl)) ?_
        conv => whnf
        repeat' (first | ((first | refine Split.mk (fun h => ?_) (fun h => ?_) | refine CondG.mk (fun h => ?_) (fun h => ?_)) <;> (try simp only [decide_eq_true_eq, decide_eq_false_iff_not, Bool.not_eq_true', Bool.not_eq_false', beq_iff_eq, beq_eq_false_iff_ne, bne_iff_ne, bne_eq_false_iff_eq] at h) <;> (first | (exfalso; first | omega | exact h trivial) | (conv => whnf))) | (refine CallX.mk _ _ (by first | exact cE | exact cF) ?_; conv => whnf) | (refine CallG.mk _ _ (by first | exact cE | exact cF) ?_; conv => whnf) | (refine Ask.mk (by first | omega | (unfold roomOK; simp [cutRows]; done) | (unfold roomOK; simp [cutRows]; omega) | (simp [cutRows]; done) | (simp [cutRows]; omega)) ?_; conv => whnf) | (refine AppG.mk (by first | omega | (unfold roomOK; simp [cutRows]; done) | (unfold roomOK; simp [cutRows]; omega) | (simp [cutRows]; done) | (simp [cutRows]; omega)) ?_; conv => whnf) | (refine SliceG.fr ?_; conv => whnf) | (refine idx_at _ (by with_reducible rfl) (by first | assumption | omega) ?_; conv => whnf) | ((with_reducible refine row_map (by first | assumption | omega) ?_); conv => whnf) | ((with_reducible refine row_set (by first | assumption | omega | (simp only [List.length_set]; omega) | (simp; omega)) ?_); conv => whnf) | fail)
        all_goals first | (cases ‹true = false›; done) | (cases ‹false = true›; done) | (exact absurd (by assumption) hf) | skip
        exact fin4n
set_option maxRecDepth 100000 in
set_option maxHeartbeats 4000000 in
theorem sameLy_pc (x : Ly) (hx : x.ducts.length ≤ 1000000) : PCp 26 [.agg (encLy x), .agg (encLy x)] [] (.c (.bool true)) [] := by
  have c1 := eqSsS x.ducts hx
  refine fn_sound (mt := mts) tab_fits tab_mixed Tryz.func26 (by rfl) (by kernel_rfl) (by kernel_rfl) Tryz.results26 (Nat.le_of_ble_eq_true (by kernel_rfl)) ?_
  conv => whnf
  repeat' (first | ((first | refine Split.mk (fun h => ?_) (fun h => ?_) | refine CondG.mk (fun h => ?_) (fun h => ?_)) <;> (try simp only [decide_eq_true_eq, decide_eq_false_iff_not, Bool.not_eq_true', Bool.not_eq_false', beq_iff_eq, beq_eq_false_iff_ne, bne_iff_ne, bne_eq_false_iff_eq] at h) <;> (first | (exfalso; first | omega | exact h trivial | contradiction | (simp_all [eqRes]; done)) | (conv => whnf))) | (refine CallX.mk _ _ (by first | exact c1) ?_; conv => whnf) | (refine CallG.mk _ _ (by first | exact c1) ?_; conv => whnf) | (refine Ask.mk (by first | omega | (unfold roomOK; simp [cutRows]; done) | (unfold roomOK; simp [cutRows]; omega) | (simp [cutRows]; done) | (simp [cutRows]; omega)) ?_; conv => whnf) | (refine AppG.mk (by first | omega | (unfold roomOK; simp [cutRows]; done) | (unfold roomOK; simp [cutRows]; omega) | (simp [cutRows]; done) | (simp [cutRows]; omega)) ?_; conv => whnf) | (refine SliceG.fr ?_; conv => whnf) | (refine idx_at _ (by with_reducible rfl) (by first | assumption | omega) ?_; conv => whnf) | ((with_reducible refine row_map (by first | assumption | omega) ?_); conv => whnf) | ((with_reducible refine row_set (by first | assumption | omega | (simp only [List.length_set]; omega) | (simp; omega)) ?_); conv => whnf) | fail)
  all_goals exact finb rfl
set_option maxRecDepth 100000 in
set_option maxHeartbeats 4000000 in
theorem eqFuncLy_pc (s : List Ly) (hl : s.length ≤ 1000000) (hx : ∀ x ∈ s, x.ducts.length ≤ 1000000) : PCp 25 [.c (.lst 3 (s.map encLy)), .c (.lst 3 (s.map encLy)), .c (.fn 26 [])] [] (.c (.bool true)) [] := by
  have hlm : (s.map encLy).length = s.length := List.length_map ..
  refine fn_sound (mt := mts) tab_fits tab_mixed Tryz.func25 (by rfl) (by kernel_rfl) (by kernel_rfl) Tryz.results25 (Nat.le_of_ble_eq_true (by kernel_rfl)) ?_
  conv => whnf
  repeat' (first | ((first | refine Split.mk (fun h => ?_) (fun h => ?_) | refine CondG.mk (fun h => ?_) (fun h => ?_)) <;> (try simp only [decide_eq_true_eq, decide_eq_false_iff_not, Bool.not_eq_true', Bool.not_eq_false', beq_iff_eq, beq_eq_false_iff_ne, bne_iff_ne, bne_eq_false_iff_eq] at h) <;> (first | (exfalso; first | omega | exact h trivial | contradiction | (simp_all [eqRes]; done)) | (conv => whnf))) | (refine Ask.mk (by first | omega | (unfold roomOK; simp [cutRows]; done) | (unfold roomOK; simp [cutRows]; omega) | (simp [cutRows]; done) | (simp [cutRows]; omega)) ?_; conv => whnf) | (refine AppG.mk (by first | omega | (unfold roomOK; simp [cutRows]; done) | (unfold roomOK; simp [cutRows]; omega) | (simp [cutRows]; done) | (simp [cutRows]; omega)) ?_; conv => whnf) | (refine SliceG.fr ?_; conv => whnf) | (refine idx_at _ (by with_reducible rfl) (by first | assumption | omega) ?_; conv => whnf) | ((with_reducible refine row_map (by first | assumption | omega) ?_); conv => whnf) | ((with_reducible refine row_set (by first | assumption | omega | (simp only [List.length_set]; omega) | (simp; omega)) ?_); conv => whnf) | fail)
  refine loop_for (s.length) [] [1, 2, 15, 16, 17] (fun k (_ : Unit) => [(17, .c (.int .i64 (k : Int)))]) (fun k (_ : Unit) => []) (fun k (_ : Unit) => True) (()) ?_
  conv => whnf
  refine ⟨(by first | rfl | (simp; done) | (simp; rfl)), (by trivial), ?_, ?_⟩
  · intro k _ hk _
    have c := sameLy_pc s[k] (hx _ (List.getElem_mem hk))
    conv => whnf
    repeat' (first | ((first | refine Split.mk (fun h => ?_) (fun h => ?_) | refine CondG.mk (fun h => ?_) (fun h => ?_)) <;> (try simp only [decide_eq_true_eq, decide_eq_false_iff_not, Bool.not_eq_true', Bool.not_eq_false', beq_iff_eq, beq_eq_false_iff_ne, bne_iff_ne, bne_eq_false_iff_eq] at h) <;> (first | (exfalso; first | omega | exact h trivial | contradiction | (simp_all [eqRes]; done)) | (conv => whnf))) | (refine CallX.mk _ _ (by first | exact c) ?_; conv => whnf) | (refine CallG.mk _ _ (by first | exact c) ?_; conv => whnf) | (refine Ask.mk (by first | omega | (unfold roomOK; simp [cutRows]; done) | (unfold roomOK; simp [cutRows]; omega) | (simp [cutRows]; done) | (simp [cutRows]; omega)) ?_; conv => whnf) | (refine AppG.mk (by first | omega | (unfold roomOK; simp [cutRows]; done) | (unfold roomOK; simp [cutRows]; omega) | (simp [cutRows]; done) | (simp [cutRows]; omega)) ?_; conv => whnf) | (refine SliceG.fr ?_; conv => whnf) | (refine idx_at _ (by with_reducible rfl) (by first | assumption | omega) ?_; conv => whnf) | ((with_reducible refine row_map (by first | assumption | omega) ?_); conv => whnf) | ((with_reducible refine row_set (by first | assumption | omega | (simp only [List.length_set]; omega) | (simp; omega)) ?_); conv => whnf) | fail)
    exact count_next () hk (by rw [wrap_succ hk (by omega)]; rfl) trivial
  · intro _ _
    conv => whnf
    repeat' (first | ((first | refine Split.mk (fun h => ?_) (fun h => ?_) | refine CondG.mk (fun h => ?_) (fun h => ?_)) <;> (try simp only [decide_eq_true_eq, decide_eq_false_iff_not, Bool.not_eq_true', Bool.not_eq_false', beq_iff_eq, beq_eq_false_iff_ne, bne_iff_ne, bne_eq_false_iff_eq] at h) <;> (first | (exfalso; first | omega | exact h trivial) | (conv => whnf))) | (refine Ask.mk (by first | omega | (unfold roomOK; simp [cutRows]; done) | (unfold roomOK; simp [cutRows]; omega) | (simp [cutRows]; done) | (simp [cutRows]; omega)) ?_; conv => whnf) | (refine AppG.mk (by first | omega | (unfold roomOK; simp [cutRows]; done) | (unfold roomOK; simp [cutRows]; omega) | (simp [cutRows]; done) | (simp [cutRows]; omega)) ?_; conv => whnf) | (refine SliceG.fr ?_; conv => whnf) | (refine idx_at _ (by with_reducible rfl) (by first | assumption | omega) ?_; conv => whnf) | ((with_reducible refine row_map (by first | assumption | omega) ?_); conv => whnf) | ((with_reducible refine row_set (by first | assumption | omega | (simp only [List.length_set]; omega) | (simp; omega)) ?_); conv => whnf) | fail)
    exact finb rfl
set_option maxRecDepth 100000 in
set_option maxHeartbeats 4000000 in
theorem eqDuT_pc (l : List Du) (hl : l.length ≤ 1000000) : PCp 24 [.c (.lst 5 (l.map encDu)), .c (.lst 5 (l.map encDu))] [] (.c (.bool true)) [] := by
  have hlm : (l.map encDu).length = l.length := List.length_map ..
  refine fn_sound (mt := mts) tab_fits tab_mixed Tryz.func24 (by rfl) (by kernel_rfl) (by kernel_rfl) Tryz.results24 (Nat.le_of_ble_eq_true (by kernel_rfl)) ?_
  conv => whnf
  repeat' (first | ((first | refine Split.mk (fun h => ?_) (fun h => ?_) | refine CondG.mk (fun h => ?_) (fun h => ?_)) <;> (try simp only [decide_eq_true_eq, decide_eq_false_iff_not, Bool.not_eq_true', Bool.not_eq_false', beq_iff_eq, beq_eq_false_iff_ne, bne_iff_ne, bne_eq_false_iff_eq] at h) <;> (first | (exfalso; first | omega | exact h trivial | contradiction | (simp_all [eqRes]; done)) | (conv => whnf))) | (refine Ask.mk (by first | omega | (unfold roomOK; simp [cutRows]; done) | (unfold roomOK; simp [cutRows]; omega) | (simp [cutRows]; done) | (simp [cutRows]; omega)) ?_; conv => whnf) | (refine AppG.mk (by first | omega | (unfold roomOK; simp [cutRows]; done) | (unfold roomOK; simp [cutRows]; omega) | (simp [cutRows]; done) | (simp [cutRows]; omega)) ?_; conv => whnf) | (refine SliceG.fr ?_; conv => whnf) | (refine idx_at _ (by with_reducible rfl) (by first | assumption | omega) ?_; conv => whnf) | ((with_reducible refine row_map (by first | assumption | omega) ?_); conv => whnf) | ((with_reducible refine row_set (by first | assumption | omega | (simp only [List.length_set]; omega) | (simp; omega)) ?_); conv => whnf) | fail)
  refine loop_for (l.length) [] [0, 1, 12, 13] (fun k (_ : Unit) => [(13, .c (.int .i64 (k : Int)))]) (fun k (_ : Unit) => []) (fun k (_ : Unit) => True) (()) ?_
  conv => whnf
  refine ⟨(by first | rfl | (simp; done) | (simp; rfl)), (by trivial), ?_, ?_⟩
  · intro k _ hk _
    conv => whnf
    repeat' (first | ((first | refine Split.mk (fun h => ?_) (fun h => ?_) | refine CondG.mk (fun h => ?_) (fun h => ?_)) <;> (try simp only [decide_eq_true_eq, decide_eq_false_iff_not, Bool.not_eq_true', Bool.not_eq_false', beq_iff_eq, beq_eq_false_iff_ne, bne_iff_ne, bne_eq_false_iff_eq] at h) <;> (first | (exfalso; first | omega | exact h trivial | contradiction | (simp_all [eqRes]; done)) | (conv => whnf))) | (refine Ask.mk (by first | omega | (unfold roomOK; simp [cutRows]; done) | (unfold roomOK; simp [cutRows]; omega) | (simp [cutRows]; done) | (simp [cutRows]; omega)) ?_; conv => whnf) | (refine AppG.mk (by first | omega | (unfold roomOK; simp [cutRows]; done) | (unfold roomOK; simp [cutRows]; omega) | (simp [cutRows]; done) | (simp [cutRows]; omega)) ?_; conv => whnf) | (refine SliceG.fr ?_; conv => whnf) | (refine idx_at _ (by with_reducible rfl) (by first | assumption | omega) ?_; conv => whnf) | ((with_reducible refine row_map (by first | assumption | omega) ?_); conv => whnf) | ((with_reducible refine row_set (by first | assumption | omega | (simp only [List.length_set]; omega) | (simp; omega)) ?_); conv => whnf) | fail)
    all_goals exact count_next () hk (by rw [wrap_succ hk (by omega)]; rfl) trivial
  · intro _ _
    conv => whnf
    repeat' (first | ((first | refine Split.mk (fun h => ?_) (fun h => ?_) | refine CondG.mk (fun h => ?_) (fun h => ?_)) <;> (try simp only [decide_eq_true_eq, decide_eq_false_iff_not, Bool.not_eq_true', Bool.not_eq_false', beq_iff_eq, beq_eq_false_iff_ne, bne_iff_ne, bne_eq_false_iff_eq] at h) <;> (first | (exfalso; first | omega | exact h trivial | contradiction | (simp_all [eqRes]; done)) | (conv => whnf))) | (refine Ask.mk (by first | omega | (unfold roomOK; simp [cutRows]; done) | (unfold roomOK; simp [cutRows]; omega) | (simp [cutRows]; done) | (simp [cutRows]; omega)) ?_; conv => whnf) | (refine AppG.mk (by first | omega | (unfold roomOK; simp [cutRows]; done) | (unfold roomOK; simp [cutRows]; omega) | (simp [cutRows]; done) | (simp [cutRows]; omega)) ?_; conv => whnf) | (refine SliceG.fr ?_; conv => whnf) | (refine idx_at _ (by with_reducible rfl) (by first | assumption | omega) ?_; conv => whnf) | ((with_reducible refine row_map (by first | assumption | omega) ?_); conv => whnf) | ((with_reducible refine row_set (by first | assumption | omega | (simp only [List.length_set]; omega) | (simp; omega)) ?_); conv => whnf) | fail)
    all_goals exact .mk ⟨rfl, rfl⟩
theorem duRd_len (tl : List UInt8) : (duRd tl).v.1.length ≤ tl.length + 1 ∧ (duRd tl).v.2.length ≤ tl.length + 1 := by
  have h1 := duGo_len false nvP tl
  unfold duRd readV
  (repeat' split) <;> first | exact ⟨Nat.zero_le _, Nat.zero_le _⟩ | exact ⟨Nat.le_trans (Nat.le_add_right _ _) h1, Nat.le_trans (Nat.le_add_left _ _) h1⟩
theorem duRd_sm (tl : List UInt8) (h : tl.length ≤ 999998) : LySmo (duRd tl).v := by
  have h1 := duSt_all false nvP tl h
  unfold duRd readV
  (repeat' split) <;> first | exact h1 | exact fun x hx => by simp at hx
set_option maxRecDepth 100000 in
set_option maxHeartbeats 4000000 in
theorem rDuText_pc {L : List Int} {p : Int} (hst : StOk L p) (hp : p ≤ 600000000) :
    PCq 18 [.c (.ptr 0 0)] [stO L p] fun r os => ∃ (tl : List UInt8) (p' : Int), r = .c (.str (BL tl)) ∧ os = [stO L p'] ∧ tl.length ≤ 50000 ∧ p ≤ p' ∧ p' ≤ p + 3000 := by
  have hS : ∀ x : Int, p ≤ x → x ≤ p + 4000 → StOk L x := fun x h3 h4 => ⟨hst.1, by have := hst.2.1; omega, by omega⟩
  refine fn_soundX (mt := mts) tab_fits tab_mixed Tryz.func18 (by rfl) (by kernel_rfl) (by kernel_rfl) Tryz.results18 (Nat.le_of_ble_eq_true (by kernel_rfl)) ?_
  conv => whnf
  repeat' (first | ((first | refine Split.mk (fun h => ?_) (fun h => ?_) | refine CondG.mk (fun h => ?_) (fun h => ?_)) <;> (try simp only [decide_eq_true_eq, decide_eq_false_iff_not, Bool.not_eq_true', Bool.not_eq_false', beq_iff_eq, beq_eq_false_iff_ne, bne_iff_ne, bne_eq_false_iff_eq] at h) <;> (first | (exfalso; first | omega | exact h trivial) | (conv => whnf))) | (refine Ask.mk (by first | omega | (unfold roomOK; simp [cutRows]; done) | (unfold roomOK; simp [cutRows]; omega) | (simp [cutRows]; done) | (simp [cutRows]; omega)) ?_; conv => whnf) | (refine AppG.mk (by first | omega | (unfold roomOK; simp [cutRows]; done) | (unfold roomOK; simp [cutRows]; omega) | (simp [cutRows]; done) | (simp [cutRows]; omega)) ?_; conv => whnf) | (refine SliceG.fr ?_; conv => whnf) | (refine idx_at _ (by with_reducible rfl) (by first | assumption | omega) ?_; conv => whnf) | ((with_reducible refine row_map (by first | assumption | omega) ?_); conv => whnf) | ((with_reducible refine row_set (by first | assumption | omega | (simp only [List.length_set]; omega) | (simp; omega)) ?_); conv => whnf) | fail)
  refine .ex _ (rRightD_pc hst (by omega)) ?_
  rintro _ _ ⟨d, l, q, rfl, rfl, h0, h1, h2, h3, h4, h5, h6⟩
  have hD := duLn_all h0
  have hL := lyLn_all h0 (by omega)
  have c2 := rDuLines_pc d l (by omega) (by omega) hD hL
  have hsz := duText_bd hD hL
  have cP := pick_ok (hS q (by omega) (by omega)) [0, 0, 1, 2] (by simp) (by simp)
  have hpv : 0 ≤ pickV L q [0, 0, 1, 2] ∧ pickV L q [0, 0, 1, 2] ≤ 2 := by
    have := pickV_memT L q [0, 0, 1, 2] (by decide)
    simp only [List.mem_cons, List.not_mem_nil, or_false] at this
    omega
  generalize duText d l = t0 at *
  generalize pickV L q [0, 0, 1, 2] = n at *
  obtain ⟨n, rfl⟩ := Int.eq_ofNat_of_zero_le hpv.1
  conv => whnf
  repeat' (first | ((first | refine Split.mk (fun h => ?_) (fun h => ?_) | refine CondG.mk (fun h => ?_) (fun h => ?_)) <;> (try simp only [decide_eq_true_eq, decide_eq_false_iff_not, Bool.not_eq_true', Bool.not_eq_false', beq_iff_eq, beq_eq_false_iff_ne, bne_iff_ne, bne_eq_false_iff_eq] at h) <;> (first | (exfalso; first | omega | exact h trivial) | (conv => whnf))) | (refine CallX.mk _ _ (by first | exact c2 | exact cP) ?_; conv => whnf) | (refine CallG.mk _ _ (by first | exact c2 | exact cP) ?_; conv => whnf) | (refine Ask.mk (by first | omega | (unfold roomOK; simp [cutRows]; done) | (unfold roomOK; simp [cutRows]; omega) | (simp [cutRows]; done) | (simp [cutRows]; omega)) ?_; conv => whnf) | (refine AppG.mk (by first | omega | (unfold roomOK; simp [cutRows]; done) | (unfold roomOK; simp [cutRows]; omega) | (simp [cutRows]; done) | (simp [cutRows]; omega)) ?_; conv => whnf) | (refine SliceG.fr ?_; conv => whnf) | (refine idx_at _ (by with_reducible rfl) (by first | assumption | omega) ?_; conv => whnf) | ((with_reducible refine row_map (by first | assumption | omega) ?_); conv => whnf) | ((with_reducible refine row_set (by first | assumption | omega | (simp only [List.length_set]; omega) | (simp; omega)) ?_); conv => whnf) | fail)
  refine loop_for2 (n) [] [0, 5, 16, 17] (fun k (t : ByteArray) (x : Int) => [(5, .c (.str t)), (17, .c (.int .i64 (k : Int)))]) (fun k (t : ByteArray) (x : Int) => [(0, stO L x)]) (fun k (t : ByteArray) (x : Int) => t.size ≤ 20000 + 20 * k ∧ q ≤ x ∧ x ≤ q + 1 + 3 * k) (t0) (q + 1) ?_
  conv => whnf
  refine ⟨(by first | rfl | (simp; done) | (simp; rfl)), ?_, ?_, ?_⟩
  · exact ⟨by omega, by omega, by omega⟩
  · intro k t x hk ⟨h1, h2, h3⟩
    have cC := rChanged_pc (hS x (by omega) (by omega)) (by omega) t ⟨#[32, 10, 48, 45, 57, 100, 107, 97]⟩ (by omega) (by decide)
    have hz : (⟨#[32, 10, 48, 45, 57, 100, 107, 97]⟩ : ByteArray).size = 8 := rfl
    conv => whnf
    repeat' (first | ((first | refine Split.mk (fun h => ?_) (fun h => ?_) | refine CondG.mk (fun h => ?_) (fun h => ?_)) <;> (try simp only [decide_eq_true_eq, decide_eq_false_iff_not, Bool.not_eq_true', Bool.not_eq_false', beq_iff_eq, beq_eq_false_iff_ne, bne_iff_ne, bne_eq_false_iff_eq] at h) <;> (first | (exfalso; first | omega | exact h trivial) | (conv => whnf))) | (refine Ask.mk (by first | omega | (unfold roomOK; simp [cutRows]; done) | (unfold roomOK; simp [cutRows]; omega) | (simp [cutRows]; done) | (simp [cutRows]; omega)) ?_; conv => whnf) | (refine AppG.mk (by first | omega | (unfold roomOK; simp [cutRows]; done) | (unfold roomOK; simp [cutRows]; omega) | (simp [cutRows]; done) | (simp [cutRows]; omega)) ?_; conv => whnf) | (refine SliceG.fr ?_; conv => whnf) | (refine idx_at _ (by with_reducible rfl) (by first | assumption | omega) ?_; conv => whnf) | ((with_reducible refine row_map (by first | assumption | omega) ?_); conv => whnf) | ((with_reducible refine row_set (by first | assumption | omega | (simp only [List.length_set]; omega) | (simp; omega)) ?_); conv => whnf) | fail)
    refine .ex _ cC ?_
    rintro _ _ ⟨t', x', rfl, rfl, g1, g2, g3⟩
    conv => whnf
    exact count_next (t', x') hk (by rw [wrap_succ hk (by omega)]; rfl) ⟨by simp only; omega, by simp only; omega, by simp only; omega⟩
  · intro t x ⟨h1, h2, h3⟩
    have hz : t.size = t.data.toList.length := (Array.length_toList).symm
    conv => whnf
    repeat' (first | ((first | refine Split.mk (fun h => ?_) (fun h => ?_) | refine CondG.mk (fun h => ?_) (fun h => ?_)) <;> (try simp only [decide_eq_true_eq, decide_eq_false_iff_not, Bool.not_eq_true', Bool.not_eq_false', beq_iff_eq, beq_eq_false_iff_ne, bne_iff_ne, bne_eq_false_iff_eq] at h) <;> (first | (exfalso; first | omega | exact h trivial) | (conv => whnf))) | (refine Ask.mk (by first | omega | (unfold roomOK; simp [cutRows]; done) | (unfold roomOK; simp [cutRows]; omega) | (simp [cutRows]; done) | (simp [cutRows]; omega)) ?_; conv => whnf) | (refine AppG.mk (by first | omega | (unfold roomOK; simp [cutRows]; done) | (unfold roomOK; simp [cutRows]; omega) | (simp [cutRows]; done) | (simp [cutRows]; omega)) ?_; conv => whnf) | (refine SliceG.fr ?_; conv => whnf) | (refine idx_at _ (by with_reducible rfl) (by first | assumption | omega) ?_; conv => whnf) | ((with_reducible refine row_map (by first | assumption | omega) ?_); conv => whnf) | ((with_reducible refine row_set (by first | assumption | omega | (simp only [List.length_set]; omega) | (simp; omega)) ?_); conv => whnf) | fail)
    exact .mk _ _ ⟨t.data.toList, x, rfl, rfl, by omega, by omega, by omega⟩ (.mk ⟨by rw [bl_data]; rfl, rfl⟩)
set_option maxRecDepth 100000 in
set_option maxHeartbeats 4000000 in
theorem ductTexts_pc (L : List Int) (hL : L.length ≤ 9223372036854775807) : PCp 4 [.c (.lst 1 (L.map encI))] [] (.c (.bool true)) [] := by
  have st0 : StOk L 0 := ⟨hL, by omega, by omega⟩
  refine fn_sound (mt := mts) tab_fits tab_mixed Tryz.func4 (by rfl) (by kernel_rfl) (by kernel_rfl) Tryz.results4 (Nat.le_of_ble_eq_true (by kernel_rfl)) ?_
  conv => whnf
  repeat' (first | ((first | refine Split.mk (fun h => ?_) (fun h => ?_) | refine CondG.mk (fun h => ?_) (fun h => ?_)) <;> (try simp only [decide_eq_true_eq, decide_eq_false_iff_not, Bool.not_eq_true', Bool.not_eq_false', beq_iff_eq, beq_eq_false_iff_ne, bne_iff_ne, bne_eq_false_iff_eq] at h) <;> (first | (exfalso; first | omega | exact h trivial) | (conv => whnf))) | (refine Ask.mk (by first | omega | (unfold roomOK; simp [cutRows]; done) | (unfold roomOK; simp [cutRows]; omega) | (simp [cutRows]; done) | (simp [cutRows]; omega)) ?_; conv => whnf) | (refine AppG.mk (by first | omega | (unfold roomOK; simp [cutRows]; done) | (unfold roomOK; simp [cutRows]; omega) | (simp [cutRows]; done) | (simp [cutRows]; omega)) ?_; conv => whnf) | (refine SliceG.fr ?_; conv => whnf) | (refine idx_at _ (by with_reducible rfl) (by first | assumption | omega) ?_; conv => whnf) | ((with_reducible refine row_map (by first | assumption | omega) ?_); conv => whnf) | ((with_reducible refine row_set (by first | assumption | omega | (simp only [List.length_set]; omega) | (simp; omega)) ?_); conv => whnf) | fail)
  refine .ex _ (pair_pc st0 (by omega)) ?_
  rintro _ _ ⟨d, l, p, rfl, rfl, h1, h2, h3, h4, h5⟩
  have hx6 : ∀ x ∈ l, x.ducts.length ≤ 1000000 := fun x hm => Nat.le_trans (h3 x hm) (by decide)
  have cT := dText2_pc d l (by omega) (by omega) h3
  have cF := rLyingFault_pc d l hx6
  conv => whnf
  repeat' (first | ((first | refine Split.mk (fun h => ?_) (fun h => ?_) | refine CondG.mk (fun h => ?_) (fun h => ?_)) <;> (try simp only [decide_eq_true_eq, decide_eq_false_iff_not, Bool.not_eq_true', Bool.not_eq_false', beq_iff_eq, beq_eq_false_iff_ne, bne_iff_ne, bne_eq_false_iff_eq] at h) <;> (first | (exfalso; first | omega | exact h trivial) | (conv => whnf))) | (refine Ask.mk (by first | omega | (unfold roomOK; simp [cutRows]; done) | (unfold roomOK; simp [cutRows]; omega) | (simp [cutRows]; done) | (simp [cutRows]; omega)) ?_; conv => whnf) | (refine AppG.mk (by first | omega | (unfold roomOK; simp [cutRows]; done) | (unfold roomOK; simp [cutRows]; omega) | (simp [cutRows]; done) | (simp [cutRows]; omega)) ?_; conv => whnf) | (refine SliceG.fr ?_; conv => whnf) | (refine idx_at _ (by with_reducible rfl) (by first | assumption | omega) ?_; conv => whnf) | ((with_reducible refine row_map (by first | assumption | omega) ?_); conv => whnf) | ((with_reducible refine row_set (by first | assumption | omega | (simp only [List.length_set]; omega) | (simp; omega)) ?_); conv => whnf) | fail)
  refine .ex _ (rDuText_pc (L := L) (p := p) ⟨hL, by omega, by omega⟩ (by omega)) ?_
  rintro _ _ ⟨tl, p', rfl, rfl, g1, -, -⟩
  have cR := dRead_pc tl (by omega)
  have cQ := rDuRead_pc tl (by omega)
  have hln := duRd_len tl
  have cE := eqFuncLy_pc (duRd tl).v.2 (by omega) (duRd_sm tl (by omega))
  have cD := eqDuT_pc (duRd tl).v.1 (by omega)
  by_cases hf : lyFault d l = 0
  · have cL := rDuLines_pc d l (by omega) (by omega) (duLn_all hf) (lyLn_all hf (by omega))
    rw [show duOut d l = duText d l by unfold duOut; rw [if_pos hf], hf] at cT
    rw [hf] at cF
    conv => whnf
    repeat' (first | ((first | refine Split.mk (fun h => ?_) (fun h => ?_) | refine CondG.mk (fun h => ?_) (fun h => ?_)) <;> (try simp only [decide_eq_true_eq, decide_eq_false_iff_not, Bool.not_eq_true', Bool.not_eq_false', beq_iff_eq, beq_eq_false_iff_ne, bne_iff_ne, bne_eq_false_iff_eq] at h) <;> (first | (exfalso; first | omega | exact h trivial | contradiction | (simp_all [eqRes]; done)) | (conv => whnf))) | (refine CallX.mk _ _ (by first | exact cT | exact cF | exact cL | exact cR | exact cQ | exact cE | exact cD | exact ducted_pc) ?_; conv => whnf) | (refine CallG.mk _ _ (by first | exact cT | exact cF | exact cL | exact cR | exact cQ | exact cE | exact cD | exact ducted_pc) ?_; conv => whnf) | (refine Ask.mk (by first | omega | (unfold roomOK; simp [cutRows]; done) | (unfold roomOK; simp [cutRows]; omega) | (simp [cutRows]; done) | (simp [cutRows]; omega)) ?_; conv => whnf) | (refine AppG.mk (by first | omega | (unfold roomOK; simp [cutRows]; done) | (unfold roomOK; simp [cutRows]; omega) | (simp [cutRows]; done) | (simp [cutRows]; omega)) ?_; conv => whnf) | (refine SliceG.fr ?_; conv => whnf) | (refine idx_at _ (by with_reducible rfl) (by first | assumption | omega) ?_; conv => whnf) | ((with_reducible refine row_map (by first | assumption | omega) ?_); conv => whnf) | ((with_reducible refine row_set (by first | assumption | omega | (simp only [List.length_set]; omega) | (simp; omega)) ?_); conv => whnf) | fail)
    all_goals exact finb rfl
  · rw [show duOut d l = ⟨#[]⟩ by unfold duOut; rw [if_neg hf]] at cT
    conv => whnf
    repeat' (first | ((first | refine Split.mk (fun h => ?_) (fun h => ?_) | refine CondG.mk (fun h => ?_) (fun h => ?_)) <;> (try simp only [decide_eq_true_eq, decide_eq_false_iff_not, Bool.not_eq_true', Bool.not_eq_false', beq_iff_eq, beq_eq_false_iff_ne, bne_iff_ne, bne_eq_false_iff_eq] at h) <;> (first | (exfalso; first | omega | exact h trivial | contradiction | (simp_all [eqRes]; done)) | (conv => whnf))) | (refine CallX.mk _ _ (by first | exact cT | exact cF | exact cR | exact cQ | exact cE | exact cD | exact ducted_pc) ?_; conv => whnf) | (refine CallG.mk _ _ (by first | exact cT | exact cF | exact cR | exact cQ | exact cE | exact cD | exact ducted_pc) ?_; conv => whnf) | (refine Ask.mk (by first | omega | (unfold roomOK; simp [cutRows]; done) | (unfold roomOK; simp [cutRows]; omega) | (simp [cutRows]; done) | (simp [cutRows]; omega)) ?_; conv => whnf) | (refine AppG.mk (by first | omega | (unfold roomOK; simp [cutRows]; done) | (unfold roomOK; simp [cutRows]; omega) | (simp [cutRows]; done) | (simp [cutRows]; omega)) ?_; conv => whnf) | (refine SliceG.fr ?_; conv => whnf) | (refine idx_at _ (by with_reducible rfl) (by first | assumption | omega) ?_; conv => whnf) | ((with_reducible refine row_map (by first | assumption | omega) ?_); conv => whnf) | ((with_reducible refine row_set (by first | assumption | omega | (simp only [List.length_set]; omega) | (simp; omega)) ?_); conv => whnf) | fail)
    all_goals exact finb rfl
end Go.Proofs.YtgomipfameinoaaGreatDoor
