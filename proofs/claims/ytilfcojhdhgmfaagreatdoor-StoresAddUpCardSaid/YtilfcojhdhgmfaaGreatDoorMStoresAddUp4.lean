/- Parts of the proof, in order. -/
import Derived.Test.YtilfcojhdhgmfaaGreatDoorMStoresAddUp3

namespace Go.Proofs.YtilfcojhdhgmfaaGreatDoor
set_option linter.unusedVariables false
set_option linter.unusedSimpArgs false
open Abs

abbrev moN (l : List Ac) (k : Nat) : Int := (l.getD k acD).mo
theorem moN_at {l : List Ac} {k : Nat} (h : k < l.length) : moN l k = l[k].mo := by simp [moN, h]
theorem acts_adj : ∀ (l : List Ac) (p : Option Ac), actsErr p l = 0 → ∀ k (h : k + 1 < l.length), l[k].mo ≤ l[k + 1].mo
  | [], _, _, k, h => by simp at h
  | [a], _, _, k, h => by simp at h
  | a :: b :: r, p, he, k, h => by
    unfold actsErr at he
    split at he
    · rename_i h1; exact absurd he h1
    · split at he
      · cases he
      · cases k with
        | zero =>
          unfold actsErr at he
          split at he
          · rename_i h1; exact absurd he h1
          · split at he
            · cases he
            · rename_i h2
              simp only [badPrev, decide_eq_true_eq] at h2
              show a.mo ≤ b.mo
              rcases Int.lt_or_le b.mo a.mo with h3 | h3
              · exfalso
                apply h2
                have h4 : cmpI b.mo a.mo = -1 := by unfold cmpI; rw [if_pos h3]
                unfold timeC firstErr
                rw [h4, if_neg (by decide)]; decide
              · exact h3
        | succ k => exact acts_adj (b :: r) _ he k (by simpa using h)
theorem acts_sorted {l : List Ac} (hf : actsFault l = 0) (i : Nat) : ∀ j, i ≤ j → j < l.length → moN l i ≤ moN l j := by
  have ha : actsErr none l = 0 := by
    have := hf; unfold actsFault at this; split at this
    · cases this
    · exact this
  intro j
  induction j with
  | zero => intro h1 h2; have : i = 0 := by omega
            subst this; exact Int.le_refl _
  | succ j ih =>
    intro h1 h2
    rcases Nat.lt_or_ge i (j + 1) with h3 | h3
    · have h4 := acts_adj l none ha j h2
      have h5 := ih (by omega) (by omega)
      rw [moN_at (show j < l.length by omega)] at h5
      rw [moN_at h2]; omega
    · have : i = j + 1 := by omega
      subst this; exact Int.le_refl _
theorem cnt_iff {l : List Ac} (hf : actsFault l = 0) {k : Nat} (hk : k < l.length) (t : Int) : moN l k ≤ t ↔ k < cntAt l t := by
  constructor
  · intro h
    rcases Nat.lt_or_ge k (cntAt l t) with h1 | h1
    · exact h1
    · exfalso
      have h2 : cntAt l t < l.length := by omega
      have h3 := cntAt_out h2
      have h4 := acts_sorted hf (cntAt l t) k h1 hk
      rw [moN_at h2] at h4
      omega
  · intro h
    rw [moN_at hk]; exact cntAt_in h
abbrev totT (l : List Ac) (kind : ByteArray) (k : Nat) : Int := sumK kind (stoAt l k).d.es
theorem sumK_put {kind : ByteArray} {c : Nat} {x t : ByteArray} {n : Int} : ∀ {es : List DE}, (∀ e ∈ es, e.2.1 = x → e.2.2.1 ≠ kind) → t ≠ kind → sumK kind (eput c es x (t, n)) = sumK kind es
  | [], _, ht => by simp [eput, sumK, ht]
  | e :: r, h, ht => by
    unfold eput
    split
    · rename_i hx
      simp only [sumK, if_neg ht, if_neg (h e (by simp) hx)]
    · have ih := sumK_put (c := c) (n := n) (es := r) (fun e he => h e (List.mem_cons_of_mem _ he)) ht
      simp only [sumK, ih]
theorem sumK_del {kind : ByteArray} {x : ByteArray} : ∀ {es : List DE}, (∀ e ∈ es, e.2.1 = x → e.2.2.1 ≠ kind) → sumK kind (edel es x) = sumK kind es
  | [], _ => rfl
  | e :: r, h => by
    unfold edel
    split
    · rename_i hx
      simp only [sumK, if_neg (h e (by simp) hx)]; omega
    · have ih := sumK_del (es := r) (fun e he => h e (List.mem_cons_of_mem _ he))
      simp only [sumK, ih]
theorem tot_other {s : Sto} {r : Rto} (hs : s.ok) (h : Rel s r) (kind : ByteArray) (x : Ac) (hne : ¬ ((takeS s x).2.2 = 0 ∧ (takeS s x).2.1 = kind)) : sumK kind (takeS s x).1.d.es = sumK kind s.d.es := by
  have hnone : (s.k.get x.drum).isSome = false → ∀ e ∈ s.d.es, e.2.1 = x.drum → e.2.2.1 ≠ kind := by
    intro h1 e he hx
    exfalso
    have h2 := get_of_mem hs.d he
    rw [hx, h.d] at h2
    unfold seen at h2
    split at h2
    · rename_i h3
      have := h.h _ h3
      rw [h.k] at h1
      rw [this] at h1; cases h1
    · cases h2
  have hthis : ((s.d.get x.drum).getD (bE, 0)).1 ≠ kind → ∀ e ∈ s.d.es, e.2.1 = x.drum → e.2.2.1 ≠ kind := by
    intro h1 e he hx
    have h2 := get_of_mem hs.d he
    rw [hx] at h2
    rw [h2] at h1
    exact h1
  revert hne
  unfold takeS
  split
  · split
    · intro _; rfl
    · rename_i h1
      have h1 : (s.k.get x.drum).isSome = false := by simpa using h1
      split
      · intro hne; exact sumK_put (hnone h1) (fun e => hne ⟨rfl, e⟩)
      · split
        · intro hne; exact sumK_put (hnone h1) (fun e => hne ⟨rfl, e⟩)
        · intro _; rfl
  · split
    · split
      · intro _; rfl
      · split
        · intro hne; exact sumK_del (hthis (fun e => hne ⟨rfl, e⟩))
        · intro hne; exact sumK_put (hthis (fun e => hne ⟨rfl, e⟩)) (fun e => hne ⟨rfl, e⟩)
    · intro _; rfl
end Go.Proofs.YtilfcojhdhgmfaaGreatDoor

namespace Go.Proofs.YtilfcojhdhgmfaaGreatDoor
set_option linter.unusedVariables false
set_option linter.unusedSimpArgs false
open Abs

theorem cmp_time : Cmp timeC :=
  (cmp_int Ac.mo).lex ((cmp_str Ac.drum).lex ((cmp_int Ac.kd).lex ((cmp_str Ac.ty).lex ((cmp_str Ac.of).lex ((cmp_int Ac.long).lex cmp_null)))))
theorem time_zero {x y : Ac} (h : timeC x y = 0) : x = y := by
  have key : ∀ l : List Int, firstErr l = 0 → ∀ z ∈ l, z = 0 := by
    intro l
    induction l with
    | nil => intro _ z hz; cases hz
    | cons a r ih =>
      intro h z hz
      simp only [firstErr] at h
      by_cases ha : a = 0
      · rw [if_pos ha] at h
        rcases List.mem_cons.1 hz with e | e
        · rw [e, ha]
        · exact ih h z e
      · rw [if_neg ha] at h; exact (ha h).elim
  have h6 := key _ h
  obtain ⟨a1, a2, a3, a4, a5, a6⟩ := x
  obtain ⟨b1, b2, b3, b4, b5, b6⟩ := y
  simp only [List.mem_cons, List.not_mem_nil, or_false, forall_eq_or_imp, forall_eq] at h6
  obtain ⟨g1, g2, g3, g4, g5, g6⟩ := h6
  rw [cmpI_zero] at g1 g3 g6
  rw [cmpS_zero] at g2 g4 g5
  subst g1 g2 g3 g4 g5 g6
  rfl
theorem time_one {a b : List Ac} (hp : a.Perm b) (ha : a.Pairwise fun x y => ¬ timeC y x < 0) (hb : b.Pairwise fun x y => ¬ timeC y x < 0) : a = b :=
  sorted_one cmp_time.swo (fun x y h1 h2 => time_zero (by have := cmp_time.anti x y; omega)) hp ha hb
def mgV (a b : List Ac) : List Ac := cpt (insSort timeC (a ++ b))
end Go.Proofs.YtilfcojhdhgmfaaGreatDoor

namespace Go.Proofs.YtilfcojhdhgmfaaGreatDoor
set_option linter.unusedVariables false
set_option linter.unusedSimpArgs false
open Abs

def leT (x y : Ac) : Prop := ¬ timeC y x < 0
theorem leT_tr : ∀ x y z, leT x y → leT y z → leT x z := fun x y z h1 h2 => cmp_time.swo.ntrans z y x h2 h1
theorem leT_lt {x y : Ac} (h : timeC x y < 0) : leT x y := fun h2 => by have := cmp_time.anti x y; omega
theorem srtT_one {P L : List Ac} (hp : P.Perm L) (hs : P.Pairwise leT) : insSort timeC L = P :=
  time_one ((insSort_perm timeC L).trans hp.symm) (insSort_srt cmp_time.swo L) hs
theorem srt_len (L : List Ac) : (insSort timeC L).length = L.length := insSort_len ..
theorem pair_at {V : List Ac} (s : V.Pairwise leT) {i j : Nat} (hij : i ≤ j) (hj : j < V.length) : V[i]'(by omega) = V[j] ∨ leT (V[i]'(by omega)) V[j] := by
  by_cases h : i = j
  · subst h; exact .inl rfl
  · exact .inr (List.pairwise_iff_getElem.1 s i j (by omega) hj (by omega))
theorem ins_left {x : Ac} {V : List Ac} (s : V.Pairwise leT) {n : Nat} (hn : n ≤ V.length) (h1 : ∀ t (h : t < V.length), t < n → timeC V[t] x < 0) (h2 : ∀ t (h : t < V.length), n ≤ t → ¬ timeC V[t] x < 0) :
    insSort timeC (x :: V) = V.take n ++ x :: V.drop n := by
  refine srtT_one ?_ ?_
  · refine (List.perm_middle).trans ?_
    rw [List.take_append_drop]
  · refine List.pairwise_append.2 ⟨s.sublist (List.take_sublist _ _), List.pairwise_cons.2 ⟨fun y hy => ?_, s.sublist (List.drop_sublist _ _)⟩, fun y hy z hz => ?_⟩
    · obtain ⟨t, ht, rfl⟩ := List.mem_iff_getElem.1 hy
      rw [List.length_drop] at ht
      rw [List.getElem_drop]
      exact h2 _ (by omega) (by omega)
    · obtain ⟨t, ht, rfl⟩ := List.mem_iff_getElem.1 hy
      rw [List.length_take] at ht
      rw [List.getElem_take]
      rcases List.mem_cons.1 hz with rfl | hz
      · exact leT_lt (h1 _ (by omega) (by omega))
      · obtain ⟨u, hu, rfl⟩ := List.mem_iff_getElem.1 hz
        rw [List.length_drop] at hu
        rw [List.getElem_drop]
        exact List.pairwise_iff_getElem.1 s _ _ _ _ (by omega)
theorem ins_right {y : Ac} {U : List Ac} (s : U.Pairwise leT) {n : Nat} (hn : n ≤ U.length) (h1 : ∀ t (h : t < U.length), t < n → ¬ timeC y U[t] < 0) (h2 : ∀ t (h : t < U.length), n ≤ t → timeC y U[t] < 0) :
    insSort timeC (U ++ [y]) = U.take n ++ y :: U.drop n := by
  refine srtT_one ?_ ?_
  · refine (List.perm_middle).trans ?_
    rw [List.take_append_drop]
    exact (List.perm_append_comm (l₁ := [y]) (l₂ := U))
  · refine List.pairwise_append.2 ⟨s.sublist (List.take_sublist _ _), List.pairwise_cons.2 ⟨fun z hz => ?_, s.sublist (List.drop_sublist _ _)⟩, fun w hw z hz => ?_⟩
    · obtain ⟨t, ht, rfl⟩ := List.mem_iff_getElem.1 hz
      rw [List.length_drop] at ht
      rw [List.getElem_drop]
      exact leT_lt (h2 _ (by omega) (by omega))
    · obtain ⟨t, ht, rfl⟩ := List.mem_iff_getElem.1 hw
      rw [List.length_take] at ht
      rw [List.getElem_take]
      rcases List.mem_cons.1 hz with rfl | hz
      · exact h1 _ (by omega) (by omega)
      · obtain ⟨u, hu, rfl⟩ := List.mem_iff_getElem.1 hz
        rw [List.length_drop] at hu
        rw [List.getElem_drop]
        exact List.pairwise_iff_getElem.1 s _ _ _ _ (by omega)
theorem srt_cut {U V : List Ac} {u v : Nat} (hU : U.Pairwise leT) (hV : V.Pairwise leT) (hu : u ≤ U.length) (hv : v ≤ V.length)
    (h1 : u = 0 ∨ v = V.length ∨ ∃ x y, U[u - 1]? = some x ∧ V[v]? = some y ∧ leT x y) (h2 : v = 0 ∨ u = U.length ∨ ∃ x y, V[v - 1]? = some x ∧ U[u]? = some y ∧ leT x y) :
    insSort timeC (U ++ V) = insSort timeC (U.take u ++ V.take v) ++ insSort timeC (U.drop u ++ V.drop v) := by
  have hc := sym_cut leT_tr hU hV hu hv h1 h2
  refine srtT_one ?_ (sym_join (insSort_srt cmp_time.swo _) (insSort_srt cmp_time.swo _) (insSort_perm ..) (insSort_perm ..) hc)
  refine ((insSort_perm ..).append (insSort_perm ..)).trans ?_
  have e1 : U ++ V = U.take u ++ (U.drop u ++ (V.take v ++ V.drop v)) := by rw [List.take_append_drop, ← List.append_assoc, List.take_append_drop]
  rw [e1, List.append_assoc]
  refine List.Perm.append_left _ ?_
  rw [← List.append_assoc, ← List.append_assoc]
  exact List.Perm.append_right _ List.perm_append_comm
theorem srt_nil_l {V : List Ac} (h : V.Pairwise leT) : insSort timeC ([] ++ V) = V := srtT_one (List.Perm.refl _) h
theorem srt_nil_r {U : List Ac} (h : U.Pairwise leT) : insSort timeC (U ++ []) = U := srtT_one (by rw [List.append_nil]) h
end Go.Proofs.YtilfcojhdhgmfaaGreatDoor

namespace Go.Proofs.YtilfcojhdhgmfaaGreatDoor
set_option linter.unusedVariables false
set_option linter.unusedSimpArgs false
open Abs

set_option maxRecDepth 100000 in
set_option maxHeartbeats 4000000 in
theorem symL_pc (g : Nat) (hg : ∀ x y : Ac, PCp g [.agg (encAc x), .agg (encAc y)] [] (.c (.int .i64 (timeC x y))) []) (X : List Ac) (x : Ac) (V Y : List Ac) (hV : 0 < V.length) (sV : V.Pairwise leT) (hl : X.length + 1 + V.length + Y.length ≤ 100000) :
    PCp 150 [.c (.row 0), .c (.int .i64 (X.length : Nat)), .c (.int .i64 ((X.length + 1 : Nat) : Int)), .c (.int .i64 ((X.length + 1 + V.length : Nat) : Int)), .c (.fn g [])] [.row 32 6 ((X ++ (x :: (V ++ Y))).map encAc)] (.tup []) [.row 32 6 ((X ++ (insSort timeC (x :: V) ++ Y)).map encAc)] := by
  have ga : (X ++ (x :: (V ++ Y)))[X.length]? = some x := by simp
  have gV : ∀ t (h : t < V.length), (X ++ (x :: (V ++ Y)))[X.length + 1 + t]? = some V[t] := fun t h => by
    rw [List.getElem?_append_right (by omega), show X.length + 1 + t - X.length = t + 1 by omega, List.getElem?_cons_succ, List.getElem?_append_left h, List.getElem?_eq_getElem h]
  have hqm : ((X ++ (x :: (V ++ Y))).map encAc).length = X.length + 1 + V.length + Y.length := by simp; omega
  have wm : IntKind.i64.wrap (((X.length + 1 : Nat) : Int) - (X.length : Nat)) = 1 := by rw [wrap_in (by omega) (by omega)]; omega
  have hfin : ∀ n, n ≤ V.length → (∀ t (h : t < V.length), t < n → timeC V[t] x < 0) → (∀ t (h : t < V.length), n ≤ t → ¬ timeC V[t] x < 0) → X ++ (V.take n ++ (x :: (V.drop n ++ Y))) = X ++ (insSort timeC (x :: V) ++ Y) := fun n hn h1 h2 => by
    rw [ins_left sV hn h1 h2]; simp
  have hstep : ∀ t (h : t < V.length), ((X ++ (V.take t ++ (x :: (V.drop t ++ Y)))).set (X.length + t) V[t]).set (X.length + t + 1) x = X ++ (V.take (t + 1) ++ (x :: (V.drop (t + 1) ++ Y))) := fun t h => by
    have e1 : V.drop t = V[t] :: V.drop (t + 1) := List.drop_eq_getElem_cons h
    have e2 : V.take (t + 1) = V.take t ++ [V[t]] := List.take_succ_eq_append_getElem h
    have lt : (V.take t).length = t := by rw [List.length_take]; omega
    rw [e1, e2]
    generalize V.take t = V1 at *
    generalize V.drop (t + 1) = V2 at *
    generalize V[t] = v at *
    rw [← List.append_assoc X, List.cons_append, set_at (by simp; omega)]
    have e3 : ∀ z : Ac, X ++ V1 ++ v :: z :: (V2 ++ Y) = (X ++ V1 ++ [v]) ++ z :: (V2 ++ Y) := fun z => by simp
    rw [e3, set_at (by simp; omega)]
    simp
  have hk1 : ∀ t (h : t < V.length), (X ++ (V.take t ++ (x :: (V.drop t ++ Y))))[X.length + t]? = some x := fun t h => by
    have lt : (V.take t).length = t := by rw [List.length_take]; omega
    rw [← List.append_assoc, List.getElem?_append_right (by simp; omega)]; simp [Nat.min_eq_left (Nat.le_of_lt h)]
  have hk2 : ∀ t (h : t < V.length), (X ++ (V.take t ++ (x :: (V.drop t ++ Y))))[X.length + t + 1]? = some V[t] := fun t h => by
    have lt : (V.take t).length = t := by rw [List.length_take]; omega
    rw [← List.append_assoc, List.getElem?_append_right (by simp; omega)]
    rw [List.length_append, lt, show X.length + t + 1 - (X.length + t) = 1 by omega, List.drop_eq_getElem_cons h]; rfl
  have hkl : ∀ t, t ≤ V.length → (X ++ (V.take t ++ (x :: (V.drop t ++ Y)))).length = X.length + 1 + V.length + Y.length := fun t h => by
    simp; omega
  have h00 : X ++ (x :: (V ++ Y)) = X ++ (V.take 0 ++ (x :: (V.drop 0 ++ Y))) := by simp
  generalize hq : (fun t => X ++ (V.take t ++ (x :: (V.drop t ++ Y)))) = q at *
  have hqt : ∀ t, X ++ (V.take t ++ (x :: (V.drop t ++ Y))) = q t := fun t => by rw [← hq]
  simp only [hqt] at hfin hstep hk1 hk2 hkl h00
  generalize insSort timeC (x :: V) = W at *
  rw [h00] at ga gV hqm ⊢
  clear hq hqt h00
  refine fn_sound (mt := mts) tab_fits tab_mixed Tryz.func150 (by rfl) (by kernel_rfl) (by kernel_rfl) Tryz.results150 (Nat.le_of_ble_eq_true (by kernel_rfl)) ?_
  conv => whnf
  rw [wm]
  repeat' (first | (refine .mk (fun h => ?_) (fun h => ?_) <;> (try simp only [decide_eq_true_eq, decide_eq_false_iff_not, Bool.not_eq_true', Bool.not_eq_false', beq_iff_eq, beq_eq_false_iff_ne, bne_iff_ne, bne_eq_false_iff_eq] at h) <;> (first | (exfalso; first | omega | exact h trivial) | (conv => whnf))) | fail)
  refine loop_while2 (fun (i : Nat) (j : Nat) => j - i) [] [0, 1, 4, 10, 11] (fun (i : Nat) (j : Nat) => [(10, .c (.int .i64 ((i : Nat) : Int))), (11, .c (.int .i64 ((j : Nat) : Int)))]) (fun (i : Nat) (j : Nat) => []) (fun (i : Nat) (j : Nat) => X.length + 1 ≤ i ∧ i ≤ j ∧ j ≤ X.length + 1 + V.length ∧ (∀ t (h : t < V.length), X.length + 1 + t < i → timeC V[t] x < 0) ∧ (∀ t (h : t < V.length), j ≤ X.length + 1 + t → ¬ timeC V[t] x < 0)) (X.length + 1) (X.length + 1 + V.length) ?_
  conv => whnf
  refine ⟨(by first | rfl | (simp; done) | (simp; rfl)), ?_, ?_⟩
  · exact ⟨by omega, by omega, by omega, fun t h h2 => by omega, fun t h h2 => by omega⟩
  · intro i j ⟨h1, h2, h3, h4, h5⟩
    have hmid := mid_eq (i := i) (j := j) (by omega)
    conv => whnf
    repeat' (first | (refine .mk (fun h => ?_) (fun h => ?_) <;> (try simp only [decide_eq_true_eq, decide_eq_false_iff_not, Bool.not_eq_true', Bool.not_eq_false', beq_iff_eq, beq_eq_false_iff_ne, bne_iff_ne, bne_eq_false_iff_eq] at h) <;> (first | (exfalso; first | omega | exact h trivial) | (conv => whnf))) | (refine .mk (by first | omega | (unfold roomOK; simp [cutRows]; done) | (unfold roomOK; simp [cutRows]; omega) | (simp [cutRows]; done) | (simp [cutRows]; omega)) ?_; conv => whnf) | fail)
    · obtain ⟨t, ht⟩ : ∃ t, (i + j) / 2 = X.length + 1 + t := ⟨(i + j) / 2 - (X.length + 1), by omega⟩
      rw [ht] at hmid
      have htv : t < V.length := by omega
      have hw : IntKind.i64.wrap (((X.length + 1 + t : Nat) : Int) + 1) = ((X.length + 1 + t + 1 : Nat) : Int) := by rw [wrap_in (by omega) (by omega)]; omega
      rw [hmid]
      repeat' (first | (refine .mk (fun h => ?_) (fun h => ?_) <;> (try simp only [decide_eq_true_eq, decide_eq_false_iff_not, Bool.not_eq_true', Bool.not_eq_false', beq_iff_eq, beq_eq_false_iff_ne, bne_iff_ne, bne_eq_false_iff_eq] at h) <;> (first | (exfalso; first | omega | exact h trivial) | (conv => whnf))) | (refine .mk _ _ (by exact hg _ _) ?_; conv => whnf) | (refine .mk (by first | omega | (unfold roomOK; simp [cutRows]; done) | (unfold roomOK; simp [cutRows]; omega) | (simp [cutRows]; done) | (simp [cutRows]; omega)) ?_; conv => whnf) | ((refine row_get (by rw [toN]; exact gV t htv) ?_); conv => whnf) | ((refine row_get (by rw [toN]; exact ga) ?_); conv => whnf) | fail)
      · rw [hw]
        refine meas_next (X.length + 1 + t + 1, j) (by simp only; omega) rfl ⟨by simp only; omega, by simp only; omega, h3, fun u hu hu2 => ?_, h5⟩
        rcases pair_at sV (show u ≤ t by simp only at hu2; omega) htv with e | e
        · rw [e]; assumption
        · have a1 : timeC V[t] x < 0 := by assumption
          have := cmp_time.lt (show timeC V[u] V[t] ≤ 0 by have := cmp_time.anti V[u] V[t]; unfold leT at e; omega) (show timeC V[t] x ≤ 0 by omega) (.inr a1)
          exact this
      · refine meas_next (i, X.length + 1 + t) (by simp only; omega) rfl ⟨by simp only; omega, by simp only; omega, by simp only; omega, h4, fun u hu hu2 => ?_⟩
        rcases pair_at sV (show t ≤ u by simp only at hu2; omega) hu with e | e
        · rw [← e]; assumption
        · have a1 : ¬ timeC V[t] x < 0 := by assumption
          exact cmp_time.swo.ntrans _ _ _ e a1
    · obtain ⟨n, hn⟩ : ∃ n, i = X.length + 1 + n := ⟨i - (X.length + 1), by omega⟩
      have hij : i = j := by omega
      subst hij
      subst hn
      have hw : IntKind.i64.wrap (((X.length + 1 + n : Nat) : Int) - 1) = ((X.length + n : Nat) : Int) := by rw [wrap_in (by omega) (by omega)]; omega
      have hend := hfin n (by omega) (fun t h h2 => h4 t h (by omega)) (fun t h h2 => h5 t h (by omega))
      refine loop_for (n) [] [0, 10, 13] (fun t (_ : Unit) => [(13, .c (.int .i64 ((X.length + t : Nat) : Int)))]) (fun t (_ : Unit) => [(0, .row 32 6 ((q t).map encAc))]) (fun t (_ : Unit) => True) (()) ?_
      conv => whnf
      refine ⟨?_, (by trivial), ?_, ?_⟩
      · rfl
      · intro t _ ht _
        have a1 := hk1 t (by omega)
        have a2 := hk2 t (by omega)
        have a3 := hstep t (by omega)
        have a4 := hkl t (by omega)
        have hqm2 : ((q t).map encAc).length = X.length + 1 + V.length + Y.length := by rw [List.length_map, a4]
        have w1 : IntKind.i64.wrap (((X.length + t : Nat) : Int) + 1) = ((X.length + t + 1 : Nat) : Int) := by rw [wrap_in (by omega) (by omega)]; omega
        generalize V[t]'(by omega) = v at *
        conv => whnf
        rw [hw]
        repeat' (first | (refine .mk (fun h => ?_) (fun h => ?_) <;> (try simp only [decide_eq_true_eq, decide_eq_false_iff_not, Bool.not_eq_true', Bool.not_eq_false', beq_iff_eq, beq_eq_false_iff_ne] at h) <;> (first | (exfalso; first | omega | exact h trivial) | (conv => whnf))) | (refine .mk (by first | omega | (unfold roomOK; simp [cutRows]; done) | (unfold roomOK; simp [cutRows]; omega)) ?_; conv => whnf) | ((rw [w1]); conv => whnf) | ((refine row_get (by rw [toN]; exact a1) ?_); conv => whnf) | ((refine row_get (by rw [toN]; exact a2) ?_); conv => whnf) | ((refine .mk (by rw [List.length_set]; omega) ?_); conv => whnf) | fail)
        refine .mk (encAc v) (by rw [toN, toN, List.getElem?_set_ne (by omega), List.getElem?_map, a2]; rfl) ?_
        conv => whnf
        exact count_next () ht (by (first | rw [w1, ← a3] | rw [← a3]); simp only [List.map_set]; rfl) trivial
      · intro _ _
        rw [hend]
        conv => whnf
        rw [hw]
        repeat' (first | (refine .mk (fun h => ?_) (fun h => ?_) <;> (try simp only [decide_eq_true_eq, decide_eq_false_iff_not, Bool.not_eq_true', Bool.not_eq_false', beq_iff_eq, beq_eq_false_iff_ne, bne_iff_ne, bne_eq_false_iff_eq] at h) <;> (first | (exfalso; first | omega | exact h trivial) | (conv => whnf))) | fail)
        exact .mk ⟨rfl, rfl⟩
set_option maxRecDepth 100000 in
set_option maxHeartbeats 4000000 in
theorem symR_pc (g : Nat) (hg : ∀ x y : Ac, PCp g [.agg (encAc x), .agg (encAc y)] [] (.c (.int .i64 (timeC x y))) []) (X U : List Ac) (y : Ac) (Y : List Ac) (hU : 2 ≤ U.length) (sU : U.Pairwise leT) (hl : X.length + U.length + 1 + Y.length ≤ 100000) :
    PCp 150 [.c (.row 0), .c (.int .i64 (X.length : Nat)), .c (.int .i64 ((X.length + U.length : Nat) : Int)), .c (.int .i64 ((X.length + U.length + 1 : Nat) : Int)), .c (.fn g [])] [.row 32 6 ((X ++ (U ++ (y :: Y))).map encAc)] (.tup []) [.row 32 6 ((X ++ (insSort timeC (U ++ [y]) ++ Y)).map encAc)] := by
  have ga : (X ++ (U ++ (y :: Y)))[X.length + U.length]? = some y := by rw [← List.append_assoc, List.getElem?_append_right (by simp)]; simp
  have gU : ∀ t (h : t < U.length), (X ++ (U ++ (y :: Y)))[X.length + t]? = some U[t] := fun t h => by rw [get_mid h, List.getElem?_eq_getElem h]
  have hqm : ((X ++ (U ++ (y :: Y))).map encAc).length = X.length + U.length + 1 + Y.length := by simp; omega
  have wm : IntKind.i64.wrap (((X.length + U.length : Nat) : Int) - (X.length : Nat)) = (U.length : Nat) := by rw [wrap_in (by omega) (by omega)]; omega
  have wb : IntKind.i64.wrap (((X.length + U.length + 1 : Nat) : Int) - ((X.length + U.length : Nat) : Int)) = 1 := by rw [wrap_in (by omega) (by omega)]; omega
  have hfin : ∀ n, n ≤ U.length → (∀ t (h : t < U.length), t < n → ¬ timeC y U[t] < 0) → (∀ t (h : t < U.length), n ≤ t → timeC y U[t] < 0) → X ++ (U.take n ++ (y :: (U.drop n ++ Y))) = X ++ (insSort timeC (U ++ [y]) ++ Y) := fun n hn h1 h2 => by
    rw [ins_right sU hn h1 h2]; simp
  have hstep : ∀ t (h : t < U.length), ((X ++ (U.take (t + 1) ++ (y :: (U.drop (t + 1) ++ Y)))).set (X.length + t + 1) U[t]).set (X.length + t) y = X ++ (U.take t ++ (y :: (U.drop t ++ Y))) := fun t h => by
    have e1 : U.drop t = U[t] :: U.drop (t + 1) := List.drop_eq_getElem_cons h
    have e2 : U.take (t + 1) = U.take t ++ [U[t]] := List.take_succ_eq_append_getElem h
    have lt : (U.take t).length = t := by rw [List.length_take]; omega
    rw [e1, e2]
    generalize U.take t = U1 at *
    generalize U.drop (t + 1) = U2 at *
    generalize U[t] = u at *
    have e3 : X ++ (U1 ++ [u] ++ y :: (U2 ++ Y)) = (X ++ U1 ++ [u]) ++ y :: (U2 ++ Y) := by simp
    rw [e3, set_at (by simp; omega)]
    have e4 : X ++ U1 ++ [u] ++ u :: (U2 ++ Y) = (X ++ U1) ++ u :: (u :: (U2 ++ Y)) := by simp
    rw [e4, set_at (by simp; omega)]
    simp
  have hk1 : ∀ t (h : t < U.length), (X ++ (U.take (t + 1) ++ (y :: (U.drop (t + 1) ++ Y))))[X.length + t + 1]? = some y := fun t h => by
    have lt : (U.take (t + 1)).length = t + 1 := by rw [List.length_take]; omega
    rw [← List.append_assoc, List.getElem?_append_right (by simp; omega), List.length_append, lt, show X.length + t + 1 - (X.length + (t + 1)) = 0 by omega]; rfl
  have hk2 : ∀ t (h : t < U.length), (X ++ (U.take (t + 1) ++ (y :: (U.drop (t + 1) ++ Y))))[X.length + t]? = some U[t] := fun t h => by
    have lt : (U.take (t + 1)).length = t + 1 := by rw [List.length_take]; omega
    rw [get_mid (by omega), List.getElem?_take, if_pos (by omega), List.getElem?_eq_getElem h]
  have hkl : ∀ t, t ≤ U.length → (X ++ (U.take t ++ (y :: (U.drop t ++ Y)))).length = X.length + U.length + 1 + Y.length := fun t h => by
    simp; omega
  have h00 : X ++ (U ++ (y :: Y)) = X ++ (U.take U.length ++ (y :: (U.drop U.length ++ Y))) := by simp
  generalize hq : (fun t => X ++ (U.take t ++ (y :: (U.drop t ++ Y)))) = q at *
  have hqt : ∀ t, X ++ (U.take t ++ (y :: (U.drop t ++ Y))) = q t := fun t => by rw [← hq]
  simp only [hqt] at hfin hstep hk1 hk2 hkl h00
  generalize insSort timeC (U ++ [y]) = W at *
  rw [h00] at ga gU hqm ⊢
  clear hq hqt h00
  refine fn_sound (mt := mts) tab_fits tab_mixed Tryz.func150 (by rfl) (by kernel_rfl) (by kernel_rfl) Tryz.results150 (Nat.le_of_ble_eq_true (by kernel_rfl)) ?_
  conv => whnf
  rw [wm]
  repeat' (first | (refine .mk (fun h => ?_) (fun h => ?_) <;> (try simp only [decide_eq_true_eq, decide_eq_false_iff_not, Bool.not_eq_true', Bool.not_eq_false', beq_iff_eq, beq_eq_false_iff_ne, bne_iff_ne, bne_eq_false_iff_eq] at h) <;> (first | (exfalso; first | omega | exact h trivial) | (conv => whnf))) | fail)
  rw [wb]
  skip
  refine loop_while2 (fun (i : Nat) (j : Nat) => j - i) [] [0, 2, 4, 14, 15] (fun (i : Nat) (j : Nat) => [(14, .c (.int .i64 ((i : Nat) : Int))), (15, .c (.int .i64 ((j : Nat) : Int)))]) (fun (i : Nat) (j : Nat) => []) (fun (i : Nat) (j : Nat) => X.length ≤ i ∧ i ≤ j ∧ j ≤ X.length + U.length ∧ (∀ t (h : t < U.length), X.length + t < i → ¬ timeC y U[t] < 0) ∧ (∀ t (h : t < U.length), j ≤ X.length + t → timeC y U[t] < 0)) (X.length) (X.length + U.length) ?_
  conv => whnf
  refine ⟨(by first | rfl | (simp; done) | (simp; rfl)), ?_, ?_⟩
  · exact ⟨by omega, by omega, by omega, fun t h h2 => by omega, fun t h h2 => by omega⟩
  · intro i j ⟨h1, h2, h3, h4, h5⟩
    have hmid := mid_eq (i := i) (j := j) (by omega)
    conv => whnf
    repeat' (first | (refine .mk (fun h => ?_) (fun h => ?_) <;> (try simp only [decide_eq_true_eq, decide_eq_false_iff_not, Bool.not_eq_true', Bool.not_eq_false', beq_iff_eq, beq_eq_false_iff_ne, bne_iff_ne, bne_eq_false_iff_eq] at h) <;> (first | (exfalso; first | omega | exact h trivial) | (conv => whnf))) | (refine .mk (by first | omega | (unfold roomOK; simp [cutRows]; done) | (unfold roomOK; simp [cutRows]; omega) | (simp [cutRows]; done) | (simp [cutRows]; omega)) ?_; conv => whnf) | fail)
    · obtain ⟨t, ht⟩ : ∃ t, (i + j) / 2 = X.length + t := ⟨(i + j) / 2 - X.length, by omega⟩
      rw [ht] at hmid
      have htv : t < U.length := by omega
      have hw : IntKind.i64.wrap (((X.length + t : Nat) : Int) + 1) = ((X.length + t + 1 : Nat) : Int) := by rw [wrap_in (by omega) (by omega)]; omega
      rw [hmid]
      repeat' (first | (refine .mk (fun h => ?_) (fun h => ?_) <;> (try simp only [decide_eq_true_eq, decide_eq_false_iff_not, Bool.not_eq_true', Bool.not_eq_false', beq_iff_eq, beq_eq_false_iff_ne, bne_iff_ne, bne_eq_false_iff_eq] at h) <;> (first | (exfalso; first | omega | exact h trivial) | (conv => whnf))) | (refine .mk _ _ (by exact hg _ _) ?_; conv => whnf) | (refine .mk (by first | omega | (unfold roomOK; simp [cutRows]; done) | (unfold roomOK; simp [cutRows]; omega) | (simp [cutRows]; done) | (simp [cutRows]; omega)) ?_; conv => whnf) | ((refine row_get (by rw [toN]; exact gU t htv) ?_); conv => whnf) | ((refine row_get (by rw [toN]; exact ga) ?_); conv => whnf) | fail)
      · rw [hw]
        refine meas_next (X.length + t + 1, j) (by simp only; omega) rfl ⟨by simp only; omega, by simp only; omega, h3, fun u hu hu2 => ?_, h5⟩
        have a1 : ¬ timeC y U[t] < 0 := by assumption
        rcases pair_at sU (show u ≤ t by simp only at hu2; omega) htv with e | e
        · rw [e]; assumption
        · exact cmp_time.swo.ntrans _ _ _ a1 e
      · refine meas_next (i, X.length + t) (by simp only; omega) rfl ⟨by simp only; omega, by simp only; omega, by simp only; omega, h4, fun u hu hu2 => ?_⟩
        have a1 : timeC y U[t] < 0 := by assumption
        rcases pair_at sU (show t ≤ u by simp only at hu2; omega) hu with e | e
        · rw [← e]; assumption
        · exact cmp_time.lt (show timeC y U[t] ≤ 0 by omega) (show timeC U[t] U[u] ≤ 0 by have := cmp_time.anti U[t] U[u]; unfold leT at e; omega) (.inl a1)
    · obtain ⟨n, hn⟩ : ∃ n, i = X.length + n := ⟨i - X.length, by omega⟩
      have hij : i = j := by omega
      subst hij
      subst hn
      have hend := hfin n (by omega) (fun t h h2 => h4 t h (by omega)) (fun t h h2 => h5 t h (by omega))
      refine loop_while (fun (d : Nat) => d) [] [0, 14, 17] (fun (d : Nat) => [(17, .c (.int .i64 ((X.length + n + d : Nat) : Int)))]) (fun (d : Nat) => [(0, .row 32 6 ((q (n + d)).map encAc))]) (fun (d : Nat) => d ≤ U.length - n) (U.length - n) ?_
      conv => whnf
      refine ⟨?_, ?_, ?_⟩
      · rw [show n + (U.length - n) = U.length by omega, show X.length + n + (U.length - n) = X.length + U.length by omega]; rfl
      · exact Nat.le_refl _
      · intro d hd
        conv => whnf
        repeat' (first | (refine .mk (fun h => ?_) (fun h => ?_) <;> (try simp only [decide_eq_true_eq, decide_eq_false_iff_not, Bool.not_eq_true', Bool.not_eq_false', beq_iff_eq, beq_eq_false_iff_ne, bne_iff_ne, bne_eq_false_iff_eq] at h) <;> (first | (exfalso; first | omega | exact h trivial) | (conv => whnf))) | fail)
        · obtain ⟨e, rfl⟩ : ∃ e, d = e + 1 := ⟨d - 1, by omega⟩
          have a1 := hk1 (n + e) (by omega)
          have a2 := hk2 (n + e) (by omega)
          have a3 := hstep (n + e) (by omega)
          have a4 := hkl (n + e + 1) (by omega)
          have hqm2 : ((q (n + e + 1)).map encAc).length = X.length + U.length + 1 + Y.length := by rw [List.length_map, a4]
          have w1 : IntKind.i64.wrap (((X.length + n + (e + 1) : Nat) : Int) - 1) = ((X.length + (n + e) : Nat) : Int) := by rw [wrap_in (by omega) (by omega)]; omega
          have w2 : X.length + n + (e + 1) = X.length + (n + e) + 1 := by omega
          have hqm3 : ((q (n + (e + 1))).map encAc).length = X.length + U.length + 1 + Y.length := hqm2
          have a1' : (q (n + (e + 1)))[X.length + n + (e + 1)]? = some y := by rw [w2]; exact a1
          have a2' : (q (n + (e + 1)))[X.length + (n + e)]? = some U[n + e] := a2
          generalize U[n + e]'(by omega) = v at *
          repeat' (first | (refine .mk (by first | omega | (unfold roomOK; simp [cutRows]; done) | (unfold roomOK; simp [cutRows]; omega)) ?_; conv => whnf) | ((rw [w1]); conv => whnf) | ((refine row_get (by rw [toN]; exact a2') ?_); conv => whnf) | ((refine row_get (by rw [toN]; exact a1') ?_); conv => whnf) | ((refine .mk (by rw [List.length_set]; omega) ?_); conv => whnf) | fail)
          refine .mk (encAc v) (by rw [toN, toN, List.getElem?_set_ne (by omega), List.getElem?_map, a2']; rfl) ?_
          conv => whnf
          exact meas_next e (by omega) (by (first | rw [w1] | skip); rw [w2, ← a3, show X.length + (n + e) = X.length + n + e by omega]; simp only [List.map_set]; rfl) (by omega)
        · obtain rfl : d = 0 := by omega
          rw [Nat.add_zero, hend]
          exact .mk ⟨rfl, rfl⟩
end Go.Proofs.YtilfcojhdhgmfaaGreatDoor

namespace Go.Proofs.YtilfcojhdhgmfaaGreatDoor
set_option linter.unusedVariables false
set_option linter.unusedSimpArgs false
open Abs

def SymP (g : Nat) (N : Nat) : Prop := ∀ (X U V Y : List Ac), U.length + V.length ≤ N → 0 < U.length → 0 < V.length → U.Pairwise leT → V.Pairwise leT → X.length + U.length + V.length + Y.length ≤ 100000 →
    PCp 150 [.c (.row 0), .c (.int .i64 (X.length : Nat)), .c (.int .i64 ((X.length + U.length : Nat) : Int)), .c (.int .i64 ((X.length + U.length + V.length : Nat) : Int)), .c (.fn g [])] [.row 32 6 ((X ++ (U ++ (V ++ Y))).map encAc)] (.tup []) [.row 32 6 ((X ++ (insSort timeC (U ++ V) ++ Y)).map encAc)]
theorem sym_mono {U V : List Ac} (sU : U.Pairwise leT) (sV : V.Pairwise leT) {i j k l : Nat} (hij : i ≤ j) (hj : j < U.length) (hkl : k ≤ l) (hl : l < V.length) (h : timeC V[l] (U[i]'(by omega)) < 0) : timeC (V[k]'(by omega)) U[j] < 0 := by
  have h1 : timeC (V[k]'(by omega)) V[l] ≤ 0 := by
    rcases pair_at sV hkl hl with e | e
    · rw [e]; have := cmp_time.anti V[l] V[l]; omega
    · have := cmp_time.anti (V[k]'(by omega)) V[l]; unfold leT at e; omega
  have h2 : timeC (U[i]'(by omega)) U[j] ≤ 0 := by
    rcases pair_at sU hij hj with e | e
    · rw [e]; have := cmp_time.anti U[j] U[j]; omega
    · have := cmp_time.anti (U[i]'(by omega)) U[j]; unfold leT at e; omega
  exact cmp_time.lt (cmp_time.trans _ _ _ h1 (by omega)) h2 (.inl (cmp_time.lt h1 (by omega) (.inr h)))
theorem sym_rows {U V : List Ac} (sU : U.Pairwise leT) (sV : V.Pairwise leT) (X Y : List Ac) (u v : Nat) :
    ((U.drop u = [] ∨ V.take v = []) → X ++ (U ++ (V ++ Y)) = X ++ (U.take u ++ (V.take v ++ (U.drop u ++ (V.drop v ++ Y))))) ∧
    ((U.take u = [] ∨ V.take v = []) → X ++ (U.take u ++ (V.take v ++ (U.drop u ++ (V.drop v ++ Y)))) = X ++ (insSort timeC (U.take u ++ V.take v) ++ (U.drop u ++ (V.drop v ++ Y)))) ∧
    ((U.drop u = [] ∨ V.drop v = []) → X ++ (insSort timeC (U.take u ++ V.take v) ++ (U.drop u ++ (V.drop v ++ Y))) = X ++ (insSort timeC (U.take u ++ V.take v) ++ (insSort timeC (U.drop u ++ V.drop v) ++ Y))) := by
  have a1 := sU.sublist (List.take_sublist u U)
  have a2 := sU.sublist (List.drop_sublist u U)
  have b1 := sV.sublist (List.take_sublist v V)
  have b2 := sV.sublist (List.drop_sublist v V)
  have e1 : X ++ (U ++ (V ++ Y)) = X ++ (U.take u ++ (U.drop u ++ (V.take v ++ (V.drop v ++ Y)))) := by
    rw [← List.append_assoc (V.take v), List.take_append_drop, ← List.append_assoc (U.take u), List.take_append_drop]
  rw [e1]
  generalize U.take u = U1 at *
  generalize U.drop u = U2 at *
  generalize V.take v = V1 at *
  generalize V.drop v = V2 at *
  refine ⟨?_, ?_, ?_⟩
  · rintro (rfl | rfl) <;> rfl
  · rintro (rfl | rfl)
    · rw [srt_nil_l b1]; rfl
    · rw [srt_nil_r a1]; rfl
  · rintro (rfl | rfl)
    · rw [srt_nil_l b2]; rfl
    · rw [srt_nil_r a2]; rfl
set_option maxRecDepth 100000 in
set_option maxHeartbeats 4000000 in
theorem symC_pc (g : Nat) (hg : ∀ x y : Ac, PCp g [.agg (encAc x), .agg (encAc y)] [] (.c (.int .i64 (timeC x y))) []) (X U V Y : List Ac) (hU : 2 ≤ U.length) (hV : 2 ≤ V.length) (sU : U.Pairwise leT) (sV : V.Pairwise leT) (hl : X.length + U.length + V.length + Y.length ≤ 100000)
    (ih : SymP g (U.length + V.length - 1)) :
    PCp 150 [.c (.row 0), .c (.int .i64 (X.length : Nat)), .c (.int .i64 ((X.length + U.length : Nat) : Int)), .c (.int .i64 ((X.length + U.length + V.length : Nat) : Int)), .c (.fn g [])] [.row 32 6 ((X ++ (U ++ (V ++ Y))).map encAc)] (.tup []) [.row 32 6 ((X ++ (insSort timeC (U ++ V) ++ Y)).map encAc)] := by
  have gU : ∀ t (h : t < U.length), (X ++ (U ++ (V ++ Y)))[X.length + t]? = some U[t] := fun t h => by
    rw [get_mid h, List.getElem?_eq_getElem h]
  have gV : ∀ t (h : t < V.length), (X ++ (U ++ (V ++ Y)))[X.length + U.length + t]? = some V[t] := fun t h => by
    rw [show X ++ (U ++ (V ++ Y)) = (X ++ U) ++ (V ++ Y) by simp, show X.length + U.length + t = (X ++ U).length + t by simp, get_mid h, List.getElem?_eq_getElem h]
  have hqm : (X ++ (U ++ (V ++ Y))).length = X.length + U.length + V.length + Y.length := by simp; omega
  have hmid := mid_eq (i := X.length) (j := X.length + U.length + V.length) (by omega)
  obtain ⟨mid, hmd⟩ : ∃ mid, mid = (X.length + (X.length + U.length + V.length)) / 2 := ⟨_, rfl⟩
  rw [← hmd] at hmid
  have hm1 : 2 * mid ≤ 2 * X.length + U.length + V.length ∧ 2 * X.length + U.length + V.length < 2 * mid + 2 := by omega
  clear hmd
  have hcut : ∀ lo hi s, (mid < X.length + U.length ∧ lo + V.length = mid ∧ hi = mid) ∨ (X.length + U.length ≤ mid ∧ lo = X.length ∧ hi = X.length + U.length) → lo ≤ s → s ≤ hi →
      (∀ c, lo ≤ c → c < s → ∀ (h1 : c - X.length < U.length) (h2 : mid - 1 - c < V.length), ¬ timeC V[mid - 1 - c] U[c - X.length] < 0) →
      (∀ c, s ≤ c → c < hi → ∀ (h1 : c - X.length < U.length) (h2 : mid - 1 - c < V.length), timeC V[mid - 1 - c] U[c - X.length] < 0) →
      insSort timeC (U ++ V) = insSort timeC (U.take (s - X.length) ++ V.take (mid - s)) ++ insSort timeC (U.drop (s - X.length) ++ V.drop (mid - s)) := by
    intro lo hi s hlh h1 h2 h3 h4
    refine srt_cut sU sV (by omega) (by omega) ?_ ?_
    · by_cases e : s = lo
      · rcases hlh with e1 | e1
        · exact .inr (.inl (by omega))
        · exact .inl (by omega)
      · by_cases e0 : s = X.length
        · exact .inl (by omega)
        right
        by_cases e5 : mid - s = V.length
        · exact .inl e5
        right
        have := h3 (s - 1) (by omega) (by omega) (by omega) (by omega)
        refine ⟨_, _, List.getElem?_eq_getElem (by omega), List.getElem?_eq_getElem (by omega), ?_⟩
        unfold leT
        simpa [show s - 1 - X.length = s - X.length - 1 by omega, show mid - 1 - (s - 1) = mid - s by omega] using this
    · by_cases e : s = hi
      · rcases hlh with e1 | e1
        · exact .inl (by omega)
        · exact .inr (.inl (by omega))
      · by_cases e0 : mid - s = 0
        · exact .inl e0
        right
        by_cases e5 : s - X.length = U.length
        · exact .inl e5
        right
        have := h4 s (by omega) (by omega) (by omega) (by omega)
        refine ⟨_, _, List.getElem?_eq_getElem (by omega), List.getElem?_eq_getElem (by omega), leT_lt ?_⟩
        simpa [show mid - 1 - s = mid - s - 1 by omega] using this
  have hmono : ∀ c c', X.length ≤ c → c ≤ c' → c' - X.length < U.length → c' < mid → mid - 1 - c < V.length → ∀ (h1 : c - X.length < U.length) (h2 : mid - 1 - c < V.length) (h3 : c' - X.length < U.length) (h4 : mid - 1 - c' < V.length), timeC V[mid - 1 - c] U[c - X.length] < 0 → timeC V[mid - 1 - c'] U[c' - X.length] < 0 :=
    fun c c' a1 a2 a3 a4 a5 h1 h2 h3 h4 h => sym_mono sU sV (by omega) h3 (by omega) h2 h
  have hcalls : ∀ s, X.length ≤ s → s ≤ X.length + U.length → s ≤ mid → mid - s ≤ V.length → ∃ q1 q2 q3 : List Ac, q3 = X ++ ((insSort timeC (U.take (s - X.length) ++ V.take (mid - s)) ++ insSort timeC (U.drop (s - X.length) ++ V.drop (mid - s))) ++ Y) ∧
      (s < X.length + U.length → s < mid → PCp 191 [.c (.row 0), .c (.int .i64 (s : Nat)), .c (.int .i64 ((X.length + U.length : Nat) : Int)), .c (.int .i64 ((X.length + U.length + (mid - s) : Nat) : Int)), .c (.fn g [])] [.row 32 6 ((X ++ (U ++ (V ++ Y))).map encAc)] (.tup []) [.row 32 6 (q1.map encAc)]) ∧
      (¬ (s < X.length + U.length ∧ s < mid) → X ++ (U ++ (V ++ Y)) = q1) ∧
      (X.length < s → s < mid → PCp 150 [.c (.row 0), .c (.int .i64 (X.length : Nat)), .c (.int .i64 (s : Nat)), .c (.int .i64 (mid : Nat)), .c (.fn g [])] [.row 32 6 (q1.map encAc)] (.tup []) [.row 32 6 (q2.map encAc)]) ∧
      (¬ (X.length < s ∧ s < mid) → q1 = q2) ∧
      (s < X.length + U.length → mid - s < V.length → PCp 150 [.c (.row 0), .c (.int .i64 (mid : Nat)), .c (.int .i64 ((X.length + U.length + (mid - s) : Nat) : Int)), .c (.int .i64 ((X.length + U.length + V.length : Nat) : Int)), .c (.fn g [])] [.row 32 6 (q2.map encAc)] (.tup []) [.row 32 6 (q3.map encAc)]) ∧
      (¬ (s < X.length + U.length ∧ mid - s < V.length) → q2 = q3) := by
    intro s hs1 hs2 hs3 hs4
    obtain ⟨n1, n2, n3⟩ := sym_rows sU sV X Y (s - X.length) (mid - s)
    have a1 := sU.sublist (List.take_sublist (s - X.length) U)
    have a2 := sU.sublist (List.drop_sublist (s - X.length) U)
    have b1 := sV.sublist (List.take_sublist (mid - s) V)
    have b2 := sV.sublist (List.drop_sublist (mid - s) V)
    have e1 : X ++ (U ++ (V ++ Y)) = (X ++ U.take (s - X.length)) ++ (U.drop (s - X.length) ++ (V.take (mid - s) ++ (V.drop (mid - s) ++ Y))) := by
      rw [← List.append_assoc (V.take _), List.take_append_drop, List.append_assoc, ← List.append_assoc (U.take _), List.take_append_drop]
    have l1 : (U.take (s - X.length)).length = s - X.length := by rw [List.length_take]; omega
    have l2 : (U.drop (s - X.length)).length = U.length - (s - X.length) := by rw [List.length_drop]
    have l3 : (V.take (mid - s)).length = mid - s := by rw [List.length_take]; omega
    have l4 : (V.drop (mid - s)).length = V.length - (mid - s) := by rw [List.length_drop]
    have z1 : ∀ {l : List Ac}, l.length = 0 → l = [] := fun h => List.length_eq_zero_iff.1 h
    have ls := srt_len (U.take (s - X.length) ++ V.take (mid - s))
    rw [List.length_append, l1, l3] at ls
    refine ⟨_, _, _, rfl, fun h1 h2 => ?_, fun h => n1 ?_, fun h1 h2 => ?_, fun h => n2 ?_, fun h1 h2 => ?_, fun h => (n3 ?_).trans (by simp)⟩
    · have c := rotAct_pc g (X ++ U.take (s - X.length)) (U.drop (s - X.length)) (V.take (mid - s)) (V.drop (mid - s) ++ Y) (fun e => by rw [e] at l2; simp at l2; omega) (fun e => by rw [e] at l3; simp at l3; omega) (by simp only [List.length_append]; omega)
      rw [List.length_append, l1, l2, l3, show X.length + (s - X.length) = s by omega, show s + (U.length - (s - X.length)) = X.length + U.length by omega, ← e1, List.append_assoc] at c
      exact c
    · by_cases e : s < X.length + U.length
      · exact .inr (z1 (by omega))
      · exact .inl (z1 (by omega))
    · have c := ih X (U.take (s - X.length)) (V.take (mid - s)) (U.drop (s - X.length) ++ (V.drop (mid - s) ++ Y)) (by omega) (by omega) (by omega) a1 b1 (by simp only [List.length_append]; omega)
      rw [l1, l3, show X.length + (s - X.length) = s by omega, show s + (mid - s) = mid by omega] at c
      exact c
    · by_cases e : s < mid
      · exact .inl (z1 (by omega))
      · exact .inr (z1 (by omega))
    · have c := ih (X ++ insSort timeC (U.take (s - X.length) ++ V.take (mid - s))) (U.drop (s - X.length)) (V.drop (mid - s)) Y (by omega) (by omega) (by omega) a2 b2 (by simp only [List.length_append]; omega)
      rw [List.length_append, ls, l2, l4, show X.length + (s - X.length + (mid - s)) = mid by omega, show mid + (U.length - (s - X.length)) = X.length + U.length + (mid - s) by omega, show X.length + U.length + (mid - s) + (V.length - (mid - s)) = X.length + U.length + V.length by omega, List.append_assoc, List.append_assoc] at c
      rw [List.append_assoc]
      exact c
    · by_cases e : s < X.length + U.length
      · exact .inr (z1 (by omega))
      · exact .inl (z1 (by omega))
  clear ih
  generalize hW : insSort timeC (U ++ V) = W at *
  generalize hq0 : X ++ (U ++ (V ++ Y)) = q0 at *
  have hq0m : (q0.map encAc).length = X.length + U.length + V.length + Y.length := by rw [List.length_map, hqm]
  have wm : IntKind.i64.wrap (((X.length + U.length : Nat) : Int) - (X.length : Nat)) = (U.length : Nat) := by rw [wrap_in (by omega) (by omega)]; omega
  have wb : IntKind.i64.wrap (((X.length + U.length + V.length : Nat) : Int) - ((X.length + U.length : Nat) : Int)) = (V.length : Nat) := by rw [wrap_in (by omega) (by omega)]; omega
  have wn : IntKind.i64.wrap ((mid : Int) + ((X.length + U.length : Nat) : Int)) = ((mid + X.length + U.length : Nat) : Int) := by rw [wrap_in (by omega) (by omega)]; omega
  have wp : IntKind.i64.wrap (((mid + X.length + U.length : Nat) : Int) - 1) = ((mid + X.length + U.length - 1 : Nat) : Int) := by rw [wrap_in (by omega) (by omega)]; omega
  have hmain : ∀ lo hi, (mid < X.length + U.length ∧ lo + V.length = mid ∧ hi = mid) ∨ (X.length + U.length ≤ mid ∧ lo = X.length ∧ hi = X.length + U.length) → lo ≤ hi := by intro lo hi h; omega
  refine fn_sound (mt := mts) tab_fits tab_mixed Tryz.func150 (by rfl) (by kernel_rfl) (by kernel_rfl) Tryz.results150 (Nat.le_of_ble_eq_true (by kernel_rfl)) ?_
  conv => whnf
  rw [wm]
  repeat' (first | (refine .mk (fun h => ?_) (fun h => ?_) <;> (try simp only [decide_eq_true_eq, decide_eq_false_iff_not, Bool.not_eq_true', Bool.not_eq_false', beq_iff_eq, beq_eq_false_iff_ne, bne_iff_ne, bne_eq_false_iff_eq] at h) <;> (first | (exfalso; first | omega | exact h trivial) | (conv => whnf))) | (refine .mk (by first | omega | (unfold roomOK; simp [cutRows]; done) | (unfold roomOK; simp [cutRows]; omega) | (simp [cutRows]; done) | (simp [cutRows]; omega)) ?_; conv => whnf) | fail)
  rw [wb]
  skip
  rw [hmid, wn, wp]
  skip
  · obtain ⟨lo, hlo⟩ : ∃ lo, lo + V.length = mid := ⟨mid - V.length, by omega⟩
    have hwl : IntKind.i64.wrap (((mid + X.length + U.length : Nat) : Int) - ((X.length + U.length + V.length : Nat) : Int)) = ((lo : Nat) : Int) := by rw [wrap_in (by omega) (by omega)]; omega
    rw [hwl]
    refine loop_while2 (fun (s : Nat) (r : Nat) => r - s) [] [0, 1, 2, 3, 4, 18, 19, 20, 21, 22] (fun (s : Nat) (r : Nat) => [(20, .c (.int .i64 ((s : Nat) : Int))), (21, .c (.int .i64 ((r : Nat) : Int)))]) (fun (s : Nat) (r : Nat) => []) (fun (s : Nat) (r : Nat) => lo ≤ s ∧ s ≤ r ∧ r ≤ mid ∧ (∀ c, lo ≤ c → c < s → ∀ (h1 : c - X.length < U.length) (h2 : mid - 1 - c < V.length), ¬ timeC V[mid - 1 - c] U[c - X.length] < 0) ∧ (∀ c, r ≤ c → c < mid → ∀ (h1 : c - X.length < U.length) (h2 : mid - 1 - c < V.length), timeC V[mid - 1 - c] U[c - X.length] < 0)) (lo) (mid) ?_
    conv => whnf
    refine ⟨(by first | rfl | (simp; done) | (simp; rfl)), ?_, ?_⟩
    · exact ⟨by omega, by omega, by omega, fun c h1 h2 => by omega, fun c h1 h2 => by omega⟩
    · intro s r ⟨h1, h2, h3, h4, h5⟩
      have hmd := mid_eq (i := s) (j := r) (by omega)
      conv => whnf
      refine .mk (fun h => ?_) (fun h => ?_) <;> simp only [decide_eq_true_eq, decide_eq_false_iff_not] at h <;> (conv => whnf)
      · obtain ⟨c, hc⟩ : ∃ c, (s + r) / 2 = c := ⟨_, rfl⟩
        rw [hc] at hmd
        have hcu : c - X.length < U.length := by omega
        have hcv : mid - 1 - c < V.length := by omega
        have r1 := gU (c - X.length) hcu
        rw [show X.length + (c - X.length) = c by omega] at r1
        have r2 := gV (mid - 1 - c) hcv
        rw [show X.length + U.length + (mid - 1 - c) = mid + X.length + U.length - 1 - c by omega] at r2
        have w1 : IntKind.i64.wrap (((mid + X.length + U.length - 1 : Nat) : Int) - (c : Int)) = ((mid + X.length + U.length - 1 - c : Nat) : Int) := by rw [wrap_in (by omega) (by omega)]; omega
        have w2 : IntKind.i64.wrap ((c : Int) + 1) = ((c + 1 : Nat) : Int) := by rw [wrap_in (by omega) (by omega)]; omega
        refine .mk (by omega) ?_
        conv => whnf
        rw [hmd]
        repeat' (first | (refine .mk (fun h => ?_) (fun h => ?_) <;> (try simp only [decide_eq_true_eq, decide_eq_false_iff_not, Bool.not_eq_true', Bool.not_eq_false', beq_iff_eq, beq_eq_false_iff_ne] at h) <;> (first | (exfalso; first | omega | exact h trivial) | (conv => whnf))) | (refine .mk _ _ (by exact hg _ _) ?_; conv => whnf) | (refine .mk (by first | omega | (unfold roomOK; simp [cutRows]; done) | (unfold roomOK; simp [cutRows]; omega)) ?_; conv => whnf) | ((rw [w1]); conv => whnf) | ((refine row_get (by rw [toN]; exact r1) ?_); conv => whnf) | ((refine row_get (by rw [toN]; exact r2) ?_); conv => whnf) | fail)
        · rw [w2]
          have a1 : ¬ timeC V[mid - 1 - c] U[c - X.length] < 0 := by assumption
          exact meas_next (c + 1, r) (by simp only; omega) rfl ⟨by simp only; omega, by simp only; omega, h3, fun d g1 g2 k1 k2 q => a1 (hmono d c (by omega) (by simp only at g2; omega) hcu (by omega) k2 k1 k2 hcu hcv q), h5⟩
        · have a1 : timeC V[mid - 1 - c] U[c - X.length] < 0 := by assumption
          exact meas_next (s, c) (by simp only; omega) rfl ⟨h1, by simp only; omega, by simp only; omega, h4, fun d g1 g2 k1 k2 => hmono c d (by omega) (by simp only at g1; omega) k1 (by omega) hcv hcu hcv k1 k2 a1⟩
      · have hsr : s = r := by omega
        subst hsr
        have hW2 := hcut lo mid s (.inl ⟨by omega, hlo, rfl⟩) (by omega) (by omega) h4 h5
        obtain ⟨q1, q2, q3, e3, cR, nR, cA, nA, cB, nB⟩ := hcalls s (by omega) (by omega) (by omega) (by omega)
        have wE : IntKind.i64.wrap (((mid + X.length + U.length : Nat) : Int) - (s : Int)) = ((X.length + U.length + (mid - s) : Nat) : Int) := by rw [wrap_in (by omega) (by omega)]; omega
        have cA0 : ¬ (s < X.length + U.length ∧ s < mid) → X.length < s → s < mid → PCp 150 [.c (.row 0), .c (.int .i64 (X.length : Nat)), .c (.int .i64 (s : Nat)), .c (.int .i64 (mid : Nat)), .c (.fn g [])] [.row 32 6 (q0.map encAc)] (.tup []) [.row 32 6 (q2.map encAc)] := fun h a b => by rw [nR h]; exact cA a b
        have cB1 : ¬ (X.length < s ∧ s < mid) → s < X.length + U.length → mid - s < V.length → PCp 150 [.c (.row 0), .c (.int .i64 (mid : Nat)), .c (.int .i64 ((X.length + U.length + (mid - s) : Nat) : Int)), .c (.int .i64 ((X.length + U.length + V.length : Nat) : Int)), .c (.fn g [])] [.row 32 6 (q1.map encAc)] (.tup []) [.row 32 6 (q3.map encAc)] := fun h a b => by rw [nA h]; exact cB a b
        have cB0 : ¬ (s < X.length + U.length ∧ s < mid) → ¬ (X.length < s ∧ s < mid) → s < X.length + U.length → mid - s < V.length → PCp 150 [.c (.row 0), .c (.int .i64 (mid : Nat)), .c (.int .i64 ((X.length + U.length + (mid - s) : Nat) : Int)), .c (.int .i64 ((X.length + U.length + V.length : Nat) : Int)), .c (.fn g [])] [.row 32 6 (q0.map encAc)] (.tup []) [.row 32 6 (q3.map encAc)] := fun h0 h a b => by rw [nR h0, nA h]; exact cB a b
        rw [hW2, ← e3, wE]
        clear hW2 e3 hcut hcalls hmono h4 h5 gU gV
        repeat' (first | (refine .mk (fun h => ?_) (fun h => ?_) <;> (try simp only [decide_eq_true_eq, decide_eq_false_iff_not, Bool.not_eq_true', Bool.not_eq_false', beq_iff_eq, beq_eq_false_iff_ne] at h) <;> (first | (exfalso; first | omega | exact h trivial) | (conv => whnf))) | (refine .mk _ _ (by first | exact (cR (by omega) (by omega)) | exact (cA (by omega) (by omega)) | exact (cB (by omega) (by omega)) | exact (cB0 (by omega) (by omega) (by omega) (by omega))) ?_; conv => whnf) | fail)
        all_goals first | exact .mk ⟨rfl, rfl⟩ | (rw [← nB (by omega)]; exact .mk ⟨rfl, rfl⟩) | (rw [← nB (by omega), ← nA (by omega)]; exact .mk ⟨rfl, rfl⟩) | (rw [← nB (by omega), ← nA (by omega), ← nR (by omega)]; exact .mk ⟨rfl, rfl⟩)
  · rw [hmid, wn, wp]
    have hge : X.length + U.length ≤ mid := by omega
    refine loop_while2 (fun (s : Nat) (r : Nat) => r - s) [] [0, 1, 2, 3, 4, 18, 19, 20, 21, 22] (fun (s : Nat) (r : Nat) => [(20, .c (.int .i64 ((s : Nat) : Int))), (21, .c (.int .i64 ((r : Nat) : Int)))]) (fun (s : Nat) (r : Nat) => []) (fun (s : Nat) (r : Nat) => X.length ≤ s ∧ s ≤ r ∧ r ≤ (X.length + U.length) ∧ (∀ c, X.length ≤ c → c < s → ∀ (h1 : c - X.length < U.length) (h2 : mid - 1 - c < V.length), ¬ timeC V[mid - 1 - c] U[c - X.length] < 0) ∧ (∀ c, r ≤ c → c < (X.length + U.length) → ∀ (h1 : c - X.length < U.length) (h2 : mid - 1 - c < V.length), timeC V[mid - 1 - c] U[c - X.length] < 0)) (X.length) ((X.length + U.length)) ?_
    conv => whnf
    refine ⟨(by first | rfl | (simp; done) | (simp; rfl)), ?_, ?_⟩
    · exact ⟨by omega, by omega, by omega, fun c h1 h2 => by omega, fun c h1 h2 => by omega⟩
    · intro s r ⟨h1, h2, h3, h4, h5⟩
      have hmd := mid_eq (i := s) (j := r) (by omega)
      conv => whnf
      refine .mk (fun h => ?_) (fun h => ?_) <;> simp only [decide_eq_true_eq, decide_eq_false_iff_not] at h <;> (conv => whnf)
      · obtain ⟨c, hc⟩ : ∃ c, (s + r) / 2 = c := ⟨_, rfl⟩
        rw [hc] at hmd
        have hcu : c - X.length < U.length := by omega
        have hcv : mid - 1 - c < V.length := by omega
        have r1 := gU (c - X.length) hcu
        rw [show X.length + (c - X.length) = c by omega] at r1
        have r2 := gV (mid - 1 - c) hcv
        rw [show X.length + U.length + (mid - 1 - c) = mid + X.length + U.length - 1 - c by omega] at r2
        have w1 : IntKind.i64.wrap (((mid + X.length + U.length - 1 : Nat) : Int) - (c : Int)) = ((mid + X.length + U.length - 1 - c : Nat) : Int) := by rw [wrap_in (by omega) (by omega)]; omega
        have w2 : IntKind.i64.wrap ((c : Int) + 1) = ((c + 1 : Nat) : Int) := by rw [wrap_in (by omega) (by omega)]; omega
        refine .mk (by omega) ?_
        conv => whnf
        rw [hmd]
        repeat' (first | (refine .mk (fun h => ?_) (fun h => ?_) <;> (try simp only [decide_eq_true_eq, decide_eq_false_iff_not, Bool.not_eq_true', Bool.not_eq_false', beq_iff_eq, beq_eq_false_iff_ne] at h) <;> (first | (exfalso; first | omega | exact h trivial) | (conv => whnf))) | (refine .mk _ _ (by exact hg _ _) ?_; conv => whnf) | (refine .mk (by first | omega | (unfold roomOK; simp [cutRows]; done) | (unfold roomOK; simp [cutRows]; omega)) ?_; conv => whnf) | ((rw [w1]); conv => whnf) | ((refine row_get (by rw [toN]; exact r1) ?_); conv => whnf) | ((refine row_get (by rw [toN]; exact r2) ?_); conv => whnf) | fail)
        · rw [w2]
          have a1 : ¬ timeC V[mid - 1 - c] U[c - X.length] < 0 := by assumption
          exact meas_next (c + 1, r) (by simp only; omega) rfl ⟨by simp only; omega, by simp only; omega, h3, fun d g1 g2 k1 k2 q => a1 (hmono d c (by omega) (by simp only at g2; omega) hcu (by omega) k2 k1 k2 hcu hcv q), h5⟩
        · have a1 : timeC V[mid - 1 - c] U[c - X.length] < 0 := by assumption
          exact meas_next (s, c) (by simp only; omega) rfl ⟨h1, by simp only; omega, by simp only; omega, h4, fun d g1 g2 k1 k2 => hmono c d (by omega) (by simp only at g1; omega) k1 (by omega) hcv hcu hcv k1 k2 a1⟩
      · have hsr : s = r := by omega
        subst hsr
        have hW2 := hcut X.length (X.length + U.length) s (.inr ⟨hge, rfl, rfl⟩) (by omega) (by omega) h4 h5
        obtain ⟨q1, q2, q3, e3, cR, nR, cA, nA, cB, nB⟩ := hcalls s (by omega) (by omega) (by omega) (by omega)
        have wE : IntKind.i64.wrap (((mid + X.length + U.length : Nat) : Int) - (s : Int)) = ((X.length + U.length + (mid - s) : Nat) : Int) := by rw [wrap_in (by omega) (by omega)]; omega
        have cA0 : ¬ (s < X.length + U.length ∧ s < mid) → X.length < s → s < mid → PCp 150 [.c (.row 0), .c (.int .i64 (X.length : Nat)), .c (.int .i64 (s : Nat)), .c (.int .i64 (mid : Nat)), .c (.fn g [])] [.row 32 6 (q0.map encAc)] (.tup []) [.row 32 6 (q2.map encAc)] := fun h a b => by rw [nR h]; exact cA a b
        have cB1 : ¬ (X.length < s ∧ s < mid) → s < X.length + U.length → mid - s < V.length → PCp 150 [.c (.row 0), .c (.int .i64 (mid : Nat)), .c (.int .i64 ((X.length + U.length + (mid - s) : Nat) : Int)), .c (.int .i64 ((X.length + U.length + V.length : Nat) : Int)), .c (.fn g [])] [.row 32 6 (q1.map encAc)] (.tup []) [.row 32 6 (q3.map encAc)] := fun h a b => by rw [nA h]; exact cB a b
        have cB0 : ¬ (s < X.length + U.length ∧ s < mid) → ¬ (X.length < s ∧ s < mid) → s < X.length + U.length → mid - s < V.length → PCp 150 [.c (.row 0), .c (.int .i64 (mid : Nat)), .c (.int .i64 ((X.length + U.length + (mid - s) : Nat) : Int)), .c (.int .i64 ((X.length + U.length + V.length : Nat) : Int)), .c (.fn g [])] [.row 32 6 (q0.map encAc)] (.tup []) [.row 32 6 (q3.map encAc)] := fun h0 h a b => by rw [nR h0, nA h]; exact cB a b
        rw [hW2, ← e3, wE]
        clear hW2 e3 hcut hcalls hmono h4 h5 gU gV
        repeat' (first | (refine .mk (fun h => ?_) (fun h => ?_) <;> (try simp only [decide_eq_true_eq, decide_eq_false_iff_not, Bool.not_eq_true', Bool.not_eq_false', beq_iff_eq, beq_eq_false_iff_ne] at h) <;> (first | (exfalso; first | omega | exact h trivial) | (conv => whnf))) | (refine .mk _ _ (by first | exact (cR (by omega) (by omega)) | exact (cA (by omega) (by omega)) | exact (cA0 (by omega) (by omega) (by omega)) | exact (cB (by omega) (by omega)) | exact (cB1 (by omega) (by omega) (by omega))) ?_; conv => whnf) | fail)
        all_goals first | exact .mk ⟨rfl, rfl⟩ | (rw [← nB (by omega)]; exact .mk ⟨rfl, rfl⟩) | (rw [← nB (by omega), ← nA (by omega)]; exact .mk ⟨rfl, rfl⟩) | (rw [← nB (by omega), ← nA (by omega), ← nR (by omega)]; exact .mk ⟨rfl, rfl⟩)
end Go.Proofs.YtilfcojhdhgmfaaGreatDoor

namespace Go.Proofs.YtilfcojhdhgmfaaGreatDoor
set_option linter.unusedVariables false
set_option linter.unusedSimpArgs false
open Abs

theorem sym_pc (g : Nat) (hg : ∀ x y : Ac, PCp g [.agg (encAc x), .agg (encAc y)] [] (.c (.int .i64 (timeC x y))) []) : ∀ N, SymP g N
  | 0 => fun X U V Y h h1 h2 => by omega
  | N + 1 => fun X U V Y h h1 h2 sU sV hl => by
    by_cases e1 : U.length = 1
    · obtain ⟨x, rfl⟩ := List.length_eq_one_iff.1 e1
      exact symL_pc g hg X x V Y h2 sV (by simp at hl; omega)
    by_cases e2 : V.length = 1
    · obtain ⟨y, rfl⟩ := List.length_eq_one_iff.1 e2
      exact symR_pc g hg X U y Y (by omega) sU (by simp at hl; omega)
    refine symC_pc g hg X U V Y (by omega) (by omega) sU sV hl ?_
    intro X' U' V' Y' h'
    exact sym_pc g hg N X' U' V' Y' (by omega)
set_option maxRecDepth 100000 in
set_option maxHeartbeats 4000000 in
theorem stActL_pc (g : Nat) (hg : ∀ x y : Ac, PCp g [.agg (encAc x), .agg (encAc y)] [] (.c (.int .i64 (timeC x y))) []) (l : List Ac) (hl : l.length < 40) :
    PCp 36 [.c (.row 0), .c (.fn g [])] [.row 32 6 (l.map encAc)] (.tup []) [.row 32 6 ((insSort timeC l).map encAc)] := by
  by_cases h20 : l.length < 20
  · exact stAct_pc g timeC hg l h20
  have hlm : (l.map encAc).length = l.length := List.length_map ..
  obtain ⟨n, hn⟩ : ∃ n, n = l.length := ⟨_, rfl⟩
  have lA : (l.take 20).length = 20 := by rw [List.length_take]; omega
  have lB : (l.drop 20).length = n - 20 := by rw [List.length_drop]; omega
  have hAB : l.take 20 ++ l.drop 20 = l := List.take_append_drop ..
  generalize hA : l.take 20 = A at *
  generalize hB : l.drop 20 = B at *
  have c1 := insAct_pc g timeC hg 0 20 l (Nat.zero_le _) (by omega) (by omega)
  have q1 : insTo timeC 0 (20 - (0 + 1)) l = insSort timeC A ++ B := by
    have := insTo_mid timeC [] B 19 A (by omega)
    simp only [List.nil_append, List.length_nil] at this
    rw [← hAB, this, insSort, lA]
  have sA : (insSort timeC A).length = 20 := by rw [srt_len, lA]
  have sB : (insSort timeC B).length = n - 20 := by rw [srt_len, lB]
  have c2 := insAct_pc g timeC hg 20 n (insSort timeC A ++ B) (by simp; omega) (by simp; omega) (by simp; omega)
  have q2 : insTo timeC 20 (n - (20 + 1)) (insSort timeC A ++ B) = insSort timeC A ++ insSort timeC B := by
    by_cases e : n = 20
    · have : B = [] := List.length_eq_zero_iff.1 (by omega)
      subst this
      rw [show n - (20 + 1) = 0 by omega]; rfl
    · have := insTo_mid timeC (insSort timeC A) [] (n - 21) B (by omega)
      rw [sA, List.append_nil, List.append_nil] at this
      rw [show n - (20 + 1) = n - 21 by omega, this]
      show _ = insSort timeC A ++ insTo timeC 0 (B.length - 1) B
      rw [lB, show n - 20 - 1 = n - 21 by omega]
  have hpq : (insSort timeC A ++ insSort timeC B).Perm l := by
    rw [← hAB]; exact (insSort_perm ..).append (insSort_perm ..)
  have q3 : insSort timeC (insSort timeC A ++ insSort timeC B) = insSort timeC l :=
    (srtT_one (L := insSort timeC A ++ insSort timeC B) (P := insSort timeC l) ((insSort_perm ..).trans hpq.symm) (insSort_srt cmp_time.swo l))
  have c3 : n ≠ 20 → PCp 150 [.c (.row 0), .c (.int .i64 0), .c (.int .i64 20), .c (.int .i64 (n : Nat)), .c (.fn g [])] [.row 32 6 ((insSort timeC A ++ insSort timeC B).map encAc)] (.tup []) [.row 32 6 ((insSort timeC l).map encAc)] := fun hne => by
    have := sym_pc g hg 40 [] (insSort timeC A) (insSort timeC B) [] (by omega) (by omega) (by omega) (insSort_srt cmp_time.swo A) (insSort_srt cmp_time.swo B) (by simp; omega)
    rw [q3, sA, sB, List.append_nil, List.append_nil, List.nil_append, List.nil_append, show ([] : List Ac).length + 20 + (n - 20) = n by simp; omega] at this
    exact this
  have q4 : n = 20 → insSort timeC A ++ insSort timeC B = insSort timeC l := fun e => by
    have : B = [] := List.length_eq_zero_iff.1 (by omega)
    subst this
    rw [← hAB, List.append_nil]; simp [insSort, insTo]
  rw [q1] at c1
  rw [q2] at c2
  generalize insSort timeC A ++ insSort timeC B = m2 at *
  generalize insSort timeC A ++ B = m1 at *
  generalize insSort timeC l = m3 at *
  have hst : PCp 99 [.c (.row 0), .c (.int .i64 (n : Nat)), .c (.fn g [])] [.row 32 6 (l.map encAc)] (.tup []) [.row 32 6 (m3.map encAc)] := by
    have w40 : IntKind.i64.wrap (20 + 20) = 40 := rfl
    have w41 : IntKind.i64.wrap (2 * 20) = 40 := rfl
    have w42 : IntKind.i64.wrap (0 + 20) = 20 := rfl
    have w43 : IntKind.i64.wrap (20 * 2) = 40 := rfl
    refine fn_sound (mt := mts) tab_fits tab_mixed Tryz.func99 (by rfl) (by kernel_rfl) (by kernel_rfl) Tryz.results99 (Nat.le_of_ble_eq_true (by kernel_rfl)) ?_
    conv => whnf
    refine .un 2 ?_
    conv => whnf
    repeat' (first | (refine .mk (fun h => ?_) (fun h => ?_) <;> (try simp only [decide_eq_true_eq, decide_eq_false_iff_not, Bool.not_eq_true', Bool.not_eq_false', beq_iff_eq, beq_eq_false_iff_ne, bne_iff_ne, bne_eq_false_iff_eq] at h) <;> (first | (exfalso; first | omega | exact h trivial) | (conv => whnf))) | (refine .mk _ _ (by first | exact c1 | exact c2) ?_; conv => whnf) | fail)
    all_goals (refine .un 2 ?_)
    all_goals (conv => whnf)
    repeat' (first | (refine .mk (fun h => ?_) (fun h => ?_) <;> (try simp only [decide_eq_true_eq, decide_eq_false_iff_not, Bool.not_eq_true', Bool.not_eq_false', beq_iff_eq, beq_eq_false_iff_ne, bne_iff_ne, bne_eq_false_iff_eq] at h) <;> (first | (exfalso; first | omega | exact h trivial) | (conv => whnf))) | fail)
    all_goals first | exact .mk ⟨rfl, rfl⟩ | (rw [← q4 (by omega)]; exact .mk ⟨rfl, rfl⟩) | (refine LoopG.un 1 ?_; conv => whnf)
    repeat' (first | (refine .mk (fun h => ?_) (fun h => ?_) <;> (try simp only [decide_eq_true_eq, decide_eq_false_iff_not, Bool.not_eq_true', Bool.not_eq_false', beq_iff_eq, beq_eq_false_iff_ne, bne_iff_ne, bne_eq_false_iff_eq] at h) <;> (first | (exfalso; first | omega | exact h trivial) | (conv => whnf))) | (refine .mk _ _ (by exact (c3 (by omega))) ?_; conv => whnf) | fail)
    all_goals first | exact .mk ⟨rfl, rfl⟩ | (rw [← q4 (by omega)]; exact .mk ⟨rfl, rfl⟩) | trace_state
  rw [hn] at hst
  refine fn_sound (mt := mts) tab_fits tab_mixed Tryz.func36 (by rfl) (by kernel_rfl) (by kernel_rfl) Tryz.results36 (Nat.le_of_ble_eq_true (by kernel_rfl)) ?_
  conv => whnf
  rw [hlm]
  repeat' (first | (refine .mk _ _ (by exact hst) ?_; conv => whnf) | fail)
  exact .mk ⟨rfl, rfl⟩
set_option maxRecDepth 100000 in
set_option maxHeartbeats 4000000 in
theorem dMergeL_pc (a b : List Ac) (hl : a.length + b.length < 40) :
    PCp 8 [.c (.lst 6 (a.map encAc)), .c (.lst 6 (b.map encAc))] [] (.tup [.c (.lst 6 ((if firstErr [actsFault a, actsFault b] = 0 then mgV a b else []).map encAc)), .c (.int .i64 (firstErr [actsFault a, actsFault b]))]) [] := by
  have hle := cpt_len (insSort timeC (a ++ b))
  rw [insSort_len, List.length_append] at hle
  obtain ⟨ob, hob, hc⟩ := cptAc_pc (insSort timeC (a ++ b)) (by rw [insSort_len, List.length_append]; omega)
  have hlm : ((cpt (insSort timeC (a ++ b))).map encAc).length = (cpt (insSort timeC (a ++ b))).length := List.length_map ..
  refine fn_sound (mt := mts) tab_fits tab_mixed Tryz.func8 (by rfl) (by kernel_rfl) (by kernel_rfl) Tryz.results8 (Nat.le_of_ble_eq_true (by kernel_rfl)) ?_
  conv => whnf
  repeat' (first | (refine .mk (fun h => ?_) (fun h => ?_) <;> (try simp only [decide_eq_true_eq, decide_eq_false_iff_not, Bool.not_eq_true', Bool.not_eq_false', beq_iff_eq, beq_eq_false_iff_ne, bne_iff_ne, bne_eq_false_iff_eq] at h) <;> (first | (exfalso; first | omega | exact h trivial) | (conv => whnf))) | (refine .mk _ _ (by first | exact checkActs_pc _ | exact first_pc [actsFault a, actsFault b] (by simp) | exact concat_pc a b (by omega) (by omega) | exact stActL_pc _ byTime_pc (a ++ b) (by simp; omega)) ?_; conv => whnf) | fail)
  · rw [if_neg h]
    refine .weak [] (.tup _ _ rfl ?_) rfl (Nat.le_refl _)
    intro i x y hx hy
    match i with
    | 0 => cases hx; cases hy; exact .nil 6
    | 1 => cases hx; cases hy; exact .refl _
    | n + 2 => cases hx
  · refine .mk _ _ hc ?_
    conv => whnf
    have h0 : firstErr [actsFault a, actsFault b] = 0 := by omega
    rcases hob with ⟨rows, rfl⟩ | rfl
    · conv => whnf
      refine .mk (fun h => ?_) (fun h => ?_)
      · simp at h; omega
      conv => whnf
      rw [if_pos h0, h0]
      exact .mk ⟨rfl, rfl⟩
    · conv => whnf
      refine .mk (fun h => ?_) (fun h => ?_)
      · simp at h; omega
      conv => whnf
      rw [if_pos h0, h0]
      exact .mk ⟨rfl, rfl⟩
end Go.Proofs.YtilfcojhdhgmfaaGreatDoor

namespace Go.Proofs.YtilfcojhdhgmfaaGreatDoor
set_option linter.unusedVariables false
set_option linter.unusedSimpArgs false
open Abs

section
variable {α : Type} [DecidableEq α] {c : α → α → Int}
omit [DecidableEq α] in
theorem rise_same (irr : ∀ x, ¬ c x x < 0) (tr : ∀ x y z, c x y < 0 → c y z < 0 → c x z < 0) : ∀ {a b : List α}, a.Pairwise (fun x y => c x y < 0) → b.Pairwise (fun x y => c x y < 0) → (∀ x, x ∈ a ↔ x ∈ b) → a = b
  | [], [], _, _, _ => rfl
  | [], y :: b, _, _, h => by have := (h y).2 (List.mem_cons_self ..); cases this
  | x :: a, [], _, _, h => by have := (h x).1 (List.mem_cons_self ..); cases this
  | x :: a, y :: b, ha, hb, h => by
    have ha' := List.pairwise_cons.1 ha
    have hb' := List.pairwise_cons.1 hb
    have e : x = y := by
      rcases List.mem_cons.1 ((h x).1 (List.mem_cons_self ..)) with e | e
      · exact e
      · rcases List.mem_cons.1 ((h y).2 (List.mem_cons_self ..)) with e2 | e2
        · exact e2.symm
        · exact absurd (tr _ _ _ (ha'.1 y e2) (hb'.1 x e)) (irr x)
    subst e
    congr 1
    refine rise_same irr tr ha'.2 hb'.2 fun z => ⟨fun hz => ?_, fun hz => ?_⟩
    · rcases List.mem_cons.1 ((h z).1 (List.mem_cons_of_mem _ hz)) with e | e
      · subst e; exact absurd (ha'.1 z hz) (irr z)
      · exact e
    · rcases List.mem_cons.1 ((h z).2 (List.mem_cons_of_mem _ hz)) with e | e
      · subst e; exact absurd (hb'.1 z hz) (irr z)
      · exact e
theorem cptA_riseT (tot : ∀ x y, ¬ c y x < 0 → x ≠ y → c x y < 0) : ∀ (r : List α) (a : α), (a :: r).Pairwise (fun x y => ¬ c y x < 0) → (∀ x ∈ cptA a r, c a x < 0 ∧ x ∈ r) ∧ (cptA a r).Pairwise (fun x y => c x y < 0) ∧ ∀ x ∈ r, x = a ∨ x ∈ cptA a r
  | [], a, _ => by simp [cptA]
  | b :: r, a, h => by
    have h' := List.pairwise_cons.1 h
    have ih := cptA_riseT tot r b h'.2
    unfold cptA
    by_cases e : b = a
    · subst e
      rw [if_pos rfl]
      refine ⟨fun x hx => ⟨(ih.1 x hx).1, List.mem_cons_of_mem _ (ih.1 x hx).2⟩, ih.2.1, fun x hx => ?_⟩
      rcases List.mem_cons.1 hx with e | e
      · exact .inl e
      · exact ih.2.2 x e
    · rw [if_neg e]
      have hab : c a b < 0 := tot a b (h'.1 b (List.mem_cons_self ..)) (fun e2 => e e2.symm)
      refine ⟨fun x hx => ?_, List.pairwise_cons.2 ⟨fun x hx => (ih.1 x hx).1, ih.2.1⟩, fun x hx => ?_⟩
      · rcases List.mem_cons.1 hx with e2 | e2
        · subst e2; exact ⟨hab, List.mem_cons_self ..⟩
        · have hxr := (ih.1 x e2).2
          have hax := h'.1 x (List.mem_cons_of_mem _ hxr)
          refine ⟨tot a x hax (fun e3 => ?_), List.mem_cons_of_mem _ hxr⟩
          subst e3
          exact absurd hab ((List.pairwise_cons.1 h'.2).1 a hxr)
      · rcases List.mem_cons.1 hx with e2 | e2
        · exact .inr (by rw [e2]; exact List.mem_cons_self ..)
        · rcases ih.2.2 x e2 with e3 | e3
          · exact .inr (by rw [e3]; exact List.mem_cons_self ..)
          · exact .inr (List.mem_cons_of_mem _ e3)
theorem merge_parts (irr : ∀ x, ¬ c x x < 0) (tr : ∀ x y z, c x y < 0 → c y z < 0 → c x z < 0) (tot : ∀ x y, ¬ c y x < 0 → x ≠ y → c x y < 0) {s l : List α} (hs : s.Pairwise (fun x y => ¬ c y x < 0)) (hl : l.Pairwise (fun x y => c x y < 0)) (hm : ∀ x, x ∈ s ↔ x ∈ l) : cpt s = l := by
  cases s with
  | nil =>
    cases l with
    | nil => rfl
    | cons x r => have := (hm x).2 (List.mem_cons_self ..); cases this
  | cons a r =>
    obtain ⟨h1, h2, h3⟩ := cptA_riseT tot r a hs
    refine rise_same irr tr (List.pairwise_cons.2 ⟨fun x hx => (h1 x hx).1, h2⟩) hl fun x => ?_
    rw [← hm x]
    constructor
    · intro hx
      rcases List.mem_cons.1 hx with e | e
      · rw [e]; exact List.mem_cons_self ..
      · exact List.mem_cons_of_mem _ (h1 x e).2
    · intro hx
      rcases List.mem_cons.1 hx with e | e
      · rw [e]; exact List.mem_cons_self ..
      · rcases h3 x e with e2 | e2
        · rw [e2]; exact List.mem_cons_self ..
        · exact List.mem_cons_of_mem _ e2
end
end Go.Proofs.YtilfcojhdhgmfaaGreatDoor

namespace Go.Proofs.YtilfcojhdhgmfaaGreatDoor
set_option linter.unusedVariables false
set_option linter.unusedSimpArgs false
open Abs

theorem acts_rise : ∀ (l : List Ac) (p : Option Ac), actsErr p l = 0 → l.Pairwise (fun x y => timeC x y < 0) ∧ ∀ y, p = some y → ∀ x ∈ l, timeC y x < 0
  | [], _, _ => ⟨List.Pairwise.nil, fun _ _ x hx => by cases hx⟩
  | a :: r, p, h => by
    rw [actsErr] at h
    by_cases h1 : actErr a ≠ 0
    · rw [if_pos h1] at h; exact absurd h h1
    · rw [if_neg h1] at h
      split at h
      · cases h
      · rename_i h2
        obtain ⟨i1, i2⟩ := acts_rise r (some a) h
        refine ⟨List.pairwise_cons.2 ⟨i2 a rfl, i1⟩, ?_⟩
        rintro y rfl x hx
        have hya : timeC y a < 0 := by
          have h3 : ¬ timeC a y ≤ 0 := by simpa [badPrev] using h2
          have := cmp_time.anti a y
          omega
        rcases List.mem_cons.1 hx with e | e
        · rw [e]; exact hya
        · exact cmp_time.swo.trans _ _ _ hya (i2 a rfl x e)
theorem mgV_parts {l p q : List Ac} (h : actsFault l = 0) (hm : ∀ x, x ∈ p ++ q ↔ x ∈ l) : mgV p q = l := by
  have hE : actsErr none l = 0 := by
    unfold actsFault at h
    split at h
    · cases h
    · exact h
  refine merge_parts (c := timeC) cmp_time.swo.irrefl cmp_time.swo.trans (fun x y h1 h2 => ?_) (insSort_srt cmp_time.swo (p ++ q)) (acts_rise l none hE).1 (fun x => ?_)
  · have a := cmp_time.anti x y
    by_cases h3 : timeC x y = 0
    · exact absurd (time_zero h3) h2
    · omega
  · rw [(insSort_perm timeC (p ++ q)).mem_iff, hm x]
end Go.Proofs.YtilfcojhdhgmfaaGreatDoor

namespace Go.Proofs.YtilfcojhdhgmfaaGreatDoor
set_option linter.unusedVariables false
set_option linter.unusedSimpArgs false
open Abs

def MoOk (m : Int) : Prop := m ≤ 10000 ∨ m = 1099511627776
theorem pickV_mem2 (L : List Int) (p : Int) (l : List Int) (h : 1 ≤ l.length) (hl : l.length ≤ 1000000) : pickV L p l ∈ l := by
  have := nextV_lt L p l.length (by omega)
  unfold pickV
  rw [List.getD_eq_getElem?_getD, List.getElem?_eq_getElem (show (nextV L p l.length).toNat < l.length by omega)]
  exact List.getElem_mem _
theorem mo_odd (L : List Int) (p : Int) : MoOk (oddV L p 0 50) := by
  unfold oddV MoOk
  split
  · have := pickV_mem2 L (p + 1) [0 - 1, 50 + 1, 0, 50, -1099511627776, 1099511627776] (by simp) (by simp)
    simp only [List.mem_cons, List.not_mem_nil, or_false] at this
    omega
  · have := rangeV_in L (p + 1) 0 50 (by omega)
    omega
theorem mo_push {l : List Ac} (h : ∀ x ∈ l, MoOk x.mo) {y : Ac} (hy : MoOk y.mo) : ∀ x ∈ l ++ [y], MoOk x.mo := by
  intro x hx
  rcases List.mem_append.1 hx with h1 | h1
  · exact h x h1
  · simp at h1; subst h1; exact hy
set_option maxRecDepth 100000 in
set_option maxHeartbeats 4000000 in
theorem actsM_pc {L : List Int} {p : Int} (hst : StOk L p) (hp : p ≤ 800000000) (n : Nat) (hn : n ≤ 14) :
    PCq 30 [.c (.ptr 0 0), .c (.int .i64 n)] [stO L p] fun r os => ∃ (l : List Ac) (p' : Int), r = .c (.lst 6 (l.map encAc)) ∧ os = [stO L p'] ∧ l.length ≤ n ∧ p ≤ p' ∧ p' ≤ p + 14 * n ∧ (∀ x ∈ l, x.drum ∈ names6) ∧ ∀ x ∈ l, MoOk x.mo := by
  have hS : ∀ x : Int, p ≤ x → x ≤ p + 14 * 14 → StOk L x := fun x h3 h4 => ⟨hst.1, by have := hst.2.1; omega, by omega⟩
  refine fn_soundX (mt := mts) tab_fits tab_mixed Tryz.func30 (by rfl) (by kernel_rfl) (by kernel_rfl) Tryz.results30 (Nat.le_of_ble_eq_true (by kernel_rfl)) ?_
  conv => whnf
  refine loop_count3 (n) [.sl 5 32 6] [0, 5, 6, 9, 10] (fun k (at0 : Int) (q : Int) (l : List Ac) => ⟨[(0, .c (.ptr 0 0)), (5, .c (.row 1)), (6, .c (.int .i64 at0)), (9, .c (.int .i64 n)), (10, .c (.int .i64 k))], [(0, stO L q), (1, .row 32 6 (l.map encAc))], 2⟩) (fun k (at0 : Int) (q : Int) (l : List Ac) => l.length = k ∧ p ≤ q ∧ q ≤ p + 14 * k ∧ (∀ x ∈ l, x.drum ∈ names6) ∧ (0 ≤ at0 ∧ at0 ≤ 5 * k) ∧ ∀ x ∈ l, MoOk x.mo) (0) (p) ([]) ?_ ?_ ?_
  · conv => whnf
    exact ⟨rfl, rfl, by omega, by omega, (by intro x hx; cases hx), by omega, (by intro x hx; cases hx)⟩
  · intro k at0 q l hk ⟨h1, h2, h3, h4, h6, h7⟩
    have hlm : (l.map encAc).length = k := by rw [List.length_map, h1]
    have hQ : ∀ x : Int, q ≤ x → x ≤ q + 14 → StOk L x := fun x h3 h4 => hS x (by omega) (by omega)
    have hpk : 0 ≤ pickV L q [0, 1, 1, 5] ∧ pickV L q [0, 1, 1, 5] ≤ 5 := by
      have := pickV_mem2 L q [0, 1, 1, 5] (by simp) (by simp)
      simp only [List.mem_cons, List.not_mem_nil, or_false] at this
      omega
    have hw : IntKind.i64.wrap (at0 + pickV L q [0, 1, 1, 5]) = at0 + pickV L q [0, 1, 1, 5] := wrap_in (by omega) (by omega)
    have hmo : MoOk (IntKind.i64.wrap (at0 + pickV L q [0, 1, 1, 5])) := by rw [hw]; exact .inl (by omega)
    have hat : 0 ≤ IntKind.i64.wrap (at0 + pickV L q [0, 1, 1, 5]) ∧ IntKind.i64.wrap (at0 + pickV L q [0, 1, 1, 5]) ≤ 5 * ((k + 1 : Nat) : Int) := by rw [hw]; omega
    conv => whnf
    repeat' (first | (refine .mk (fun h => ?_) (fun h => ?_) <;> (try simp only [decide_eq_true_eq, decide_eq_false_iff_not, Bool.not_eq_true', Bool.not_eq_false', beq_iff_eq, beq_eq_false_iff_ne] at h) <;> (first | (exfalso; first | omega | exact h trivial) | (conv => whnf))) | (refine .mk _ _ (by first | exact pick_ok (hQ _ (by omega) (by omega)) [0, 1, 1, 5] (by decide) (by decide) | exact pick_ok (hQ _ (by omega) (by omega)) [2, 2, 2, 3, 4, 1] (by decide) (by decide) | exact some_ok (hQ _ (by omega) (by omega)) [bDa, bDa, bDb, ⟨#[100, 99]⟩, ⟨#[100, 100]⟩] (by decide) (by decide) | exact some_ok (hQ _ (by omega) (by omega)) [⟨#[116]⟩, ⟨#[117]⟩] (by decide) (by decide) | exact pick_ok (hQ _ (by omega) (by omega)) [60, 100] (by decide) (by decide) | exact pick_ok (hQ _ (by omega) (by omega)) [10, 20, 40, 60] (by decide) (by decide) | exact some_ok (hQ _ (by omega) (by omega)) [bDa, bDb, ⟨#[122, 122]⟩] (by decide) (by decide) | exact pick_ok (hQ _ (by omega) (by omega)) [5, 10] (by decide) (by decide) | exact flip_ok (hQ _ (by omega) (by omega)) 80 (by omega) | exact next_ok (hQ _ (by omega) (by omega)) 3 (by omega) | exact odd_ok (hQ _ (by omega) (by omega)) (hQ _ (by omega) (by omega)) 0 50 (small_lit (by decide)) (small_lit (by decide)) (by decide) | exact odd_ok (hQ _ (by omega) (by omega)) (hQ _ (by omega) (by omega)) 1 4 (small_lit (by decide)) (small_lit (by decide)) (by decide) | exact odd_ok (hQ _ (by omega) (by omega)) (hQ _ (by omega) (by omega)) 1 50 (small_lit (by decide)) (small_lit (by decide)) (by decide) | exact some_ok (hQ _ (by omega) (by omega)) [⟨#[]⟩, ⟨#[65]⟩, _] (by simp) (by simp) | exact some_ok (hQ _ (by omega) (by omega)) [⟨#[]⟩, ⟨#[116]⟩] (by decide) (by decide) | exact some_ok (hQ _ (by omega) (by omega)) [⟨#[]⟩, bDa] (by decide) (by decide)) ?_; conv => whnf) | (refine .mk (by first | omega | (unfold roomOK; simp [cutRows]; done) | (unfold roomOK; simp [cutRows]; omega)) ?_; conv => whnf) | fail)
    all_goals exact count_next (_, _, l ++ [(⟨_, _, _, _, _, _⟩ : Ac)]) hk (by rw [wrap_succ hk (by omega)]; simp only [List.map_append]; rfl) ⟨by simp [h1], by simp only; omega, by simp only; omega, names_push h4 (by first | exact names_a L _ | exact names_b L _ (names_a L _)), hat, mo_push h7 (by first | exact hmo | exact mo_odd L _)⟩
  · intro at0 q l ⟨h1, h2, h3, h4, h6, h7⟩
    have h5 : ∀ x ∈ cpt (insSort ordC l), x.drum ∈ names6 := fun x hx => h4 x ((insSort_perm ordC l).mem_iff.1 (mem_cpt hx))
    have h8 : ∀ x ∈ cpt (insSort ordC l), MoOk x.mo := fun x hx => h7 x ((insSort_perm ordC l).mem_iff.1 (mem_cpt hx))
    have hlm : (l.map encAc).length = n := by rw [List.length_map, h1]
    conv => whnf
    repeat' (first | (refine .mk (fun h => ?_) (fun h => ?_) <;> (try simp only [decide_eq_true_eq, decide_eq_false_iff_not, Bool.not_eq_true', Bool.not_eq_false', beq_iff_eq, beq_eq_false_iff_ne] at h) <;> (first | (exfalso; first | omega | exact h trivial) | (conv => whnf))) | (refine .mk _ _ (by exact stAct_pc _ ordC actOrder_pc l (by omega)) ?_; conv => whnf) | fail)
    have hle := cpt_len (insSort ordC l)
    rw [insSort_len] at hle
    obtain ⟨ob, ⟨rows, rfl⟩ | rfl, hc⟩ := cptAc_pc (insSort ordC l) (by rw [insSort_len]; omega)
    · refine .mk _ _ hc ?_
      conv => whnf
      exact .mk _ _ ⟨_, _, rfl, rfl, by omega, h2, by omega, h5, h8⟩ (.mk ⟨rfl, rfl⟩)
    · refine .mk _ _ hc ?_
      conv => whnf
      exact .mk _ _ ⟨_, _, rfl, rfl, by omega, h2, by omega, h5, h8⟩ (.mk ⟨rfl, rfl⟩)
set_option maxRecDepth 100000 in
set_option maxHeartbeats 4000000 in
theorem rRightM_pc {L : List Int} {p : Int} (hst : StOk L p) (hp : p ≤ 700000000) (n : Nat) (hn : n ≤ 14) :
    PCq 5 [.c (.ptr 0 0), .c (.int .i64 n)] [stO L p] fun r os => ∃ (l : List Ac) (p' : Int), r = .c (.lst 6 (l.map encAc)) ∧ os = [stO L p'] ∧ actsFault l = 0 ∧ l.length ≤ n ∧ (∀ x ∈ l, x.drum ∈ names6) ∧ (∀ x ∈ l, MoOk x.mo) ∧ p ≤ p' ∧ p' ≤ p + 2000 := by
  have hS : ∀ x : Int, p ≤ x → x ≤ p + 3000 → StOk L x := fun x h3 h4 => ⟨hst.1, by have := hst.2.1; omega, by omega⟩
  refine fn_soundX (mt := mts) tab_fits tab_mixed Tryz.func5 (by rfl) (by kernel_rfl) (by kernel_rfl) Tryz.results5 (Nat.le_of_ble_eq_true (by kernel_rfl)) ?_
  conv => whnf
  refine loop_for (8) [] [0, 1, 6] (fun k (q : Int) => [(6, .c (.int .i64 (k : Int)))]) (fun k (q : Int) => [(0, stO L q)]) (fun k (q : Int) => p ≤ q ∧ q ≤ p + 200 * k) (p) ?_
  conv => whnf
  refine ⟨(by first | rfl | (simp; done) | (simp; rfl)), ?_, ?_, ?_⟩
  · exact ⟨by omega, by omega⟩
  · intro k q hk ⟨h1, h2⟩
    conv => whnf
    repeat' (first | (refine .mk (fun h => ?_) (fun h => ?_) <;> (try simp only [decide_eq_true_eq, decide_eq_false_iff_not, Bool.not_eq_true', Bool.not_eq_false', beq_iff_eq, beq_eq_false_iff_ne, bne_iff_ne, bne_eq_false_iff_eq] at h) <;> (first | (exfalso; first | omega | exact h trivial) | (conv => whnf))) | fail)
    refine .ex _ (actsM_pc (hS q (by omega) (by omega)) (by omega) n hn) ?_
    rintro _ _ ⟨l, p', rfl, rfl, g1, g2, g3, g4, g5⟩
    conv => whnf
    repeat' (first | (refine .mk (fun h => ?_) (fun h => ?_) <;> (try simp only [decide_eq_true_eq, decide_eq_false_iff_not, Bool.not_eq_true', Bool.not_eq_false', beq_iff_eq, beq_eq_false_iff_ne, bne_iff_ne, bne_eq_false_iff_eq] at h) <;> (first | (exfalso; first | omega | exact h trivial) | (conv => whnf))) | (refine .mk _ _ (by exact rActs_pc l) ?_; conv => whnf) | fail)
    · exact .mk _ _ ⟨l, p', rfl, rfl, by assumption, g1, g4, g5, by omega, by omega⟩ (.mk ⟨rfl, rfl⟩)
    · exact count_next p' hk (by rw [wrap_succ hk (by omega)]; rfl) ⟨by omega, by omega⟩
  · intro q ⟨h1, h2⟩
    conv => whnf
    repeat' (first | (refine .mk (fun h => ?_) (fun h => ?_) <;> (try simp only [decide_eq_true_eq, decide_eq_false_iff_not, Bool.not_eq_true', Bool.not_eq_false', beq_iff_eq, beq_eq_false_iff_ne, bne_iff_ne, bne_eq_false_iff_eq] at h) <;> (first | (exfalso; first | omega | exact h trivial) | (conv => whnf))) | fail)
    refine .mk _ _ ⟨[], q, rfl, rfl, by decide, by simp, by simp, by simp, by omega, by omega⟩ (.weak [] (.nil 6) rfl (Nat.le_refl _))
end Go.Proofs.YtilfcojhdhgmfaaGreatDoor

namespace Go.Proofs.YtilfcojhdhgmfaaGreatDoor
set_option linter.unusedVariables false
set_option linter.unusedSimpArgs false
open Abs

set_option maxRecDepth 100000 in
set_option maxHeartbeats 4000000 in
theorem parts_pc {L : List Int} {p : Int} (hst : StOk L p) (hp : p ≤ 800000000) (l : List Ac) (hl : l.length ≤ 14) :
    PCq 7 [.c (.ptr 0 0), .c (.lst 6 (l.map encAc))] [stO L p] fun r os => ∃ (a b : List Ac) (p' : Int), r = .tup [.c (.lst 6 (a.map encAc)), .c (.lst 6 (b.map encAc))] ∧ os = [stO L p'] ∧ a.Sublist l ∧ b.Sublist l ∧ (∀ x, x ∈ a ++ b ↔ x ∈ l) := by
  have hS : ∀ x : Int, p ≤ x → x ≤ p + 100 → StOk L x := fun x h3 h4 => ⟨hst.1, by have := hst.2.1; omega, by omega⟩
  have hlm : (l.map encAc).length = l.length := List.length_map ..
  refine fn_soundX (mt := mts) tab_fits tab_mixed Tryz.func7 (by rfl) (by kernel_rfl) (by kernel_rfl) Tryz.results7 (Nat.le_of_ble_eq_true (by kernel_rfl)) ?_
  conv => whnf
  refine loop_for3 (l.length) [.sl 6 32 6, .sl 7 32 6] [0, 6, 7, 10, 11, 12] (fun k (q : Int) (a : List Ac) (b : List Ac) => [(12, .c (.int .i64 (k : Int)))]) (fun k (q : Int) (a : List Ac) (b : List Ac) => [(0, stO L q), (1, .row 32 6 (a.map encAc)), (2, .row 32 6 (b.map encAc))]) (fun k (q : Int) (a : List Ac) (b : List Ac) => a.Sublist (l.take k) ∧ b.Sublist (l.take k) ∧ (∀ x, x ∈ a ++ b ↔ x ∈ l.take k) ∧ q = p + k) (p) ([]) ([]) ?_
  conv => whnf
  refine ⟨(by first | rfl | (simp; done) | (simp; rfl)), ?_, ?_, ?_⟩
  · exact ⟨by simp, by simp, by simp, by omega⟩
  · intro k q a b hk ⟨h1, h2, h3, h4⟩
    have hQ : ∀ x : Int, q ≤ x → x ≤ q + 14 → StOk L x := fun x h3 h4 => hS x (by omega) (by omega)
    have ht : l.take (k + 1) = l.take k ++ [l[k]] := List.take_succ_eq_append_getElem hk
    have hla := h1.length_le
    have hlb := h2.length_le
    rw [List.length_take] at hla hlb
    have ham : (a.map encAc).length = a.length := List.length_map ..
    have hbm : (b.map encAc).length = b.length := List.length_map ..
    have s1 : (a ++ [l[k]]).Sublist (l.take (k + 1)) := by rw [ht]; exact h1.append (List.Sublist.refl _)
    have s2 : (b ++ [l[k]]).Sublist (l.take (k + 1)) := by rw [ht]; exact h2.append (List.Sublist.refl _)
    have s3 : a.Sublist (l.take (k + 1)) := by rw [ht]; exact h1.trans (List.sublist_append_left _ _)
    have s4 : b.Sublist (l.take (k + 1)) := by rw [ht]; exact h2.trans (List.sublist_append_left _ _)
    have m1 : ∀ x, x ∈ (a ++ [l[k]]) ++ b ↔ x ∈ l.take (k + 1) := fun x => by
      have := h3 x
      rw [ht]
      simp only [List.mem_append, List.mem_singleton] at this ⊢
      rw [← this]
      constructor <;> rintro h <;> (rcases h with (h | h) | h) <;> simp [h]
    have m2 : ∀ x, x ∈ a ++ (b ++ [l[k]]) ↔ x ∈ l.take (k + 1) := fun x => by
      have := h3 x
      rw [ht]
      simp only [List.mem_append, List.mem_singleton] at this ⊢
      rw [← this, or_assoc]
    have m3 : ∀ x, x ∈ (a ++ [l[k]]) ++ (b ++ [l[k]]) ↔ x ∈ l.take (k + 1) := fun x => by
      have := m1 x
      rw [← this]
      simp only [List.mem_append, List.mem_singleton]
      constructor
      · rintro ((h | h) | (h | h)) <;> simp [h]
      · rintro ((h | h) | h) <;> simp [h]
    clear ht h3
    conv => whnf
    repeat' (first | (refine .mk (fun h => ?_) (fun h => ?_) <;> (try simp only [decide_eq_true_eq, decide_eq_false_iff_not, Bool.not_eq_true', Bool.not_eq_false', beq_iff_eq, beq_eq_false_iff_ne, bne_iff_ne, bne_eq_false_iff_eq] at h) <;> (first | (exfalso; first | omega | exact h trivial) | (conv => whnf))) | (refine .mk _ _ (by exact next_ok (hQ _ (by omega) (by omega)) 3 (by omega)) ?_; conv => whnf) | (refine .mk (by first | omega | (unfold roomOK; simp [cutRows]; done) | (unfold roomOK; simp [cutRows]; omega) | (simp [cutRows]; done) | (simp [cutRows]; omega)) ?_; conv => whnf) | (refine idx_at _ (by with_reducible rfl) (by first | assumption | omega) ?_; conv => whnf) | fail)
    · exact count_next (q + 1, a ++ [l[k]], b) hk (by rw [wrap_succ hk (by omega), List.map_append]; rfl) ⟨s1, s4, m1, by simp only; omega⟩
    · exact count_next (q + 1, a, b ++ [l[k]]) hk (by rw [wrap_succ hk (by omega), List.map_append]; rfl) ⟨s3, s2, m2, by simp only; omega⟩
    · exact count_next (q + 1, a ++ [l[k]], b ++ [l[k]]) hk (by rw [wrap_succ hk (by omega), List.map_append, List.map_append]; rfl) ⟨s1, s2, m3, by simp only; omega⟩
  · intro q a b ⟨h1, h2, h3, h4⟩
    rw [List.take_length] at h1 h2 h3
    conv => whnf
    repeat' (first | (refine .mk (fun h => ?_) (fun h => ?_) <;> (try simp only [decide_eq_true_eq, decide_eq_false_iff_not, Bool.not_eq_true', Bool.not_eq_false', beq_iff_eq, beq_eq_false_iff_ne, bne_iff_ne, bne_eq_false_iff_eq] at h) <;> (first | (exfalso; first | omega | exact h trivial) | (conv => whnf))) | fail)
    refine .mk _ _ ⟨a, b, q, rfl, rfl, h1, h2, h3⟩ (.frz 1 _ _ _ rfl (.frz 2 _ _ _ rfl (.weak [_, _] (.tup _ _ rfl ?_) rfl (Nat.le_refl _))))
    intro i x y ha hb
    match i with
    | 0 => cases ha; cases hb; exact .fro 1 _ _ rfl
    | 1 => cases ha; cases hb; exact .fro 2 _ _ rfl
end Go.Proofs.YtilfcojhdhgmfaaGreatDoor

namespace Go.Proofs.YtilfcojhdhgmfaaGreatDoor
set_option linter.unusedVariables false
set_option linter.unusedSimpArgs false
open Abs

def fst1 (kind : ByteArray) : List DE → ByteArray → Int
  | [], _ => 0
  | e :: r, x => if e.2.1 = x then (if e.2.2.1 = kind then e.2.2.2 else 0) else fst1 kind r x
theorem sumK_eput (kind : ByteArray) (c : Nat) (x t : ByteArray) (n : Int) : ∀ es : List DE, sumK kind (eput c es x (t, n)) = sumK kind es - fst1 kind es x + (if t = kind then n else 0)
  | [] => by simp [eput, sumK, fst1]
  | e :: r => by
    unfold eput fst1
    by_cases hx : e.2.1 = x
    · rw [if_pos hx, if_pos hx]; simp only [sumK]; omega
    · rw [if_neg hx, if_neg hx]; simp only [sumK, sumK_eput kind c x t n r]; omega
theorem sumK_edel (kind : ByteArray) (x : ByteArray) : ∀ es : List DE, sumK kind (edel es x) = sumK kind es - fst1 kind es x
  | [] => by simp [edel, sumK, fst1]
  | e :: r => by
    unfold edel fst1
    by_cases hx : e.2.1 = x
    · rw [if_pos hx, if_pos hx]; simp only [sumK]; omega
    · rw [if_neg hx, if_neg hx]; simp only [sumK, sumK_edel kind x r]; omega
theorem fst1_get (kind : ByteArray) (s : SM ByteArray (ByteArray × Int)) (x : ByteArray) : fst1 kind s.es x = match s.get x with | some v => if v.1 = kind then v.2 else 0 | none => 0 := by
  unfold SM.get SM.m
  induction s.es with
  | nil => rfl
  | cons e r ih =>
    unfold fst1
    by_cases hx : e.2.1 = x
    · rw [if_pos hx]; simp [mget, hx]
    · rw [if_neg hx, ih]; simp [mget, hx]
theorem tot_step {s : Sto} {r : Rto} (h : Rel s r) {x : Ac} (hx : actErr x = 0) {kind : ByteArray} (h0 : (takeS s x).2.2 = 0) (hk : (takeS s x).2.1 = kind) :
    (x.kd = 1 → x.ty = kind ∧ sumK kind (takeS s x).1.d.es = sumK kind s.d.es + x.long) ∧ (x.kd = 3 → sumK kind (takeS s x).1.d.es = sumK kind s.d.es + x.long) ∧
    (x.kd = 2 → sumK kind (takeS s x).1.d.es = sumK kind s.d.es - x.long) ∧ (x.kd = 4 → sumK kind (takeS s x).1.d.es ≤ sumK kind s.d.es) := by
  have a := actErr_in hx
  have hd := h.d x.drum
  have hn := h.n x.drum
  have hh := h.h x.drum
  have hkk := h.k x.drum
  have hf := fst1_get kind s.d x.drum
  have hnew : (s.k.get x.drum).isSome = false → fst1 kind s.d.es x.drum = 0 := by
    intro h1
    rw [hf, hd]
    unfold seen
    split
    · rename_i v h2
      split at h2
      · rename_i h3
        have := hh h3
        rw [← hkk, h1] at this; cases this
      · cases h2
    · rfl
  revert h0 hk
  unfold takeS
  split
  · rename_i hkd
    split
    · intro h0 _; simp at h0
    · rename_i h1
      have h1 : (s.k.get x.drum).isSome = false := by simpa using h1
      have h2 := hnew h1
      split
      · rename_i h3
        intro _ hk
        have hk : x.ty = kind := hk
        have := sumK_eput kind s.d.clock x.drum x.ty x.long s.d.es
        rw [h2, if_pos hk] at this
        refine ⟨fun _ => ⟨hk, ?_⟩, fun e => by omega, fun e => by omega, fun e => by omega⟩
        show sumK kind (eput s.d.clock s.d.es x.drum (x.ty, x.long)) = _
        omega
      · rename_i h3
        split
        · intro _ hk
          have hk : (s.k.get x.of).getD bE = kind := hk
          have := sumK_eput kind s.d.clock x.drum ((s.k.get x.of).getD bE) x.long s.d.es
          rw [h2, if_pos hk] at this
          refine ⟨fun e => by omega, fun _ => ?_, fun e => by omega, fun e => by omega⟩
          show sumK kind (eput s.d.clock s.d.es x.drum ((s.k.get x.of).getD bE, x.long)) = _
          omega
        · intro h0 _; simp at h0
  · rename_i hkd
    split
    · rename_i hin
      obtain ⟨v, hv⟩ := Option.isSome_iff_exists.1 hin
      have hv2 : 0 < v.2 ∧ v.2 ≤ 200000 := by
        rw [hv] at hd
        unfold seen at hd
        split at hd
        · injection hd with e; rw [e]; exact ⟨by assumption, hn.2⟩
        · cases hd
      rw [hv] at hf ⊢
      simp only [Option.getD_some] at hf ⊢
      have hw : IntKind.i64.wrap (v.2 - x.long) = v.2 - x.long := wrap_in (by omega) (by omega)
      rw [hw]
      split
      · intro h0 _; simp at h0
      · rename_i hcut
        split
        · rename_i hdel
          intro _ hk
          have hk : v.1 = kind := hk
          rw [if_pos hk] at hf
          have := sumK_edel kind x.drum s.d.es
          rw [hf] at this
          refine ⟨fun e => by omega, fun e => by omega, fun e => ?_, fun e => ?_⟩
          · show sumK kind (edel s.d.es x.drum) = _
            omega
          · show sumK kind (edel s.d.es x.drum) ≤ _
            omega
        · rename_i hdel
          intro _ hk
          have hk : v.1 = kind := hk
          rw [if_pos hk] at hf
          have := sumK_eput kind s.d.clock x.drum v.1 (v.2 - x.long) s.d.es
          rw [hf, if_pos hk] at this
          refine ⟨fun e => by omega, fun e => by omega, fun e => ?_, fun e => by omega⟩
          show sumK kind (eput s.d.clock s.d.es x.drum (v.1, v.2 - x.long)) = _
          omega
    · intro h0 _; simp at h0
abbrev tkA (l : List Ac) (k : Nat) : Sto × ByteArray × Int := takeS (stoAt l k) (l.getD k acD)
def arrAt (l : List Ac) (kind : ByteArray) : Nat → Int
  | 0 => 0
  | k + 1 => arrAt l kind k + (if (tkA l k).2.2 = 0 ∧ (l.getD k acD).kd = 1 ∧ (l.getD k acD).ty = kind then (l.getD k acD).long else 0)
def scrAt (l : List Ac) : Nat → Bool
  | 0 => false
  | k + 1 => scrAt l k || (decide ((tkA l k).2.2 = 0) && decide ((l.getD k acD).kd = 4))
theorem take_arr (s : Sto) (x : Ac) (h : x.kd = 1) (h0 : (takeS s x).2.2 = 0) : (takeS s x).2.1 = x.ty := by
  revert h0
  unfold takeS
  rw [if_pos (Or.inl h)]
  split
  · intro h0; simp at h0
  · intro _; rfl
theorem stores_add {l : List Ac} (hf : actsFault l = 0) (hE : ∀ x ∈ l, actErr x = 0) (hl : l.length ≤ 2000) (kind : ByteArray) : ∀ k, k ≤ l.length →
    totT l kind k + usedAt l kind (0, 345686400000) k ≤ arrAt l kind k ∧ (scrAt l k = false → totT l kind k + usedAt l kind (0, 345686400000) k = arrAt l kind k) ∧
    -(200000 * (k : Int)) ≤ usedAt l kind (0, 345686400000) k ∧ usedAt l kind (0, 345686400000) k ≤ 200000 * k
  | 0, _ => by
    have h1 : totT l kind 0 = 0 := rfl
    have h2 : usedAt l kind (0, 345686400000) 0 = 0 := rfl
    have h3 : arrAt l kind 0 = 0 := rfl
    rw [h1, h2, h3]
    exact ⟨by omega, fun _ => by omega, by omega, by omega⟩
  | k + 1, hk => by
    obtain ⟨i1, i2, i3, i4⟩ := stores_add hf hE hl kind k (by omega)
    have hx : actErr (l.getD k acD) = 0 := by
      have hg : l.getD k acD = l[k] := by simp [show k < l.length by omega]
      rw [hg]; exact hE _ (List.getElem_mem _)
    have a := actErr_in hx
    have hr := rel_at hf k (by omega)
    have eT : totT l kind (k + 1) = sumK kind (takeS (stoAt l k) (l.getD k acD)).1.d.es := rfl
    have eU : usedAt l kind (0, 345686400000) (k + 1) = usedStep kind (0, 345686400000) (l.getD k acD) (takeS (stoAt l k) (l.getD k acD)).2.1 (takeS (stoAt l k) (l.getD k acD)).2.2 (usedAt l kind (0, 345686400000) k) := rfl
    have eA : arrAt l kind (k + 1) = arrAt l kind k + (if (takeS (stoAt l k) (l.getD k acD)).2.2 = 0 ∧ (l.getD k acD).kd = 1 ∧ (l.getD k acD).ty = kind then (l.getD k acD).long else 0) := rfl
    have eS : scrAt l (k + 1) = (scrAt l k || (decide ((takeS (stoAt l k) (l.getD k acD)).2.2 = 0) && decide ((l.getD k acD).kd = 4))) := rfl
    have hin : inW (0, 345686400000) (l.getD k acD).mo = true := by unfold inW; exact decide_eq_true (by simp only; omega)
    rw [eT, eU, eA, eS]
    have hTk : totT l kind k = sumK kind (stoAt l k).d.es := rfl
    rw [hTk] at i1 i2
    generalize usedAt l kind (0, 345686400000) k = u at *
    generalize l.getD k acD = x at *
    by_cases hc : (takeS (stoAt l k) x).2.2 = 0 ∧ (takeS (stoAt l k) x).2.1 = kind
    · obtain ⟨h0, h1⟩ := hc
      obtain ⟨t1, t3, t2, t4⟩ := tot_step hr hx h0 h1
      have hU : usedStep kind (0, 345686400000) x (takeS (stoAt l k) x).2.1 (takeS (stoAt l k) x).2.2 u = if x.kd = 2 then u + x.long else if x.kd = 3 then u - x.long else u := by
        unfold usedStep
        rw [if_neg (by rintro (e | e | e); exact e h0; exact e h1; rw [hin] at e; cases e), wrap_in (by omega) (by omega), wrap_in (by omega) (by omega)]
      rw [hU]
      have hkd : x.kd = 1 ∨ x.kd = 2 ∨ x.kd = 3 ∨ x.kd = 4 := by omega
      rcases hkd with e | e | e | e
      · obtain ⟨t5, t6⟩ := t1 e
        rw [if_neg (by omega), if_neg (by omega), if_pos ⟨h0, e, t5⟩, t6]
        refine ⟨by omega, fun hs => ?_, by omega, by omega⟩
        have := i2 (by rw [Bool.or_eq_false_iff] at hs; exact hs.1)
        omega
      · have t6 := t2 e
        rw [if_pos e, if_neg (by omega), t6]
        refine ⟨by omega, fun hs => ?_, by omega, by omega⟩
        have := i2 (by rw [Bool.or_eq_false_iff] at hs; exact hs.1)
        omega
      · have t6 := t3 e
        rw [if_neg (by omega), if_pos e, if_neg (by omega), t6]
        refine ⟨by omega, fun hs => ?_, by omega, by omega⟩
        have := i2 (by rw [Bool.or_eq_false_iff] at hs; exact hs.1)
        omega
      · have t6 := t4 e
        rw [if_neg (by omega), if_neg (by omega), if_neg (by omega)]
        refine ⟨by omega, fun hs => ?_, by omega, by omega⟩
        rw [Bool.or_eq_false_iff, h0, e] at hs
        exact absurd hs.2 (by decide)
    · have hU : usedStep kind (0, 345686400000) x (takeS (stoAt l k) x).2.1 (takeS (stoAt l k) x).2.2 u = u := by
        unfold usedStep
        rw [if_pos]
        by_cases e : (takeS (stoAt l k) x).2.2 = 0
        · exact .inr (.inl fun e2 => hc ⟨e, e2⟩)
        · exact .inl e
      rw [hU, tot_other (stoAt_ok l k) hr kind x hc, if_neg (fun e => hc ⟨e.1, by rw [take_arr _ _ e.2.1 e.1]; exact e.2.2⟩)]
      refine ⟨by omega, fun hs => ?_, by omega, by omega⟩
      have := i2 (by rw [Bool.or_eq_false_iff] at hs; exact hs.1)
      omega
end Go.Proofs.YtilfcojhdhgmfaaGreatDoor

namespace Go.Proofs.YtilfcojhdhgmfaaGreatDoor
set_option linter.unusedVariables false
set_option linter.unusedSimpArgs false
open Abs

set_option maxRecDepth 100000 in
set_option maxHeartbeats 4000000 in
theorem at1N_pc (s : Sto) (a b : Int) (of : ByteArray) : PCp 108 [.c (.ptr 0 0), .c (.int .i64 a), .c (.str of), .c (.int .i64 b)] [stBox, stoD s, stoK s] (.tup []) [stBox, stoD s, stoK s] := by
  refine fn_sound (mt := mts) tab_fits tab_mixed Tryz.func108 (by rfl) (by kernel_rfl) (by kernel_rfl) Tryz.results108 (Nat.le_of_ble_eq_true (by kernel_rfl)) ?_
  conv => whnf
  exact .mk ⟨rfl, rfl⟩
set_option maxRecDepth 100000 in
set_option maxHeartbeats 4000000 in
theorem followA_pc (l : List Ac) (hl : l.length ≤ 100000) :
    PCp 47 [.c (.lst 6 (l.map encAc)), .c (.fn 108 [])] [] (.c (.ptr 0 0)) [stBox, stoD (stoAt l l.length), stoK (stoAt l l.length)] := by
  have hlm : (l.map encAc).length = l.length := List.length_map ..
  refine fn_sound (mt := mts) tab_fits tab_mixed Tryz.func47 (by rfl) (by kernel_rfl) (by kernel_rfl) Tryz.results47 (Nat.le_of_ble_eq_true (by kernel_rfl)) ?_
  conv => whnf
  refine loop_count (l.length) [] [1, 5, 14, 15, 16] (fun k (_ : Unit) => ⟨[(1, .c (.fn 108 [])), (5, .c (.ptr 0 0)), (14, .c (.lst 6 (l.map encAc))), (15, .c (.int .i64 (l.map encAc).length)), (16, .c (.int .i64 k))], [(0, .box [.mp 1, .mp 2]), (1, stoD (stoAt l k)), (2, stoK (stoAt l k))], 3⟩) (fun k (_ : Unit) => True) (()) ?_ ?_ ?_
  · conv => whnf
    exact ⟨rfl, trivial⟩
  · intro k _ hk _
    have hg : l.getD k ⟨0, 0, bE, bE, bE, 0⟩ = l[k] := by simp [hk]
    conv => whnf
    repeat' (first | (refine .mk (fun h => ?_) (fun h => ?_) <;> (try simp only [decide_eq_true_eq, decide_eq_false_iff_not, Bool.not_eq_true', Bool.not_eq_false', beq_iff_eq, beq_eq_false_iff_ne, bne_iff_ne, bne_eq_false_iff_eq] at h) <;> (first | (exfalso; first | omega | exact h trivial) | (conv => whnf))) | (refine .mk _ _ (by first | exact take_pc (stoAt l k) (stoAt_ok l k) l[k] | exact at1N_pc _ _ _ _) ?_; conv => whnf) | (refine idx_at _ (by with_reducible rfl) (by first | assumption | omega) ?_; conv => whnf) | fail)
    refine count_next () hk (by rw [wrap_succ hk (by omega)]; simp only [stoAt, hg]; rfl) trivial
  · intro _ _
    conv => whnf
    repeat' (first | (refine .mk (fun h => ?_) (fun h => ?_) <;> (try simp only [decide_eq_true_eq, decide_eq_false_iff_not, Bool.not_eq_true', Bool.not_eq_false', beq_iff_eq, beq_eq_false_iff_ne] at h) <;> (first | (exfalso; first | omega | exact h trivial) | (conv => whnf))) | fail)
    exact .mk ⟨rfl, rfl⟩
def atE (l : List Ac) (t : Int) : Int := if actsFault l ≠ 0 then actsFault l else if momB t = true then 0 else 1
theorem stoAt_take (l : List Ac) (n : Nat) (hn : n ≤ l.length) : ∀ k, k ≤ n → stoAt (l.take n) k = stoAt l k
  | 0, _ => rfl
  | k + 1, h => by
    unfold stoAt
    rw [stoAt_take l n hn k (by omega)]
    have e : (l.take n).getD k ⟨0, 0, bE, bE, bE, 0⟩ = l.getD k ⟨0, 0, bE, bE, bE, 0⟩ := by
      simp only [List.getD_eq_getElem?_getD, List.getElem?_take, if_pos (show k < n by omega)]
    rw [e]
set_option maxRecDepth 100000 in
set_option maxHeartbeats 4000000 in
theorem at_ok (l : List Ac) (t : Int) (h : atE l t = 0) : PCp 50 [.c (.lst 6 (l.map encAc)), .c (.int .i64 t)] [] (.tup [.c (.ptr 0 0), .c (.int .i64 0)]) [stBox, stoD (stoAt l (cntAt l t)), stoK (stoAt l (cntAt l t))] := by
  have hf : actsFault l = 0 := by
    unfold atE at h
    split at h
    · exact h
    · rename_i h1; omega
  have hm : momB t = true := by
    unfold atE at h
    rw [if_neg (by omega)] at h
    split at h
    · assumption
    · cases h
  have hl := (actsFault_all hf).1
  have hlm : (l.map encAc).length = l.length := List.length_map ..
  have c1 := bMoment_pc t
  rw [hm] at c1
  have c2 := checkActs_pc l
  rw [hf] at c2
  have c3 := followA_pc (l.take (cntAt l t)) (by simp; omega)
  have hcl := cntAt_le l t
  rw [show (l.take (cntAt l t)).length = cntAt l t by simp; omega, stoAt_take l _ hcl _ (Nat.le_refl _), List.map_take] at c3
  refine fn_sound (mt := mts) tab_fits tab_mixed Tryz.func50 (by rfl) (by kernel_rfl) (by kernel_rfl) Tryz.results50 (Nat.le_of_ble_eq_true (by kernel_rfl)) ?_
  conv => whnf
  repeat' (first | (refine .mk (fun h => ?_) (fun h => ?_) <;> (try simp only [decide_eq_true_eq, decide_eq_false_iff_not, Bool.not_eq_true', Bool.not_eq_false', beq_iff_eq, beq_eq_false_iff_ne, bne_iff_ne, bne_eq_false_iff_eq] at h) <;> (first | (exfalso; first | omega | exact h trivial | contradiction | (simp_all [eqRes]; done)) | (conv => whnf))) | (refine .mk _ _ (by first | exact c2 | exact c1) ?_; conv => whnf) | fail)
  refine loop_while (fun (n : Nat) => n) [] [0, 1, 7] (fun (n : Nat) => [(7, .c (.int .i64 (n : Int)))]) (fun (n : Nat) => []) (fun (n : Nat) => n ≤ l.length ∧ cntAt l t ≤ n) (l.length) ?_
  conv => whnf
  refine ⟨(by first | rfl | (simp; done) | (simp; rfl)), ?_, ?_⟩
  · exact ⟨Nat.le_refl _, hcl⟩
  · intro n ⟨h1, h2⟩
    have hmem : ∀ k (hk : k < l.length), l[k].mo ≤ t ↔ k < cntAt l t := fun k hk => by
      have := cnt_iff hf hk t
      rwa [moN_at hk] at this
    cases n with
    | zero =>
      have e0 : cntAt l t = 0 := by omega
      rw [e0] at c3 ⊢
      conv => whnf
      repeat' (first | (refine .mk (fun h => ?_) (fun h => ?_) <;> (try simp only [decide_eq_true_eq, decide_eq_false_iff_not, Bool.not_eq_true', Bool.not_eq_false', beq_iff_eq, beq_eq_false_iff_ne, bne_iff_ne, bne_eq_false_iff_eq] at h) <;> (first | (exfalso; first | omega | exact h trivial | contradiction | (simp_all [eqRes]; done)) | (conv => whnf))) | (refine .mk _ _ (by exact c3) ?_; conv => whnf) | (refine .mk (by first | omega | (unfold roomOK; simp [cutRows]; done) | (unfold roomOK; simp [cutRows]; omega) | (simp [cutRows]; done) | (simp [cutRows]; omega)) ?_; conv => whnf) | fail)
      exact .mk ⟨rfl, rfl⟩
    | succ m =>
      have hk : m < l.length := by omega
      have hw : IntKind.i64.wrap (((m + 1 : Nat) : Int) - 1) = ((m : Nat) : Int) := by rw [wrap_in (by omega) (by omega)]; omega
      have h6 := hmem m hk
      by_cases h7 : m < cntAt l t
      · have h8 := h6.2 h7
        have e0 : cntAt l t = m + 1 := by omega
        rw [e0] at c3 ⊢
        conv => whnf
        repeat' (first | (refine .mk (fun h => ?_) (fun h => ?_) <;> (try simp only [decide_eq_true_eq, decide_eq_false_iff_not, Bool.not_eq_true', Bool.not_eq_false', beq_iff_eq, beq_eq_false_iff_ne, bne_iff_ne, bne_eq_false_iff_eq] at h) <;> (first | (exfalso; first | omega | exact h trivial | contradiction | (simp_all [eqRes]; done)) | (conv => whnf))) | fail)
        rw [hw]
        repeat' (first | (refine .mk (fun h => ?_) (fun h => ?_) <;> (try simp only [decide_eq_true_eq, decide_eq_false_iff_not, Bool.not_eq_true', Bool.not_eq_false', beq_iff_eq, beq_eq_false_iff_ne, bne_iff_ne, bne_eq_false_iff_eq] at h) <;> (first | (exfalso; first | omega | exact h trivial | contradiction | (simp_all [eqRes]; done)) | (conv => whnf))) | (refine .mk _ _ (by exact c3) ?_; conv => whnf) | (refine .mk (by first | omega | (unfold roomOK; simp [cutRows]; done) | (unfold roomOK; simp [cutRows]; omega) | (simp [cutRows]; done) | (simp [cutRows]; omega)) ?_; conv => whnf) | (refine idx_at _ (by with_reducible rfl) (by first | assumption | omega) ?_; conv => whnf) | fail)
        exact .mk ⟨rfl, rfl⟩
      · have h8 : t < l[m].mo := by
          rcases Int.lt_or_le t l[m].mo with h9 | h9
          · exact h9
          · exact (h7 (h6.1 h9)).elim
        conv => whnf
        repeat' (first | (refine .mk (fun h => ?_) (fun h => ?_) <;> (try simp only [decide_eq_true_eq, decide_eq_false_iff_not, Bool.not_eq_true', Bool.not_eq_false', beq_iff_eq, beq_eq_false_iff_ne, bne_iff_ne, bne_eq_false_iff_eq] at h) <;> (first | (exfalso; first | omega | exact h trivial | contradiction | (simp_all [eqRes]; done)) | (conv => whnf))) | fail)
        rw [hw]
        repeat' (first | (refine .mk (fun h => ?_) (fun h => ?_) <;> (try simp only [decide_eq_true_eq, decide_eq_false_iff_not, Bool.not_eq_true', Bool.not_eq_false', beq_iff_eq, beq_eq_false_iff_ne, bne_iff_ne, bne_eq_false_iff_eq] at h) <;> (first | (exfalso; first | omega | exact h trivial | contradiction | (simp_all [eqRes]; done)) | (conv => whnf))) | (refine idx_at _ (by with_reducible rfl) (by first | assumption | omega) ?_; conv => whnf) | fail)
        rw [hw]
        exact meas_next m (by omega) rfl ⟨by omega, by omega⟩
end Go.Proofs.YtilfcojhdhgmfaaGreatDoor

namespace Go.Proofs.YtilfcojhdhgmfaaGreatDoor
set_option linter.unusedVariables false
set_option linter.unusedSimpArgs false
open Abs

theorem PCx.mono {P : Program} {f : Nat} {args : List S} {objs : List Ob} {Q Q' : S → List Ob → Prop} (h : PCx P f args objs Q) (hi : ∀ r os, Q r os → Q' r os) : PCx P f args objs Q' :=
  ⟨h.fn, fun F φ w cs a b c => (h.calls F φ w cs a b c).mono (by rintro e w' ⟨c, F', φ', r, os, hQ, rest⟩; exact ⟨c, F', φ', r, os, hi _ _ hQ, rest⟩)⟩
def dL (vis : List DE) : List Pc := vis.map dPc
end Go.Proofs.YtilfcojhdhgmfaaGreatDoor

namespace Go.Proofs.YtilfcojhdhgmfaaGreatDoor
set_option linter.unusedVariables false
set_option linter.unusedSimpArgs false
open Abs

abbrev MI := SM ByteArray Int
def sumsM : List Pc → MI
  | [] => SM.nil
  | p :: r => (sumsM r).put p.kind (IntKind.i64.wrap (((sumsM r).get p.kind).getD 0 + p.long))
theorem sumsM_ok : ∀ l, (sumsM l).ok
  | [] => SM.ok_nil
  | p :: r => (sumsM_ok r).put _ _
theorem sumsM_len : ∀ l, (sumsM l).es.length ≤ l.length
  | [] => Nat.le_refl _
  | p :: r => Nat.le_trans (eput_len (sumsM r).clock (sumsM r).es p.kind _) (by have := sumsM_len r; simp; omega)
theorem sumsM_get : ∀ (l : List Pc), (∀ p ∈ l, 0 ≤ p.long ∧ p.long ≤ 200000) → l.length ≤ 1000000 → ∀ n, ((sumsM l).get n).getD 0 = sumP n l
  | [], _, _, n => rfl
  | p :: r, h, hl, n => by
    have hr : ∀ q ∈ r, 0 ≤ q.long ∧ q.long ≤ 200000 := fun q hq => h q (by simp [hq])
    have hl' : r.length ≤ 1000000 := by simp at hl; omega
    have ih := sumsM_get r hr hl'
    have hb := sumP_in p.kind r hr
    have hp := h p (by simp)
    rw [sumsM, SM.get_put, ih]
    by_cases e : p.kind = n
    · subst e
      rw [if_pos rfl, wrap_in (by omega) (by omega)]
      simp [sumP]; omega
    · rw [if_neg e, ih, sumP, if_neg e]; omega
def Keys (g : ByteArray → Int) (ns : List ByteArray) : Prop := Rise id ns ∧ ∀ n, n ∈ ns ↔ 0 < g n
theorem Keys.one {g g' : ByteArray → Int} {a b : List ByteArray} (h : Keys g a) (h' : Keys g' b) (e : ∀ n, g n = g' n) : a = b :=
  rise_ext h.1 h'.1 (fun x => by rw [h.2, h'.2, e])
def nmL (es : List (Nat × ByteArray × Int)) : List ByteArray := (es.filter fun e => decide (0 < e.2.2)).map (·.2.1)
theorem nmL_mem {m : MI} (h : m.ok) (n : ByteArray) : n ∈ nmL m.es ↔ 0 < (m.get n).getD 0 := by
  unfold nmL
  constructor
  · intro hn
    obtain ⟨e, he, rfl⟩ := List.mem_map.1 hn
    obtain ⟨h1, h2⟩ := List.mem_filter.1 he
    rw [get_of_mem h h1]
    simpa using h2
  · intro hn
    cases hg : m.get n with
    | none => rw [hg] at hn; simp at hn
    | some v =>
      rw [hg] at hn
      obtain ⟨k, hk⟩ := mem_of_get hg
      exact List.mem_map.2 ⟨(k, n, v), List.mem_filter.2 ⟨hk, by simpa using hn⟩, rfl⟩
theorem nmL_nd {m : MI} (h : m.ok) : (nmL m.es).Nodup := (keys_nd h).sublist ((List.filter_sublist).map _)
theorem keys_of {m : MI} (h : m.ok) {ns : List ByteArray} (hp : ns.Perm (nmL m.es)) (hs : Rise id ns) : Keys (fun n => (m.get n).getD 0) ns :=
  ⟨hs, fun n => by rw [hp.mem_iff, nmL_mem h]⟩
def encPr (x : ByteArray × ByteArray) : List V := [.str x.1, .str x.2]
def prsV (g : ByteArray → Int) (ns : List ByteArray) : List (ByteArray × ByteArray) := ns.map fun n => (n, itoaB (g n))
end Go.Proofs.YtilfcojhdhgmfaaGreatDoor

namespace Go.Proofs.YtilfcojhdhgmfaaGreatDoor
set_option linter.unusedVariables false
set_option linter.unusedSimpArgs false
open Abs

theorem nmL_len (es : List (Nat × ByteArray × Int)) : (nmL es).length ≤ es.length := by unfold nmL; rw [List.length_map]; exact List.length_filter_le _ _
set_option maxRecDepth 100000 in
set_option maxHeartbeats 4000000 in
theorem dPairs_pc (m : MI) (hok : m.ok) (h12 : m.es.length ≤ 12) (hb : ∀ n, -9000000000000000000 ≤ (m.get n).getD 0 ∧ (m.get n).getD 0 ≤ 9000000000000000000) :
    PCq 51 [.c (.mp 0)] [smO ekS evI m] fun r os => ∃ ns, Keys (fun n => (m.get n).getD 0) ns ∧ r = .c (.lst 2 ((prsV (fun n => (m.get n).getD 0) ns).map encPr)) ∧ os = [smO ekS evI m] := by
  refine fn_soundX (mt := mts) tab_fits tab_mixed Tryz.func51 (by rfl) (by kernel_rfl) (by kernel_rfl) Tryz.results51 (Nat.le_of_ble_eq_true (by kernel_rfl)) ?_
  conv => whnf
  refine loop_meas (fun (vis : List (Nat × ByteArray × Int)) => m.es.length - vis.length) [.sl 3 9 1] [0, 3, 10] (fun (vis : List (Nat × ByteArray × Int)) => ⟨[(0, .c (.mp 0)), (3, .c (.row 1)), (10, .c (.ptr 2 0))], [(0, smO ekS evI m), (1, .row 9 1 ((nmL vis.reverse).map encS)), (2, .iter 0 m.clock (vis.map (·.1)))], 3⟩) (fun (vis : List (Nat × ByteArray × Int)) => Vis m vis) ([]) ?_ ?_
  · conv => whnf
    exact ⟨rfl, Vis.nil _⟩
  · intro vis hv
    have hvl := hv.len
    have hsl := nmL_len vis.reverse
    rw [List.length_reverse] at hsl
    have hslm : ((nmL vis.reverse).map encS).length = (nmL vis.reverse).length := List.length_map ..
    conv => whnf
    refine .mk rfl ?_
    conv => whnf
    refine sm_next hok hv (fun hp => ?_) (fun e he hn hv' hlt => ?_)
    · conv => whnf
      have hpr : (nmL vis.reverse).Perm (nmL m.es) := (((List.reverse_perm vis).trans hp).filter _).map _
      repeat' (first | (refine .mk _ _ (by exact sortS_pc (nmL vis.reverse) (by omega)) ?_; conv => whnf) | fail)
      have hk : Keys (fun n => (m.get n).getD 0) (insSort cmpS (nmL vis.reverse)) := by
        refine keys_of hok ((insSort_perm ..).trans hpr) (rise_of (key := id) (insSort_srt (swo_key id) _) ?_)
        rw [List.map_id]
        exact (((insSort_perm ..).trans hpr).nodup_iff).2 (nmL_nd hok)
      have hnl : (insSort cmpS (nmL vis.reverse)).length ≤ 12 := by rw [insSort_len]; omega
      generalize insSort cmpS (nmL vis.reverse) = ns at hk hnl ⊢
      have hnm : (ns.map encS).length = ns.length := List.length_map ..
      refine loop_for (ns.length) [.sl 6 56 2] [0, 6, 24, 25, 26] (fun k (_ : Unit) => [(26, .c (.int .i64 (k : Int)))]) (fun k (_ : Unit) => [(1, .row 56 2 ((prsV (fun n => (m.get n).getD 0) (ns.take k)).map encPr))]) (fun k (_ : Unit) => True) (()) ?_
      conv => whnf
      refine ⟨(by first | rfl | (simp; done) | (simp; rfl)), (by trivial), ?_, ?_⟩
      · intro k _ hk _
        have htl : (ns.take k).length = k := by rw [List.length_take]; omega
        have hpm : (prsV (fun n => (m.get n).getD 0) (ns.take k)).length = k := by unfold prsV; rw [List.length_map, htl]
        have hslm : ((prsV (fun n => (m.get n).getD 0) (ns.take k)).map encPr).length = k := by rw [List.length_map, hpm]
        have hbe := hb ns[k]
        conv => whnf
        repeat' (first | (refine .mk (fun h => ?_) (fun h => ?_) <;> (try simp only [decide_eq_true_eq, decide_eq_false_iff_not, Bool.not_eq_true', Bool.not_eq_false', beq_iff_eq, beq_eq_false_iff_ne, bne_iff_ne, bne_eq_false_iff_eq] at h) <;> (first | (exfalso; first | omega | exact h trivial) | (conv => whnf))) | (refine .mk _ _ (by exact itoa_pc _ (Int.le_trans (by decide) (hb _).1) (Int.le_trans (hb _).2 (by decide))) ?_; conv => whnf) | (refine .mk (by first | omega | (unfold roomOK; simp [cutRows]; done) | (unfold roomOK; simp [cutRows]; omega) | (simp [cutRows]; done) | (simp [cutRows]; omega)) ?_; conv => whnf) | ((with_reducible refine row_map (by first | assumption | omega) ?_); conv => whnf) | ((with_reducible refine sm_look (ek := ekS) (ev := evI) keyStr _ _ ((0 : Int)) ?_ ?_); exact rfl; conv => whnf) | fail)
        have h1 : prsV (fun n => (m.get n).getD 0) (ns.take (k + 1)) = prsV (fun n => (m.get n).getD 0) (ns.take k) ++ [(ns[k], itoaB ((m.get ns[k]).getD 0))] := by rw [List.take_succ_eq_append_getElem hk]; unfold prsV; rw [List.map_append]; rfl
        exact count_next () hk (by rw [wrap_succ hk (by omega), h1, List.map_append]; rfl) trivial
      · intro _ _
        rw [List.take_length]
        conv => whnf
        repeat' (first | (refine .mk (fun h => ?_) (fun h => ?_) <;> (try simp only [decide_eq_true_eq, decide_eq_false_iff_not, Bool.not_eq_true', Bool.not_eq_false', beq_iff_eq, beq_eq_false_iff_ne, bne_iff_ne, bne_eq_false_iff_eq] at h) <;> (first | (exfalso; first | omega | exact h trivial) | (conv => whnf))) | fail)
        first
          | exact .mk _ _ ⟨ns, hk, rfl, rfl⟩ (.frz 1 _ _ _ rfl (.weak [_, _] (.fro 1 _ _ rfl) rfl (Nat.le_refl _)))
          | exact .mk _ _ ⟨ns, hk, rfl, rfl⟩ (.frz 1 _ _ _ rfl (.weak [_] (.fro 1 _ _ rfl) rfl (Nat.le_refl _)))
    · conv => whnf
      refine .mk rfl ?_
      conv => whnf
      refine sm_at hok he ?_
      conv => whnf
      repeat' (first | (refine .mk (fun h => ?_) (fun h => ?_) <;> (try simp only [decide_eq_true_eq, decide_eq_false_iff_not, Bool.not_eq_true', Bool.not_eq_false', beq_iff_eq, beq_eq_false_iff_ne, bne_iff_ne, bne_eq_false_iff_eq] at h) <;> (first | (exfalso; first | omega | exact h trivial) | (conv => whnf))) | (refine .mk (by first | omega | (unfold roomOK; simp [cutRows]; done) | (unfold roomOK; simp [cutRows]; omega) | (simp [cutRows]; done) | (simp [cutRows]; omega)) ?_; conv => whnf) | fail)
      · have h1 : nmL (e :: vis).reverse = nmL vis.reverse ++ [e.2.1] := by simp [nmL, h]
        exact meas_next (e :: vis) (by simp only [List.length_cons]; omega) (by rw [h1, List.map_append]; rfl) hv'
      · have h1 : nmL (e :: vis).reverse = nmL vis.reverse := by simp [nmL, show ¬ 0 < e.2.2 by omega]
        exact meas_next (e :: vis) (by simp only [List.length_cons]; omega) (by rw [h1]; rfl) hv'
end Go.Proofs.YtilfcojhdhgmfaaGreatDoor

namespace Go.Proofs.YtilfcojhdhgmfaaGreatDoor
set_option linter.unusedVariables false
set_option linter.unusedSimpArgs false
open Abs

theorem sumsM_in (l : List Pc) (h : ∀ p ∈ l, 0 ≤ p.long ∧ p.long ≤ 200000) (hl : l.length ≤ 1000000) (n : ByteArray) : -9000000000000000000 ≤ ((sumsM l).get n).getD 0 ∧ ((sumsM l).get n).getD 0 ≤ 9000000000000000000 := by
  rw [sumsM_get l h hl]
  have := sumP_in n l h
  omega
set_option maxRecDepth 100000 in
set_option maxHeartbeats 4000000 in
theorem dTotals_pc (l : List Ac) (t : Int) (h0 : atE l t = 0) (h12 : (stoAt l (cntAt l t)).d.es.length ≤ 12) :
    PCq 15 [.c (.lst 6 (l.map encAc)), .c (.int .i64 t)] [] fun r os => ∃ ns, Keys (fun n => sumP n (dL (stoAt l (cntAt l t)).d.es)) ns ∧ r = .tup [.c (.lst 2 ((prsV (fun n => sumP n (dL (stoAt l (cntAt l t)).d.es)) ns).map encPr)), .c (.int .i64 0)] ∧ os = [] := by
  have hok := stoAt_ok l (cntAt l t)
  have hf : actsFault l = 0 := by
    unfold atE at h0
    split at h0
    · exact h0
    · rename_i h1; omega
  have hlo := longOk_at hf (cntAt l t) (cntAt_le l t)
  have hc := at_ok l t h0
  generalize hs : stoAt l (cntAt l t) = s at hok hc h12 hlo
  have hin : ∀ vis : List DE, (∀ e ∈ vis, e ∈ s.d.es) → ∀ p ∈ dL vis, 0 ≤ p.long ∧ p.long ≤ 200000 := by
    intro vis hv p hp
    obtain ⟨e, he, rfl⟩ := List.mem_map.1 hp
    have := hlo.1 e (hv e he)
    exact ⟨by show 0 ≤ e.2.2.2; omega, by show e.2.2.2 ≤ 200000; omega⟩
  refine fn_soundX (mt := mts) tab_fits tab_mixed Tryz.func15 (by rfl) (by kernel_rfl) (by kernel_rfl) Tryz.results15 (Nat.le_of_ble_eq_true (by kernel_rfl)) ?_
  conv => whnf
  repeat' (first | (refine .mk (fun h => ?_) (fun h => ?_) <;> (try simp only [decide_eq_true_eq, decide_eq_false_iff_not, Bool.not_eq_true', Bool.not_eq_false', beq_iff_eq, beq_eq_false_iff_ne, bne_iff_ne, bne_eq_false_iff_eq] at h) <;> (first | (exfalso; first | omega | exact h trivial | contradiction | (simp_all [eqRes]; done)) | (conv => whnf))) | (refine .mk _ _ (by exact hc) ?_; conv => whnf) | fail)
  refine loop_meas (fun (vis : List DE) => s.d.es.length - vis.length) [] [8, 25] (fun (vis : List DE) => ⟨[(8, .c (.mp 0)), (25, .c (.ptr 1 0))], [(0, smO ekS evI (sumsM (dL vis))), (1, .iter 2 s.d.clock (vis.map (·.1))), (2, stoD s)], 3⟩) (fun (vis : List DE) => Vis s.d vis) ([]) ?_ ?_
  · conv => whnf
    exact ⟨rfl, Vis.nil _⟩
  · intro vis hv
    have hvl := hv.len
    have hdl : (dL vis).length = vis.length := by simp [dL]
    have hsm := sumsM_ok (dL vis)
    conv => whnf
    refine .mk rfl ?_
    conv => whnf
    refine sm_next hok.d hv (fun hp => ?_) (fun e he hn hv' hlt => ?_)
    · have hml := sumsM_len (dL vis)
      have hget : ∀ n, ((sumsM (dL vis)).get n).getD 0 = sumP n (dL s.d.es) := fun n => by
        rw [sumsM_get _ (hin vis hv.sub) (by omega)]
        exact sumP_perm n (hp.map _)
      conv => whnf
      refine .ex _ (dPairs_pc (sumsM (dL vis)) hsm (by omega) (sumsM_in _ (hin vis hv.sub) (by omega))) ?_
      rintro _ _ ⟨ns, hk, rfl, rfl⟩
      simp only [hget] at hk ⊢
      conv => whnf
      exact .mk _ _ ⟨ns, hk, rfl, rfl⟩ (by first | exact .mk ⟨rfl, rfl⟩ | exact .weak _ (.refl _) rfl (Nat.le_refl _))
    · conv => whnf
      refine .mk rfl ?_
      conv => whnf
      refine sm_at hok.d he ?_
      conv => whnf
      repeat' (first | ((with_reducible refine sm_look (ek := ekS) (ev := evI) keyStr _ _ ((0 : Int)) ?_ ?_); exact rfl; conv => whnf) | ((with_reducible refine sm_upd (ek := ekS) (ev := evI) keyStr _ _ _ ?_); conv => whnf) | fail)
      exact meas_next (e :: vis) (by simp only [List.length_cons]; omega) rfl hv'
end Go.Proofs.YtilfcojhdhgmfaaGreatDoor

namespace Go.Proofs.YtilfcojhdhgmfaaGreatDoor
set_option linter.unusedVariables false
set_option linter.unusedSimpArgs false
open Abs

end Go.Proofs.YtilfcojhdhgmfaaGreatDoor

namespace Go.Proofs.YtilfcojhdhgmfaaGreatDoor
set_option linter.unusedVariables false
set_option linter.unusedSimpArgs false
open Abs

def pRef (l : List Ac) : Nat → List Int
  | 0 => []
  | k + 1 => if (takeS (stoAt l k) (l.getD k ⟨0, 0, bE, bE, bE, 0⟩)).2.2 = 0 then pRef l k else pRef l k ++ [(k : Int)]
def pWhy (l : List Ac) : Nat → List Int
  | 0 => []
  | k + 1 => if (takeS (stoAt l k) (l.getD k ⟨0, 0, bE, bE, bE, 0⟩)).2.2 = 0 then pWhy l k else pWhy l k ++ [(takeS (stoAt l k) (l.getD k ⟨0, 0, bE, bE, bE, 0⟩)).2.2]
theorem pRef_len (l : List Ac) : ∀ k, (pRef l k).length = (pWhy l k).length ∧ (pRef l k).length ≤ k
  | 0 => ⟨rfl, Nat.le_refl _⟩
  | k + 1 => by
    have := pRef_len l k
    unfold pRef pWhy
    split
    · omega
    · simp; omega
set_option maxRecDepth 100000 in
set_option maxHeartbeats 4000000 in
theorem ref0_nil (s : Sto) (i : Int) (of : ByteArray) (e : Int) (he : e = 0) :
    PCp 48 [.c (.ptr 0 0), .c (.int .i64 i), .c (.str of), .c (.int .i64 e), .c (.ptr 3 0), .c (.ptr 4 0)] [stBox, stoD s, stoK s, .box [.nils], .box [.nils]] (.tup []) [stBox, stoD s, stoK s, .box [.nils], .box [.nils]] := by
  subst he
  refine fn_sound (mt := mts) tab_fits tab_mixed Tryz.func48 (by rfl) (by kernel_rfl) (by kernel_rfl) Tryz.results48 (Nat.le_of_ble_eq_true (by kernel_rfl)) ?_
  conv => whnf
  repeat' (first | (refine .mk (fun h => ?_) (fun h => ?_) <;> (try simp only [decide_eq_true_eq, decide_eq_false_iff_not, Bool.not_eq_true', Bool.not_eq_false', beq_iff_eq, beq_eq_false_iff_ne, bne_iff_ne, bne_eq_false_iff_eq] at h) <;> (first | (exfalso; first | omega | exact h trivial | contradiction | (simp_all [eqRes]; done)) | (conv => whnf))) | fail)
  exact .mk ⟨rfl, rfl⟩
set_option maxRecDepth 100000 in
set_option maxHeartbeats 4000000 in
theorem ref0_row (s : Sto) (i : Int) (of : ByteArray) (e : Int) (he : e = 0) (o y : List Int) :
    PCp 48 [.c (.ptr 0 0), .c (.int .i64 i), .c (.str of), .c (.int .i64 e), .c (.ptr 3 0), .c (.ptr 5 0)] [stBox, stoD s, stoK s, .box [.row 4], .row 3 1 (o.map encI), .box [.row 6], .row 33 1 (y.map encI)] (.tup []) [stBox, stoD s, stoK s, .box [.row 4], .row 3 1 (o.map encI), .box [.row 6], .row 33 1 (y.map encI)] := by
  subst he
  refine fn_sound (mt := mts) tab_fits tab_mixed Tryz.func48 (by rfl) (by kernel_rfl) (by kernel_rfl) Tryz.results48 (Nat.le_of_ble_eq_true (by kernel_rfl)) ?_
  conv => whnf
  repeat' (first | (refine .mk (fun h => ?_) (fun h => ?_) <;> (try simp only [decide_eq_true_eq, decide_eq_false_iff_not, Bool.not_eq_true', Bool.not_eq_false', beq_iff_eq, beq_eq_false_iff_ne, bne_iff_ne, bne_eq_false_iff_eq] at h) <;> (first | (exfalso; first | omega | exact h trivial | contradiction | (simp_all [eqRes]; done)) | (conv => whnf))) | fail)
  exact .mk ⟨rfl, rfl⟩
set_option maxRecDepth 100000 in
set_option maxHeartbeats 4000000 in
theorem ref1_nil (s : Sto) (i : Int) (of : ByteArray) (e : Int) (he : e ≠ 0) :
    PCp 48 [.c (.ptr 0 0), .c (.int .i64 i), .c (.str of), .c (.int .i64 e), .c (.ptr 3 0), .c (.ptr 4 0)] [stBox, stoD s, stoK s, .box [.nils], .box [.nils]] (.tup []) [stBox, stoD s, stoK s, .box [.row 5], .box [.row 6], .row 3 1 ([i].map encI), .row 33 1 ([e].map encI)] := by
  refine fn_sound (mt := mts) tab_fits tab_mixed Tryz.func48 (by rfl) (by kernel_rfl) (by kernel_rfl) Tryz.results48 (Nat.le_of_ble_eq_true (by kernel_rfl)) ?_
  conv => whnf
  repeat' (first | (refine .mk (fun h => ?_) (fun h => ?_) <;> (try simp only [decide_eq_true_eq, decide_eq_false_iff_not, Bool.not_eq_true', Bool.not_eq_false', beq_iff_eq, beq_eq_false_iff_ne, bne_iff_ne, bne_eq_false_iff_eq] at h) <;> (first | (exfalso; first | omega | exact h trivial | contradiction | (simp_all [eqRes]; done)) | (conv => whnf))) | (refine .mk (by first | omega | (unfold roomOK; simp [cutRows]; done) | (unfold roomOK; simp [cutRows]; omega) | (simp [cutRows]; done) | (simp [cutRows]; omega)) ?_; conv => whnf) | fail)
  exact .mk ⟨rfl, rfl⟩
set_option maxRecDepth 100000 in
set_option maxHeartbeats 4000000 in
theorem ref1_row (s : Sto) (i : Int) (of : ByteArray) (e : Int) (he : e ≠ 0) (o y : List Int) (ho : o.length ≤ 100000) (hy : y.length ≤ 100000) :
    PCp 48 [.c (.ptr 0 0), .c (.int .i64 i), .c (.str of), .c (.int .i64 e), .c (.ptr 3 0), .c (.ptr 5 0)] [stBox, stoD s, stoK s, .box [.row 4], .row 3 1 (o.map encI), .box [.row 6], .row 33 1 (y.map encI)] (.tup []) [stBox, stoD s, stoK s, .box [.row 7], .dead, .box [.row 8], .dead, .row 3 1 ((o ++ [i]).map encI), .row 33 1 ((y ++ [e]).map encI)] := by
  have hom : (o.map encI).length = o.length := List.length_map ..
  have hym : (y.map encI).length = y.length := List.length_map ..
  refine fn_sound (mt := mts) tab_fits tab_mixed Tryz.func48 (by rfl) (by kernel_rfl) (by kernel_rfl) Tryz.results48 (Nat.le_of_ble_eq_true (by kernel_rfl)) ?_
  conv => whnf
  repeat' (first | (refine .mk (fun h => ?_) (fun h => ?_) <;> (try simp only [decide_eq_true_eq, decide_eq_false_iff_not, Bool.not_eq_true', Bool.not_eq_false', beq_iff_eq, beq_eq_false_iff_ne, bne_iff_ne, bne_eq_false_iff_eq] at h) <;> (first | (exfalso; first | omega | exact h trivial | contradiction | (simp_all [eqRes]; done)) | (conv => whnf))) | (refine .mk (by first | omega | (unfold roomOK; simp [cutRows]; done) | (unfold roomOK; simp [cutRows]; omega) | (simp [cutRows]; done) | (simp [cutRows]; omega)) ?_; conv => whnf) | fail)
  rw [List.map_append, List.map_append]
  exact .mk ⟨rfl, rfl⟩
def refO (l : List Ac) (k : Nat) : List (Nat × Ob) :=
  if pRef l k = [] then [(0, .box [.nils]), (1, .box [.nils]), (2, .box [.mp 3, .mp 4]), (3, stoD (stoAt l k)), (4, stoK (stoAt l k))]
  else [(0, .box [.row 2]), (1, .box [.row 3]), (2, .row 3 1 ((pRef l k).map encI)), (3, .row 33 1 ((pWhy l k).map encI)), (4, .box [.mp 5, .mp 6]), (5, stoD (stoAt l k)), (6, stoK (stoAt l k))]
def refP (l : List Ac) (k : Nat) : S := if pRef l k = [] then .c (.ptr 2 0) else .c (.ptr 4 0)
theorem refO_len (l : List Ac) (k : Nat) : (refO l k).length = if pRef l k = [] then 5 else 7 := by unfold refO; split <;> rfl
set_option maxRecDepth 100000 in
set_option maxHeartbeats 4000000 in
theorem followR_pc (l : List Ac) (hl : l.length ≤ 100000) :
    PCp 47 [.c (.lst 6 (l.map encAc)), .c (.fn 48 [.ptr 0 0, .ptr 1 0])] [.box [.nils], .box [.nils]] (refP l l.length) ((refO l l.length).map (·.2)) := by
  have hlm : (l.map encAc).length = l.length := List.length_map ..
  refine fn_sound (mt := mts) tab_fits tab_mixed Tryz.func47 (by rfl) (by kernel_rfl) (by kernel_rfl) Tryz.results47 (Nat.le_of_ble_eq_true (by kernel_rfl)) ?_
  conv => whnf
  refine loop_count (l.length) [] [1, 5, 14, 15, 16] (fun k (_ : Unit) => ⟨[(1, .c (.fn 48 [.ptr 0 0, .ptr 1 0])), (5, refP l k), (14, .c (.lst 6 (l.map encAc))), (15, .c (.int .i64 (l.map encAc).length)), (16, .c (.int .i64 (k : Int)))], refO l k, (refO l k).length⟩) (fun k _ => True) () ?_ ?_ ?_
  · conv => whnf
    exact ⟨rfl, trivial⟩
  · intro k _ hk _
    have hg : l.getD k ⟨0, 0, bE, bE, bE, 0⟩ = l[k] := by simp [hk]
    have hlen := pRef_len l k
    by_cases h0 : pRef l k = []
    · have hy0 : pWhy l k = [] := List.length_eq_zero_iff.1 (by rw [← hlen.1, h0]; rfl)
      rw [refO_len, if_pos h0, refO, if_pos h0, refP, if_pos h0]
      conv => whnf
      by_cases he : (takeS (stoAt l k) l[k]).2.2 = 0
      · have h1 : pRef l (k + 1) = [] := by rw [pRef, hg, if_pos he, h0]
        repeat' (first | (refine .mk (fun h => ?_) (fun h => ?_) <;> (try simp only [decide_eq_true_eq, decide_eq_false_iff_not, Bool.not_eq_true', Bool.not_eq_false', beq_iff_eq, beq_eq_false_iff_ne, bne_iff_ne, bne_eq_false_iff_eq] at h) <;> (first | (exfalso; first | omega | exact h trivial) | (conv => whnf))) | (refine .mk _ _ (by first | exact take_pc (stoAt l k) (stoAt_ok l k) l[k] | exact ref0_nil _ _ _ _ he) ?_; conv => whnf) | (refine idx_at _ (by with_reducible rfl) (by first | assumption | omega) ?_; conv => whnf) | fail)
        refine count_next () hk (by rw [wrap_succ hk (by omega), refO_len, if_pos h1, refO, if_pos h1, refP, if_pos h1]; simp only [stoAt, hg]; rfl) trivial
      · have h1 : pRef l (k + 1) = [(k : Int)] := by rw [pRef, hg, if_neg he, h0]; rfl
        have h2 : pWhy l (k + 1) = [(takeS (stoAt l k) l[k]).2.2] := by rw [pWhy, hg, if_neg he, hy0]; rfl
        have h3 : pRef l (k + 1) ≠ [] := by rw [h1]; simp
        repeat' (first | (refine .mk (fun h => ?_) (fun h => ?_) <;> (try simp only [decide_eq_true_eq, decide_eq_false_iff_not, Bool.not_eq_true', Bool.not_eq_false', beq_iff_eq, beq_eq_false_iff_ne, bne_iff_ne, bne_eq_false_iff_eq] at h) <;> (first | (exfalso; first | omega | exact h trivial) | (conv => whnf))) | (refine .mk _ _ (by first | exact take_pc (stoAt l k) (stoAt_ok l k) l[k] | exact ref1_nil _ _ _ _ he) ?_; conv => whnf) | (refine idx_at _ (by with_reducible rfl) (by first | assumption | omega) ?_; conv => whnf) | fail)
        refine count_next () hk (by rw [wrap_succ hk (by omega), refO_len, if_neg h3, refO, if_neg h3, refP, if_neg h3, h1, h2]; simp only [stoAt, hg]; rfl) trivial
    · rw [refO_len, if_neg h0, refO, if_neg h0, refP, if_neg h0]
      conv => whnf
      by_cases he : (takeS (stoAt l k) l[k]).2.2 = 0
      · have h1 : pRef l (k + 1) = pRef l k := by rw [pRef, hg, if_pos he]
        have h2 : pWhy l (k + 1) = pWhy l k := by rw [pWhy, hg, if_pos he]
        repeat' (first | (refine .mk (fun h => ?_) (fun h => ?_) <;> (try simp only [decide_eq_true_eq, decide_eq_false_iff_not, Bool.not_eq_true', Bool.not_eq_false', beq_iff_eq, beq_eq_false_iff_ne, bne_iff_ne, bne_eq_false_iff_eq] at h) <;> (first | (exfalso; first | omega | exact h trivial) | (conv => whnf))) | (refine .mk _ _ (by first | exact take_pc (stoAt l k) (stoAt_ok l k) l[k] | exact ref0_row _ _ _ _ he _ _) ?_; conv => whnf) | (refine idx_at _ (by with_reducible rfl) (by first | assumption | omega) ?_; conv => whnf) | fail)
        refine count_next () hk (by rw [wrap_succ hk (by omega), refO_len, h1, if_neg h0, refO, h1, if_neg h0, refP, h1, if_neg h0, h2]; simp only [stoAt, hg]; rfl) trivial
      · have h1 : pRef l (k + 1) = pRef l k ++ [(k : Int)] := by rw [pRef, hg, if_neg he]
        have h2 : pWhy l (k + 1) = pWhy l k ++ [(takeS (stoAt l k) l[k]).2.2] := by rw [pWhy, hg, if_neg he]
        have h3 : pRef l (k + 1) ≠ [] := by rw [h1]; simp
        repeat' (first | (refine .mk (fun h => ?_) (fun h => ?_) <;> (try simp only [decide_eq_true_eq, decide_eq_false_iff_not, Bool.not_eq_true', Bool.not_eq_false', beq_iff_eq, beq_eq_false_iff_ne, bne_iff_ne, bne_eq_false_iff_eq] at h) <;> (first | (exfalso; first | omega | exact h trivial) | (conv => whnf))) | (refine .mk _ _ (by first | exact take_pc (stoAt l k) (stoAt_ok l k) l[k] | exact ref1_row _ _ _ _ he (pRef l k) (pWhy l k) (by omega) (by omega)) ?_; conv => whnf) | (refine idx_at _ (by with_reducible rfl) (by first | assumption | omega) ?_; conv => whnf) | fail)
        refine count_next () hk (by rw [wrap_succ hk (by omega), refO_len, if_neg h3, refO, if_neg h3, refP, if_neg h3, h1, h2]; simp only [stoAt, hg]; rfl) trivial
  · intro _ _
    by_cases h0 : pRef l l.length = []
    · rw [refO_len, if_pos h0, refO, if_pos h0, refP, if_pos h0]
      conv => whnf
      repeat' (first | (refine .mk (fun h => ?_) (fun h => ?_) <;> (try simp only [decide_eq_true_eq, decide_eq_false_iff_not, Bool.not_eq_true', Bool.not_eq_false', beq_iff_eq, beq_eq_false_iff_ne, bne_iff_ne, bne_eq_false_iff_eq] at h) <;> (first | (exfalso; first | omega | exact h trivial | contradiction | (simp_all [eqRes]; done)) | (conv => whnf))) | fail)
      exact .mk ⟨rfl, rfl⟩
    · rw [refO_len, if_neg h0, refO, if_neg h0, refP, if_neg h0]
      conv => whnf
      repeat' (first | (refine .mk (fun h => ?_) (fun h => ?_) <;> (try simp only [decide_eq_true_eq, decide_eq_false_iff_not, Bool.not_eq_true', Bool.not_eq_false', beq_iff_eq, beq_eq_false_iff_ne, bne_iff_ne, bne_eq_false_iff_eq] at h) <;> (first | (exfalso; first | omega | exact h trivial | contradiction | (simp_all [eqRes]; done)) | (conv => whnf))) | fail)
      exact .mk ⟨rfl, rfl⟩
def refV (l : List Ac) : List Int := if actsFault l = 0 then pRef l l.length else []
def whyV (l : List Ac) : List Int := if actsFault l = 0 then pWhy l l.length else []
set_option maxRecDepth 100000 in
set_option maxHeartbeats 4000000 in
theorem dRefused_pc (l : List Ac) (hl : l.length ≤ 100000) :
    PCp 11 [.c (.lst 6 (l.map encAc))] [] (.tup [.c (.lst 1 ((refV l).map encI)), .c (.lst 1 ((whyV l).map encI)), .c (.int .i64 (actsFault l))]) [] := by
  have hc := followR_pc l hl
  have hlen := pRef_len l l.length
  by_cases hf : actsFault l = 0
  · rw [refV, whyV, if_pos hf, if_pos hf, hf]
    by_cases h0 : pRef l l.length = []
    · have hy0 : pWhy l l.length = [] := List.length_eq_zero_iff.1 (by rw [← hlen.1, h0]; rfl)
      rw [refP, refO, if_pos h0, if_pos h0] at hc
      refine fn_sound (mt := mts) tab_fits tab_mixed Tryz.func11 (by rfl) (by kernel_rfl) (by kernel_rfl) Tryz.results11 (Nat.le_of_ble_eq_true (by kernel_rfl)) ?_
      conv => whnf
      repeat' (first | (refine .mk (fun h => ?_) (fun h => ?_) <;> (try simp only [decide_eq_true_eq, decide_eq_false_iff_not, Bool.not_eq_true', Bool.not_eq_false', beq_iff_eq, beq_eq_false_iff_ne, bne_iff_ne, bne_eq_false_iff_eq] at h) <;> (first | (exfalso; first | omega | exact h trivial | contradiction | (simp_all [eqRes]; done)) | (conv => whnf))) | (refine .mk _ _ (by first | exact checkActs_pc l | exact hc) ?_; conv => whnf) | fail)
      rw [h0, hy0]
      refine .weak [] (.tup _ _ rfl ?_) rfl (Nat.le_refl _)
      intro i x y hx hy
      match i with
      | 0 => cases hx; cases hy; exact .nil 1
      | 1 => cases hx; cases hy; exact .nil 1
      | 2 => cases hx; cases hy; exact .refl _
      | n + 3 => cases hx
    · rw [refP, refO, if_neg h0, if_neg h0] at hc
      refine fn_sound (mt := mts) tab_fits tab_mixed Tryz.func11 (by rfl) (by kernel_rfl) (by kernel_rfl) Tryz.results11 (Nat.le_of_ble_eq_true (by kernel_rfl)) ?_
      conv => whnf
      repeat' (first | (refine .mk (fun h => ?_) (fun h => ?_) <;> (try simp only [decide_eq_true_eq, decide_eq_false_iff_not, Bool.not_eq_true', Bool.not_eq_false', beq_iff_eq, beq_eq_false_iff_ne, bne_iff_ne, bne_eq_false_iff_eq] at h) <;> (first | (exfalso; first | omega | exact h trivial | contradiction | (simp_all [eqRes]; done)) | (conv => whnf))) | (refine .mk _ _ (by first | exact checkActs_pc l | exact hc) ?_; conv => whnf) | fail)
      refine .frz 0 _ _ _ rfl (.frz 1 _ _ _ rfl (.weak [_, _] (.tup _ _ rfl ?_) rfl (Nat.le_refl _)))
      intro i x y hx hy
      match i with
      | 0 => cases hx; cases hy; exact .fro 0 _ _ rfl
      | 1 => cases hx; cases hy; exact .fro 1 _ _ rfl
      | 2 => cases hx; cases hy; exact .refl _
      | n + 3 => cases hx
  · rw [refV, whyV, if_neg hf, if_neg hf]
    refine fn_sound (mt := mts) tab_fits tab_mixed Tryz.func11 (by rfl) (by kernel_rfl) (by kernel_rfl) Tryz.results11 (Nat.le_of_ble_eq_true (by kernel_rfl)) ?_
    conv => whnf
    repeat' (first | (refine .mk (fun h => ?_) (fun h => ?_) <;> (try simp only [decide_eq_true_eq, decide_eq_false_iff_not, Bool.not_eq_true', Bool.not_eq_false', beq_iff_eq, beq_eq_false_iff_ne, bne_iff_ne, bne_eq_false_iff_eq] at h) <;> (first | (exfalso; first | omega | exact h trivial | contradiction | (simp_all [eqRes]; done)) | (conv => whnf))) | (refine .mk _ _ (by exact checkActs_pc l) ?_; conv => whnf) | fail)
    refine .weak [] (.tup _ _ rfl ?_) rfl (Nat.le_refl _)
    intro i x y hx hy
    match i with
    | 0 => cases hx; cases hy; exact .nil 1
    | 1 => cases hx; cases hy; exact .nil 1
    | 2 => cases hx; cases hy; exact .refl _
    | n + 3 => cases hx
end Go.Proofs.YtilfcojhdhgmfaaGreatDoor

namespace Go.Proofs.YtilfcojhdhgmfaaGreatDoor
set_option linter.unusedVariables false
set_option linter.unusedSimpArgs false
open Abs

set_option maxRecDepth 100000 in
set_option maxHeartbeats 4000000 in
theorem eqAcS_pc (l : List Ac) (hl : l.length ≤ 1000000) : PCp 13 [.c (.lst 6 (l.map encAc)), .c (.lst 6 (l.map encAc))] [] (.c (.bool true)) [] := by
  have hlm : (l.map encAc).length = l.length := List.length_map ..
  refine fn_sound (mt := mts) tab_fits tab_mixed Tryz.func13 (by rfl) (by kernel_rfl) (by kernel_rfl) Tryz.results13 (Nat.le_of_ble_eq_true (by kernel_rfl)) ?_
  conv => whnf
  repeat' (first | (refine .mk (fun h => ?_) (fun h => ?_) <;> (try simp only [decide_eq_true_eq, decide_eq_false_iff_not, Bool.not_eq_true', Bool.not_eq_false', beq_iff_eq, beq_eq_false_iff_ne, bne_iff_ne, bne_eq_false_iff_eq] at h) <;> (first | (exfalso; first | omega | exact h trivial | contradiction | (simp_all [eqRes]; done)) | (conv => whnf))) | fail)
  refine loop_for (l.length) [] [0, 1, 12, 13] (fun k (_ : Unit) => [(13, .c (.int .i64 (k : Int)))]) (fun k (_ : Unit) => []) (fun k (_ : Unit) => True) (()) ?_
  conv => whnf
  refine ⟨(by first | rfl | (simp; done) | (simp; rfl)), (by trivial), ?_, ?_⟩
  · intro k _ hk _
    conv => whnf
    repeat' (first | (refine .mk (fun h => ?_) (fun h => ?_) <;> (try simp only [decide_eq_true_eq, decide_eq_false_iff_not, Bool.not_eq_true', Bool.not_eq_false', beq_iff_eq, beq_eq_false_iff_ne, bne_iff_ne, bne_eq_false_iff_eq] at h) <;> (first | (exfalso; first | omega | exact h trivial | contradiction | (simp_all [eqRes]; done)) | (conv => whnf))) | (refine idx_at _ (by with_reducible rfl) (by first | assumption | omega) ?_; conv => whnf) | fail)
    all_goals exact count_next () hk (by rw [wrap_succ hk (by omega)]; rfl) trivial
  · intro _ _
    conv => whnf
    repeat' (first | (refine .mk (fun h => ?_) (fun h => ?_) <;> (try simp only [decide_eq_true_eq, decide_eq_false_iff_not, Bool.not_eq_true', Bool.not_eq_false', beq_iff_eq, beq_eq_false_iff_ne, bne_iff_ne, bne_eq_false_iff_eq] at h) <;> (first | (exfalso; first | omega | exact h trivial | contradiction | (simp_all [eqRes]; done)) | (conv => whnf))) | fail)
    all_goals exact .mk ⟨rfl, rfl⟩
end Go.Proofs.YtilfcojhdhgmfaaGreatDoor

namespace Go.Proofs.YtilfcojhdhgmfaaGreatDoor
set_option linter.unusedVariables false
set_option linter.unusedSimpArgs false
open Abs

abbrev rAt (l : List Ac) (t : Int) : Rto := rtoAt l (cntAt l t)
theorem at_fault {l : List Ac} {t : Int} (h : atE l t = 0) : actsFault l = 0 := by
  unfold atE at h
  split at h
  · exact h
  · rename_i h1; omega
theorem both_perm {l : List Ac} {t : Int} (h : atE l t = 0) : (dL (stoAt l (cntAt l t)).d.es).Perm (stL (rAt l t) (rAt l t).l.es) :=
  sto_perm (stoAt_ok _ _) (rtoAt_ok _ _) (rel_at (at_fault h) _ (cntAt_le l t))
end Go.Proofs.YtilfcojhdhgmfaaGreatDoor

namespace Go.Proofs.YtilfcojhdhgmfaaGreatDoor
set_option linter.unusedVariables false
set_option linter.unusedSimpArgs false
open Abs

end Go.Proofs.YtilfcojhdhgmfaaGreatDoor

namespace Go.Proofs.YtilfcojhdhgmfaaGreatDoor
set_option linter.unusedVariables false
set_option linter.unusedSimpArgs false
open Abs

theorem acts_of : ∀ (l : List Ac) (o : Option Ac), (∀ x ∈ l, actErr x = 0) → l.Pairwise (fun x y => timeC x y < 0) → (∀ y, o = some y → ∀ x ∈ l, timeC y x < 0) → actsErr o l = 0
  | [], _, _, _, _ => rfl
  | a :: r, o, h1, h2, h3 => by
    obtain ⟨h4, h5⟩ := List.pairwise_cons.1 h2
    rw [actsErr, if_neg (by simpa using h1 a (by simp)), if_neg]
    · exact acts_of r (some a) (fun x hx => h1 x (by simp [hx])) h5 (fun y hy x hx => by cases hy; exact h4 x hx)
    · intro h
      cases o with
      | none => simp [badPrev] at h
      | some y =>
        have h6 : timeC a y ≤ 0 := by simpa [badPrev] using h
        have h7 := h3 y rfl a (by simp)
        have := cmp_time.anti a y
        omega
theorem acts_sub {l a : List Ac} (h : actsFault l = 0) (hs : a.Sublist l) : actsFault a = 0 := by
  obtain ⟨h1, h2⟩ := actsFault_all h
  have hE : actsErr none l = 0 := by
    unfold actsFault at h
    rw [if_neg (by omega)] at h; exact h
  have := hs.length_le
  unfold actsFault
  rw [if_neg (by omega)]
  exact acts_of a none (fun x hx => h2 x (hs.subset hx)) ((acts_rise l none hE).1.sublist hs) (fun y hy => by cases hy)
theorem cnt_all {l : List Ac} {t : Int} (h : ∀ x ∈ l, x.mo ≤ t) : cntAt l t = l.length := by
  have key : ∀ q : List Ac, (∀ x ∈ q, x.mo ≤ t) → (q.takeWhile fun x => decide (x.mo ≤ t)) = q := by
    intro q
    induction q with
    | nil => intro _; rfl
    | cons a r ih =>
      intro h6
      rw [List.takeWhile_cons, if_pos (decide_eq_true (h6 a (by simp))), ih (fun x hx => h6 x (by simp [hx]))]
  unfold cntAt
  rw [key l h]
theorem mo_small {l : List Ac} (h : actsFault l = 0) (hm : ∀ x ∈ l, MoOk x.mo) : ∀ x ∈ l, x.mo ≤ 10000 := fun x hx => by
  have := actErr_in ((actsFault_all h).2 x hx)
  rcases hm x hx with e | e
  · exact e
  · omega
theorem pRef_mem (l : List Ac) (k : Nat) : ∀ n, (k : Int) ∈ pRef l n ↔ k < n ∧ (takeS (stoAt l k) (l.getD k acD)).2.2 ≠ 0
  | 0 => by simp [pRef]
  | n + 1 => by
    have ih := pRef_mem l k n
    rw [pRef]
    by_cases h : (takeS (stoAt l n) (l.getD n ⟨0, 0, bE, bE, bE, 0⟩)).2.2 = 0
    · rw [if_pos h, ih]
      constructor
      · rintro ⟨h1, h2⟩; exact ⟨by omega, h2⟩
      · rintro ⟨h1, h2⟩
        by_cases e : k = n
        · subst e; exact absurd h h2
        · exact ⟨by omega, h2⟩
    · rw [if_neg h, List.mem_append, ih, List.mem_singleton]
      constructor
      · rintro (⟨h1, h2⟩ | h1)
        · exact ⟨by omega, h2⟩
        · have : k = n := by omega
          subst this; exact ⟨by omega, h⟩
      · rintro ⟨h1, h2⟩
        by_cases e : k = n
        · right; omega
        · exact .inl ⟨by omega, h2⟩
def arrL (l : List Ac) : Nat → List Pc
  | 0 => []
  | k + 1 => if (tkA l k).2.2 = 0 ∧ (l.getD k acD).kd = 1 then ⟨(l.getD k acD).drum, (l.getD k acD).ty, (l.getD k acD).long⟩ :: arrL l k else arrL l k
theorem arrL_in {l : List Ac} (hE : ∀ x ∈ l, actErr x = 0) : ∀ k, k ≤ l.length → (∀ p ∈ arrL l k, 0 ≤ p.long ∧ p.long ≤ 200000) ∧ (arrL l k).length ≤ k
  | 0, _ => ⟨fun p hp => (by cases hp), Nat.le_refl _⟩
  | k + 1, hk => by
    obtain ⟨h1, h2⟩ := arrL_in hE k (by omega)
    have hg : l.getD k acD = l[k] := by simp [show k < l.length by omega]
    have := actErr_in (hE _ (List.getElem_mem (show k < l.length by omega)))
    unfold arrL
    split
    · refine ⟨fun p hp => ?_, by simp; omega⟩
      rcases List.mem_cons.1 hp with e | e
      · subst e; rw [hg]; simp only; omega
      · exact h1 p e
    · exact ⟨h1, by omega⟩
theorem arrL_sum (l : List Ac) (kind : ByteArray) : ∀ k, sumP kind (arrL l k) = arrAt l kind k
  | 0 => rfl
  | k + 1 => by
    have ih := arrL_sum l kind k
    unfold arrL arrAt
    by_cases h : (tkA l k).2.2 = 0 ∧ (l.getD k acD).kd = 1
    · rw [if_pos h, sumP, ih]
      by_cases e : (l.getD k acD).ty = kind
      · rw [if_pos e, if_pos ⟨h.1, h.2, e⟩]; simp only; omega
      · rw [if_neg e, if_neg (fun q => e q.2.2)]; omega
    · rw [if_neg h, if_neg (fun q => h ⟨q.1, q.2.1⟩), ih]; omega
def toldOf (g : ByteArray → Int) (kind : ByteArray) (ns : List ByteArray) (z : Int) : Int := if kind ∈ ns then g kind else z
theorem told_all {g : ByteArray → Int} {ns : List ByteArray} (h : Keys g ns) (kind : ByteArray) (h0 : 0 ≤ g kind) : toldOf g kind ns 0 = g kind := by
  unfold toldOf
  split
  · rfl
  · rename_i e
    have : ¬ 0 < g kind := fun q => e ((h.2 kind).2 q)
    omega
theorem tot_in {l : List Ac} (hf : actsFault l = 0) (kind : ByteArray) (h12 : (stoAt l l.length).d.es.length ≤ 14) : 0 ≤ totT l kind l.length ∧ totT l kind l.length ≤ 200000 * 14 := by
  have hlo := longOk_at hf l.length (Nat.le_refl _)
  have hin : ∀ p ∈ dL (stoAt l l.length).d.es, 0 ≤ p.long ∧ p.long ≤ 200000 := by
    intro p hp
    obtain ⟨e, he, rfl⟩ := List.mem_map.1 hp
    have := hlo.1 e he
    exact ⟨by show 0 ≤ e.2.2.2; omega, by show e.2.2.2 ≤ 200000; omega⟩
  have h := sumP_in kind (dL (stoAt l l.length).d.es) hin
  have hl : (dL (stoAt l l.length).d.es).length = (stoAt l l.length).d.es.length := by simp [dL]
  have e : totT l kind l.length = sumP kind (dL (stoAt l l.length).d.es) := sumK_P kind _
  rw [e]
  omega
theorem sumK_none (n : ByteArray) : ∀ es : List DE, n ∉ es.map (·.2.2.1) → sumK n es = 0
  | [], _ => rfl
  | e :: r, h => by
    rw [List.map_cons, List.mem_cons, not_or] at h
    rw [sumK, sumK_none n r h.2, if_neg (fun q => h.1 q.symm)]; rfl
theorem keys_few {l : List Ac} {ns : List ByteArray} (h : Keys (fun n => totT l n l.length) ns) : ns.length ≤ (stoAt l l.length).d.es.length := by
  have hn : ns.Nodup := by have := rise_nodup (key := id) h.1; rwa [List.map_id] at this
  have := nodup_sub_len hn (m := (stoAt l l.length).d.es.map (·.2.2.1)) (fun n hm => by
    have h0 : 0 < totT l n l.length := (h.2 n).1 hm
    by_cases q : n ∈ (stoAt l l.length).d.es.map (·.2.2.1)
    · exact q
    · have e : totT l n l.length = 0 := sumK_none n _ q
      omega)
  simpa using this
end Go.Proofs.YtilfcojhdhgmfaaGreatDoor

namespace Go.Proofs.YtilfcojhdhgmfaaGreatDoor
set_option linter.unusedVariables false
set_option linter.unusedSimpArgs false
open Abs

structure Du where
  key : ByteArray
  a : ByteArray
  b : ByteArray
  long : Int
  inner : Int
def encDu (x : Du) : List V := [.str x.key, .str x.a, .str x.b, .int .i64 x.long, .int .i64 x.inner]
structure Ly where
  cable : ByteArray
  outer : Int
  ducts : List ByteArray
def encLy (x : Ly) : List V := [.str x.cable, .int .i64 x.outer, .lst 1 (x.ducts.map encS)]

def keyErr (has : ByteArray → Bool) (first : Bool) (before k : ByteArray) : Int := if !has k then 8 else if !first && leB k before then 7 else 0
def duErr (first : Bool) (before : ByteArray) (x : Du) : Int :=
  if !keyB x.key || !keyB x.a || !keyB x.b then 5 else if x.a = x.b then 6 else if x.long < 1 ∨ 200000 < x.long ∨ x.inner < 1 ∨ 1000 < x.inner then 1 else if !first && leB x.key before then 7 else 0
def duFault (l : List Du) : Int := if 300 < l.length then 2 else seqErr duErr Du.key true ⟨#[]⟩ l
def duAt (d : List Du) (k : ByteArray) : Option Du := d.find? fun x => decide (x.key = k)
def du0 : Du := ⟨⟨#[]⟩, ⟨#[]⟩, ⟨#[]⟩, 0, 0⟩
def duG (d : List Du) (k : ByteArray) : Du := (duAt d k).getD du0
def hasD (d : List Du) (k : ByteArray) : Bool := (duAt d k).isSome
def cabErr (d : List Du) (x : Ly) : Int :=
  if x.outer < 1 ∨ 1000 < x.outer then 1 else if x.ducts.length = 0 then 8 else if 300 < x.ducts.length then 2 else seqErr (keyErr (hasD d)) id true ⟨#[]⟩ x.ducts
def lyErr (d : List Du) (first : Bool) (before : ByteArray) (x : Ly) : Int :=
  if !keyB x.cable then 5 else if !first && leB x.cable before then 7 else cabErr d x
def lysErr (d : List Du) (l : List Ly) : Int := seqErr (lyErr d) Ly.cable true ⟨#[]⟩ l
def inL (l : List Ly) (k : ByteArray) : List Ly := l.filter fun x => decide (k ∈ x.ducts)
def fullL (d : List Du) (l : List Ly) : Bool := d.any fun x => decide (20 < (inL l x.key).length)
def lyFault (d : List Du) (l : List Ly) : Int := if duFault d ≠ 0 then duFault d else if 300 < l.length then 2 else if lysErr d l ≠ 0 then lysErr d l else if fullL d l then 12 else 0

structure DuOk (d : List Du) : Prop where
  rise : Rise Du.key d
  len : d.length ≤ 300
  each : ∀ x ∈ d, keyB x.key = true ∧ 1 ≤ x.long ∧ x.long ≤ 200000 ∧ 1 ≤ x.inner ∧ x.inner ≤ 1000
theorem duErr_ok {f : Bool} {b : ByteArray} {x : Du} (h : duErr f b x = 0) : keyB x.key = true ∧ 1 ≤ x.long ∧ x.long ≤ 200000 ∧ 1 ≤ x.inner ∧ x.inner ≤ 1000 ∧ (f = false → ltB b x.key = true) := by
  unfold duErr at h
  split at h
  · omega
  · split at h
    · omega
    · split at h
      · omega
      · split at h
        · omega
        · rename_i h1 h2 h3 h4
          simp only [Bool.or_eq_true, Bool.not_eq_true', not_or, Bool.not_eq_false] at h1
          refine ⟨h1.1.1, by omega, by omega, by omega, by omega, fun hf => ?_⟩
          subst hf
          simp at h4
          exact leB_not.1 h4
theorem duFault_ok {d : List Du} (h : duFault d = 0) : DuOk d := by
  unfold duFault at h
  split at h
  · omega
  · refine ⟨seqErr_rise (fun b x hx => (duErr_ok hx).2.2.2.2.2 rfl) h, by omega, fun x hx => ?_⟩
    obtain ⟨f, b, h1⟩ := seqErr_all h x hx
    have := duErr_ok h1
    exact ⟨this.1, this.2.1, this.2.2.1, this.2.2.2.1, this.2.2.2.2.1⟩
theorem hasD_iff {d : List Du} {k : ByteArray} : hasD d k = true ↔ ∃ x ∈ d, x.key = k := by
  unfold hasD duAt
  rw [List.find?_isSome]; simp
theorem duAt_mem {d : List Du} (h : DuOk d) {x : Du} (hx : x ∈ d) : duAt d x.key = some x := rise_find h.rise hx
theorem duG_mem {d : List Du} (h : DuOk d) {x : Du} (hx : x ∈ d) : duG d x.key = x := by unfold duG; rw [duAt_mem h hx]; rfl
theorem keyErr_ok {has : ByteArray → Bool} {f : Bool} {b k : ByteArray} (h : keyErr has f b k = 0) : has k = true ∧ (f = false → ltB b k = true) := by
  unfold keyErr at h
  split at h
  · omega
  · split at h
    · omega
    · rename_i h1 h2
      refine ⟨by simpa using h1, fun hf => ?_⟩
      subst hf
      simp at h2
      exact leB_not.1 h2
structure LyX (d : List Du) (x : Ly) : Prop where
  out : 1 ≤ x.outer ∧ x.outer ≤ 1000
  len : x.ducts.length ≤ 300
  rise : Rise id x.ducts
  has : ∀ k ∈ x.ducts, hasD d k = true
theorem lyErr_ok {d : List Du} {f : Bool} {b : ByteArray} {x : Ly} (h : lyErr d f b x = 0) : LyX d x ∧ keyB x.cable = true ∧ (f = false → ltB b x.cable = true) := by
  unfold lyErr cabErr at h
  split at h
  · omega
  · split at h
    · omega
    · split at h
      · omega
      · split at h
        · omega
        · split at h
          · omega
          · rename_i h1 h2 h3 h4 h5
            refine ⟨⟨by omega, by omega, seqErr_rise (fun b k hk => (keyErr_ok hk).2 rfl) h, fun k hk => ?_⟩, by simpa using h1, fun hf => ?_⟩
            · obtain ⟨f, b, h1⟩ := seqErr_all h k hk
              exact (keyErr_ok h1).1
            · subst hf
              simp at h2
              exact leB_not.1 h2
structure LyOk (d : List Du) (l : List Ly) : Prop where
  du : DuOk d
  len : l.length ≤ 300
  rise : Rise Ly.cable l
  each : ∀ x ∈ l, LyX d x
  few : ∀ x ∈ d, (inL l x.key).length ≤ 20
theorem lysErr_ok {d : List Du} {l : List Ly} (h : lysErr d l = 0) : Rise Ly.cable l ∧ ∀ x ∈ l, LyX d x := by
  refine ⟨seqErr_rise (fun b x hx => (lyErr_ok hx).2.2 rfl) h, fun x hx => ?_⟩
  obtain ⟨f, b, h1⟩ := seqErr_all h x hx
  exact (lyErr_ok h1).1
theorem lyFault_ok {d : List Du} {l : List Ly} (h : lyFault d l = 0) : LyOk d l := by
  unfold lyFault at h
  split at h
  · omega
  · split at h
    · omega
    · split at h
      · omega
      · split at h
        · omega
        · rename_i h1 h2 h3 h4
          obtain ⟨h5, h6⟩ := lysErr_ok (show lysErr d l = 0 by omega)
          refine ⟨duFault_ok (by omega), by omega, h5, h6, fun x hx => ?_⟩
          unfold fullL at h4
          rw [List.any_eq_true] at h4
          rcases Nat.lt_or_ge 20 (inL l x.key).length with h7 | h7
          · exact absurd ⟨x, hx, by simpa using h7⟩ h4
          · exact h7
theorem count_nd {k : ByteArray} : ∀ {l : List ByteArray}, l.Nodup → l.count k = if k ∈ l then 1 else 0
  | [], _ => by simp
  | a :: r, h => by
    obtain ⟨h1, h2⟩ := List.nodup_cons.1 h
    rw [List.count_cons, count_nd h2]
    by_cases e : a = k
    · subst e; simp [h1]
    · have e' : ¬ k = a := fun x => e x.symm
      simp [e, e']
theorem flat_count {d : List Du} {k : ByteArray} : ∀ {l : List Ly}, (∀ x ∈ l, LyX d x) → (l.flatMap Ly.ducts).count k = (inL l k).length
  | [], _ => by simp [inL]
  | a :: r, h => by
    have ih := flat_count (k := k) (l := r) (fun x hx => h x (by simp [hx]))
    have hn : a.ducts.Nodup := by have := rise_nodup (h a (by simp)).rise; simpa using this
    rw [List.flatMap_cons, List.count_append, ih, count_nd hn]
    unfold inL
    rw [List.filter_cons]
    by_cases e : k ∈ a.ducts <;> simp [e]; omega
def manyB (ks : List ByteArray) : Bool := ks.any fun k => decide (20 < ks.count k)
theorem many_full {d : List Du} {l : List Ly} (h : ∀ x ∈ l, LyX d x) : manyB (l.flatMap Ly.ducts) = fullL d l := by
  rw [Bool.eq_iff_iff]
  unfold manyB fullL
  rw [List.any_eq_true, List.any_eq_true]
  constructor
  · rintro ⟨k, hk, h1⟩
    obtain ⟨x, hx, hkx⟩ := List.mem_flatMap.1 hk
    obtain ⟨y, hy, rfl⟩ := hasD_iff.1 ((h x hx).has k hkx)
    refine ⟨y, hy, ?_⟩
    rw [flat_count h] at h1; exact h1
  · rintro ⟨x, hx, h1⟩
    rw [← flat_count h] at h1
    have h2 : 20 < (l.flatMap Ly.ducts).count x.key := by simpa using h1
    exact ⟨x.key, List.count_pos_iff.1 (by omega), h1⟩
theorem many_push (ks : List ByteArray) (k : ByteArray) : manyB (ks ++ [k]) = (manyB ks || decide (20 < ks.count k + 1)) := by
  rw [Bool.eq_iff_iff, Bool.or_eq_true]
  unfold manyB
  rw [List.any_eq_true, List.any_eq_true]
  simp only [decide_eq_true_eq, List.count_append]
  constructor
  · rintro ⟨x, hx, h⟩
    by_cases e : x = k
    · subst e; right; simpa using h
    · left
      have : [k].count x = 0 := by rw [List.count_eq_zero]; simpa using e
      rw [this] at h
      refine ⟨x, ?_, by omega⟩
      exact List.count_pos_iff.1 (by omega)
  · rintro (⟨x, hx, h⟩ | h)
    · exact ⟨x, by simp [hx], by omega⟩
    · exact ⟨k, by simp, by simpa using h⟩

theorem sum_take {α : Type} (f : α → Int) (l : List α) (k : Nat) (h : k < l.length) : ((l.take (k + 1)).map f).sum = ((l.take k).map f).sum + f l[k] := by
  rw [List.take_succ_eq_append_getElem h, List.map_append, List.sum_append]; simp
theorem sum_in {α : Type} {f : α → Int} {B : Int} : ∀ {l : List α}, (∀ x ∈ l, 0 ≤ f x ∧ f x ≤ B) → 0 ≤ (l.map f).sum ∧ (l.map f).sum ≤ B * l.length
  | [], _ => by simp
  | x :: r, h => by
    have h1 := h x (by simp)
    have ih := sum_in (l := r) (fun y hy => h y (by simp [hy]))
    simp only [List.map_cons, List.sum_cons, List.length_cons]
    have : B * ((r.length + 1 : Nat) : Int) = B * r.length + B := by rw [Int.natCast_add, Int.mul_add]; simp
    omega
def sqV (l : List Int) : Int := (l.map fun x => x * x).sum
def partV (n : Nat) : Int := if n = 1 then 53 else if n = 2 then 31 else 40
def roomB (inner : Int) (l : List Int) : Bool := decide (100 * sqV l ≤ partV l.length * inner * inner) && !(l.any fun n => decide (inner < n))
def mostV (inner : Int) (all : List Int) (outer : Int) : Nat → Nat
  | 0 => 0
  | n + 1 => if roomB inner (all ++ List.replicate (n + 1) outer) then n + 1 else mostV inner all outer n
theorem sq_in {l : List Int} (h : ∀ x ∈ l, 0 ≤ x ∧ x ≤ 1000) : 0 ≤ sqV l ∧ sqV l ≤ 1000000 * l.length := by
  refine sum_in fun x hx => ?_
  have := h x hx
  exact ⟨Int.mul_nonneg this.1 this.1, by have := Int.mul_le_mul this.2 this.2 this.1 (by omega : (0 : Int) ≤ 1000); omega⟩
def outV (l : List Ly) (k : ByteArray) : List Int := (inL l k).map Ly.outer
end Go.Proofs.YtilfcojhdhgmfaaGreatDoor

namespace Go.Proofs.YtilfcojhdhgmfaaGreatDoor
set_option linter.unusedVariables false
set_option linter.unusedSimpArgs false
open Abs

def isStr (t : S) : Prop := ∃ key : ByteArray, t = .c (.str key)
set_option maxRecDepth 100000 in
set_option maxHeartbeats 4000000 in
theorem bsDu_pc (g : Nat) (c : Du → Int) (t : S) (l : List Du) (hl : l.length ≤ 1000000) (hmono : ∀ i j (hj : j < l.length) (hij : i ≤ j), c l[j] < 0 → c (l[i]'(by omega)) < 0) (ht : isStr t) (hg : ∀ x ∈ l, PCp g [.agg (encDu x), t] [] (.c (.int .i64 (c x))) []) :
    PCp 222 [.c (.lst 5 (l.map encDu)), t, .c (.fn g [])] [] (.tup [.c (.int .i64 ((cntL c l : Nat) : Int)), .c (.bool (hitL c l))]) [] := by
  have hlm : (l.map encDu).length = l.length := List.length_map ..
  obtain ⟨key, rfl⟩ := ht
  refine fn_sound (mt := mts) tab_fits tab_mixed Tryz.func222 (by rfl) (by kernel_rfl) (by kernel_rfl) Tryz.results222 (Nat.le_of_ble_eq_true (by kernel_rfl)) ?_
  conv => whnf
  refine loop_meas2 (fun (i : Nat) (j : Nat) => j - i) [] [0, 1, 2, 8, 9, 10] (fun (i : Nat) (j : Nat) => ⟨[(0, .c (.lst 5 (l.map encDu))), (1, .c (.str key)), (2, .c (.fn g [])), (8, .c (.int .i64 (l.map encDu).length)), (9, .c (.int .i64 ((i : Nat) : Int))), (10, .c (.int .i64 ((j : Nat) : Int)))], [], 0⟩) (fun (i : Nat) (j : Nat) => i ≤ j ∧ j ≤ l.length ∧ (∀ k (h : k < l.length), k < i → c l[k] < 0) ∧ (∀ k (h : k < l.length), j ≤ k → ¬ c l[k] < 0)) (0) (l.length) ?_ ?_
  · conv => whnf
    exact ⟨by rw [hlm]; rfl, Nat.zero_le _, Nat.le_refl _, by intro k h h2; omega, by intro k h h2; omega⟩
  · intro i j ⟨h1, h2, h3, h4⟩
    have hmid := mid_eq (i := i) (j := j) (by omega)
    conv => whnf
    repeat' (first | (refine .mk (fun h => ?_) (fun h => ?_) <;> (try simp only [decide_eq_true_eq, decide_eq_false_iff_not, Bool.not_eq_true', Bool.not_eq_false', beq_iff_eq, beq_eq_false_iff_ne, bne_iff_ne, bne_eq_false_iff_eq] at h) <;> (first | (exfalso; first | omega | exact h trivial) | (conv => whnf))) | (refine .mk (by first | omega | (unfold roomOK; simp [cutRows]; done) | (unfold roomOK; simp [cutRows]; omega) | (simp [cutRows]; done) | (simp [cutRows]; omega)) ?_; conv => whnf) | (refine idx_at _ (by with_reducible rfl) (by first | assumption | omega) ?_; conv => whnf) | fail)
    · rw [hmid]
      refine idx_map ((i + j) / 2) (by omega) rfl ?_
      conv => whnf
      repeat' (first | (refine .mk (fun h => ?_) (fun h => ?_) <;> (try simp only [decide_eq_true_eq, decide_eq_false_iff_not, Bool.not_eq_true', Bool.not_eq_false', beq_iff_eq, beq_eq_false_iff_ne] at h) <;> (first | (exfalso; first | omega | exact h trivial) | (conv => whnf))) | (refine .mk _ _ (by exact hg (l[(i + j) / 2]'(by omega)) (List.getElem_mem _)) ?_; conv => whnf) | fail)
      · exact meas_next ((i + j) / 2 + 1, j) (by simp only; omega) (by rw [wrap_succ (n := l.length) (by omega) (by omega)]; rfl) ⟨by simp only; omega, h2, fun k hk hki => hmono k ((i + j) / 2) (by omega) (by simp only at hki; omega) h, h4⟩
      · exact meas_next (i, (i + j) / 2) (by simp only; omega) rfl ⟨by simp only; omega, by simp only; omega, h3, fun k hk hki => fun hc => h (hmono ((i + j) / 2) k hk hki hc)⟩
    all_goals
      have hij : i = j := by omega
      subst hij
      have hci : cntL c l = i := cntL_at h2 h3 h4
    · repeat' (first
        | (refine Split.mk (fun h => ?_) (fun h => ?_) <;> (try simp only [decide_eq_true_eq, decide_eq_false_iff_not, Bool.not_eq_true', Bool.not_eq_false', beq_iff_eq, beq_eq_false_iff_ne, bne_iff_ne, bne_eq_false_iff_eq] at h) <;> (first | (exfalso; first | omega | exact h trivial) | (conv => whnf)))
        | (refine CondG.mk (fun h => ?_) (fun h => ?_) <;> (try simp only [decide_eq_true_eq, decide_eq_false_iff_not, Bool.not_eq_true', Bool.not_eq_false', beq_iff_eq, beq_eq_false_iff_ne, bne_iff_ne, bne_eq_false_iff_eq] at h) <;> (first | (exfalso; first | omega | exact h trivial) | (conv => whnf)))
        | (refine CallX.mk _ _ (by first | exact hg (l[i]'(by omega)) (List.getElem_mem _)) ?_; conv => whnf)
        | (refine CallG.mk _ _ (by first | exact hg (l[i]'(by omega)) (List.getElem_mem _)) ?_; conv => whnf)
        | (refine Ask.mk (by first | omega | (unfold roomOK; simp [cutRows]; done) | (unfold roomOK; simp [cutRows]; omega) | (simp [cutRows]; done) | (simp [cutRows]; omega)) ?_; conv => whnf)
        | (refine AppG.mk (by first | omega | (unfold roomOK; simp [cutRows]; done) | (unfold roomOK; simp [cutRows]; omega) | (simp [cutRows]; done) | (simp [cutRows]; omega)) ?_; conv => whnf)
        | (refine SliceG.fr ?_; conv => whnf)
        | (refine BuildG.fr ?_; conv => whnf)
        | (refine idx_at _ (by with_reducible rfl) (by first | assumption | omega) ?_; conv => whnf)
        | ((with_reducible refine row_map (by first | assumption | omega) ?_); conv => whnf)
        | ((with_reducible refine row_set (by first | assumption | omega | (simp only [List.length_set]; omega) | (simp; omega)) ?_); conv => whnf)
        | fail)
      exact .mk ⟨by rw [hitL, hci, List.getElem?_eq_getElem (show i < l.length by omega)]; rfl, rfl⟩
    · exact .mk ⟨by rw [hitL, hci, List.getElem?_eq_none (show l.length ≤ i by omega)]; rfl, rfl⟩
end Go.Proofs.YtilfcojhdhgmfaaGreatDoor

namespace Go.Proofs.YtilfcojhdhgmfaaGreatDoor
set_option linter.unusedVariables false
set_option linter.unusedSimpArgs false
open Abs

set_option maxRecDepth 100000 in
set_option maxHeartbeats 4000000 in
theorem isNaNS_pc (s : ByteArray) : PCp 258 [.c (.str s)] [] (.c (.bool false)) [] := by
  refine fn_sound (mt := mts) tab_fits tab_mixed Tryz.func258 (by rfl) (by kernel_rfl) (by kernel_rfl) Tryz.results258 (Nat.le_of_ble_eq_true (by kernel_rfl)) ?_
  conv => whnf
  exact finb (by simp)
set_option maxRecDepth 100000 in
set_option maxHeartbeats 4000000 in
theorem cisNaNS_pc (s : ByteArray) : PCp 253 [.c (.str s)] [] (.c (.bool false)) [] := by
  refine fn_sound (mt := mts) tab_fits tab_mixed Tryz.func253 (by rfl) (by kernel_rfl) (by kernel_rfl) Tryz.results253 (Nat.le_of_ble_eq_true (by kernel_rfl)) ?_
  conv => whnf
  exact finb (by simp)
set_option maxRecDepth 100000 in
set_option maxHeartbeats 4000000 in
theorem lessS_pc (a b : ByteArray) : PCp 204 [.c (.str a), .c (.str b)] [] (.c (.bool (ltB a b))) [] := by
  refine fn_sound (mt := mts) tab_fits tab_mixed Tryz.func204 (by rfl) (by kernel_rfl) (by kernel_rfl) Tryz.results204 (Nat.le_of_ble_eq_true (by kernel_rfl)) ?_
  conv => whnf
  repeat' (first | (refine .mk (fun h => ?_) (fun h => ?_) <;> (try simp only [decide_eq_true_eq, decide_eq_false_iff_not, Bool.not_eq_true', Bool.not_eq_false', beq_iff_eq, beq_eq_false_iff_ne, bne_iff_ne, bne_eq_false_iff_eq] at h) <;> (first | (exfalso; first | omega | exact h trivial) | (conv => whnf))) | (refine .mk _ _ (by exact cisNaNS_pc _) ?_; conv => whnf) | fail)
  all_goals exact finb (by simp_all [ltB])
def cntS (t : ByteArray) (l : List ByteArray) : Nat := cntL (fun x => if ltB x t then -1 else if x.toList = t.toList then 0 else 1) l
def hitS (t : ByteArray) (l : List ByteArray) : Bool := hitL (fun x => if ltB x t then -1 else if x.toList = t.toList then 0 else 1) l
set_option maxRecDepth 100000 in
set_option maxHeartbeats 4000000 in
theorem binS_pc (t : ByteArray) (l : List ByteArray) (hl : l.length ≤ 1000000) (hmono : ∀ i j (hj : j < l.length) (hij : i ≤ j), ltB l[j] t = true → ltB (l[i]'(by omega)) t = true) :
    PCp 219 [.c (.lst 1 (l.map encS)), .c (.str t)] [] (.tup [.c (.int .i64 ((cntS t l : Nat) : Int)), .c (.bool (hitS t l))]) [] := by
  have hlm : (l.map encS).length = l.length := List.length_map ..
  have hc : ∀ x : ByteArray, (if ltB x t then (-1 : Int) else if x.toList = t.toList then 0 else 1) < 0 ↔ ltB x t = true := by
    intro x; split
    · simp_all
    · split <;> simp_all
  refine fn_sound (mt := mts) tab_fits tab_mixed Tryz.func219 (by rfl) (by kernel_rfl) (by kernel_rfl) Tryz.results219 (Nat.le_of_ble_eq_true (by kernel_rfl)) ?_
  conv => whnf
  refine loop_meas2 (fun (i : Nat) (j : Nat) => j - i) [] [0, 1, 6, 7, 8] (fun (i : Nat) (j : Nat) => ⟨[(0, .c (.lst 1 (l.map encS))), (1, .c (.str t)), (6, .c (.int .i64 (l.map encS).length)), (7, .c (.int .i64 ((i : Nat) : Int))), (8, .c (.int .i64 ((j : Nat) : Int)))], [], 0⟩) (fun (i : Nat) (j : Nat) => i ≤ j ∧ j ≤ l.length ∧ (∀ k (h : k < l.length), k < i → ltB l[k] t = true) ∧ (∀ k (h : k < l.length), j ≤ k → ¬ ltB l[k] t = true)) (0) (l.length) ?_ ?_
  · conv => whnf
    exact ⟨by rw [hlm]; rfl, Nat.zero_le _, Nat.le_refl _, by intro k h h2; omega, by intro k h h2; omega⟩
  · intro i j ⟨h1, h2, h3, h4⟩
    have hmid := mid_eq (i := i) (j := j) (by omega)
    conv => whnf
    repeat' (first | (refine .mk (fun h => ?_) (fun h => ?_) <;> (try simp only [decide_eq_true_eq, decide_eq_false_iff_not, Bool.not_eq_true', Bool.not_eq_false', beq_iff_eq, beq_eq_false_iff_ne, bne_iff_ne, bne_eq_false_iff_eq] at h) <;> (first | (exfalso; first | omega | exact h trivial) | (conv => whnf))) | (refine .mk (by first | omega | (unfold roomOK; simp [cutRows]; done) | (unfold roomOK; simp [cutRows]; omega) | (simp [cutRows]; done) | (simp [cutRows]; omega)) ?_; conv => whnf) | (refine idx_at _ (by with_reducible rfl) (by first | assumption | omega) ?_; conv => whnf) | fail)
    · rw [hmid]
      refine idx_map ((i + j) / 2) (by omega) rfl ?_
      conv => whnf
      repeat' (first | (refine .mk (fun h => ?_) (fun h => ?_) <;> (try simp only [decide_eq_true_eq, decide_eq_false_iff_not, Bool.not_eq_true', Bool.not_eq_false', beq_iff_eq, beq_eq_false_iff_ne] at h) <;> (first | (exfalso; first | omega | exact h trivial) | (conv => whnf))) | (refine .mk _ _ (by exact lessS_pc _ _) ?_; conv => whnf) | fail)
      · exact meas_next ((i + j) / 2 + 1, j) (by simp only; omega) (by rw [wrap_succ (n := l.length) (by omega) (by omega)]; rfl) ⟨by simp only; omega, h2, fun k hk hki => hmono k ((i + j) / 2) (by omega) (by simp only at hki; omega) h, h4⟩
      · exact meas_next (i, (i + j) / 2) (by simp only; omega) rfl ⟨by simp only; omega, by simp only; omega, h3, fun k hk hki => fun hc => (by rw [hmono ((i + j) / 2) k hk hki hc] at h; cases h)⟩
    all_goals
      have hij : i = j := by omega
      subst hij
      have hci : cntS t l = i := cntL_at h2 (fun k hk hki => (hc _).2 (h3 k hk hki)) (fun k hk hki => fun e => h4 k hk hki ((hc _).1 e))
    · have hh : hitS t l = true := by
        unfold hitS hitL
        unfold cntS at hci
        rw [hci, List.getElem?_eq_getElem (show i < l.length by omega)]
        have h5 : ltB (l[i]'(by omega)) t = false := by simpa using h4 i (by omega) (Nat.le_refl _)
        have h6 : (l[i]'(by omega)).toList = t.toList := by assumption
        simp [h5, h6]
      exact .mk ⟨by rw [hci, hh]; rfl, rfl⟩
    · have hh : hitS t l = false := by
        unfold hitS hitL
        unfold cntS at hci
        rw [hci, List.getElem?_eq_getElem (show i < l.length by omega)]
        have h5 : ltB (l[i]'(by omega)) t = false := by simpa using h4 i (by omega) (Nat.le_refl _)
        have h6 : ¬ (l[i]'(by omega)).toList = t.toList := by assumption
        simp [h5, h6]
      repeat' (first | (refine .mk (fun h => ?_) (fun h => ?_) <;> (try simp only [decide_eq_true_eq, decide_eq_false_iff_not, Bool.not_eq_true', Bool.not_eq_false', beq_iff_eq, beq_eq_false_iff_ne, bne_iff_ne, bne_eq_false_iff_eq] at h) <;> (first | (exfalso; first | omega | exact h trivial) | (conv => whnf))) | (refine .mk _ _ (by exact isNaNS_pc _) ?_; conv => whnf) | fail)
      all_goals exact .mk ⟨by rw [hci, hh]; rfl, rfl⟩
    · exact .mk ⟨by rw [hci]; unfold hitS hitL; unfold cntS at hci; rw [hci, List.getElem?_eq_none (show l.length ≤ i by omega)]; rfl, rfl⟩
set_option maxRecDepth 100000 in
set_option maxHeartbeats 4000000 in
theorem cloneI_pc (l : List Int) (hl : l.length ≤ 1000000) : PCp 179 [.c (.lst 1 (l.map encI))] [] (.c (.row 0)) [.row 3 1 (l.map encI)] := by
  have hlm : (l.map encI).length = l.length := List.length_map ..
  refine fn_sound (mt := mts) tab_fits tab_mixed Tryz.func179 (by rfl) (by kernel_rfl) (by kernel_rfl) Tryz.results179 (Nat.le_of_ble_eq_true (by kernel_rfl)) ?_
  conv => whnf
  refine .mk (fun h => ?_) ?_
  · conv => whnf
    exact .own 3 1 rfl rfl (by rw [h]; rfl)
  · conv => whnf
    repeat' (first | (refine .mk (by first | omega | (unfold roomOK; simp [cutRows]; done) | (unfold roomOK; simp [cutRows]; omega)) ?_; conv => whnf) | fail)
    exact .mk ⟨rfl, rfl⟩
end Go.Proofs.YtilfcojhdhgmfaaGreatDoor

namespace Go.Proofs.YtilfcojhdhgmfaaGreatDoor
set_option linter.unusedVariables false
set_option linter.unusedSimpArgs false
open Abs

end Go.Proofs.YtilfcojhdhgmfaaGreatDoor

namespace Go.Proofs.YtilfcojhdhgmfaaGreatDoor
set_option linter.unusedVariables false
set_option linter.unusedSimpArgs false
open Abs

set_option maxRecDepth 100000 in
set_option maxHeartbeats 4000000 in
theorem indexS_pc (v : ByteArray) (l : List ByteArray) (hl : l.length ≤ 1000000) : PCp 141 [.c (.lst 1 (l.map encS)), .c (.str v)] [] (.c (.int .i64 (idxP (fun x => decide (v = x)) l))) [] := by
  have hlm : (l.map encS).length = l.length := List.length_map ..
  refine fn_sound (mt := mts) tab_fits tab_mixed Tryz.func141 (by rfl) (by kernel_rfl) (by kernel_rfl) Tryz.results141 (Nat.le_of_ble_eq_true (by kernel_rfl)) ?_
  conv => whnf
  refine loop_for (l.length) [] [0, 1, 7, 8] (fun k (_ : Unit) => [(8, .c (.int .i64 (k : Int)))]) (fun k (_ : Unit) => []) (fun k (_ : Unit) => ∀ i (hi : i < l.length), i < k → (decide (v = l[i])) = false) (()) ?_
  conv => whnf
  refine ⟨(by first | rfl | (simp; done) | (simp; rfl)), ?_, ?_, ?_⟩
  · intro i hi h; omega
  · intro k _ hk hi
    conv => whnf
    repeat' (first | (refine .mk (fun h => ?_) (fun h => ?_) <;> (try simp only [decide_eq_true_eq, decide_eq_false_iff_not, Bool.not_eq_true', Bool.not_eq_false', beq_iff_eq, beq_eq_false_iff_ne, bne_iff_ne, bne_eq_false_iff_eq] at h) <;> (first | (exfalso; first | omega | exact h trivial) | (conv => whnf))) | (refine idx_at _ (by with_reducible rfl) (by first | assumption | omega) ?_; conv => whnf) | fail)
    · exact fini (idxP_hit (p := fun x => decide (v = x)) hk (fun i hi' => hi i (by omega) hi') (by simpa [toList_eq'] using h)).symm
    · refine count_next () hk (by rw [wrap_succ hk (by omega)]; rfl) ?_
      exact all_succ' (p := fun x => decide (v = x)) hi (by simpa [toList_eq'] using h)
  · intro _ hi
    conv => whnf
    repeat' (first | (refine .mk (fun h => ?_) (fun h => ?_) <;> (try simp only [decide_eq_true_eq, decide_eq_false_iff_not, Bool.not_eq_true', Bool.not_eq_false', beq_iff_eq, beq_eq_false_iff_ne] at h) <;> (first | (exfalso; first | omega | exact h trivial) | (conv => whnf))) | fail)
    exact fini (idxP_miss (p := fun x => decide (v = x)) (fun i h => hi i h h)).symm
set_option maxRecDepth 100000 in
set_option maxHeartbeats 4000000 in
theorem containsS_pc (v : ByteArray) (l : List ByteArray) (hl : l.length ≤ 1000000) : PCp 82 [.c (.lst 1 (l.map encS)), .c (.str v)] [] (.c (.bool (decide (v ∈ l)))) [] := by
  refine fn_sound (mt := mts) tab_fits tab_mixed Tryz.func82 (by rfl) (by kernel_rfl) (by kernel_rfl) Tryz.results82 (Nat.le_of_ble_eq_true (by kernel_rfl)) ?_
  conv => whnf
  repeat' (first | (refine .mk _ _ (by exact indexS_pc v l hl) ?_; conv => whnf) | fail)
  refine finb ?_
  rw [idxP_any, Bool.eq_iff_iff, List.any_eq_true, decide_eq_true_eq]
  exact ⟨fun ⟨x, hx, h⟩ => by simp at h; subst h; exact hx, fun h => ⟨v, h, by simp⟩⟩
theorem squares_b {l : List Int} (h : ∀ x ∈ l, 0 ≤ x ∧ x ≤ 1000) (hl : l.length ≤ 1000000) {k : Nat} (hk : k < l.length) : IntKind.i64.wrap (sqV (l.take k) + IntKind.i64.wrap (l[k] * l[k])) = sqV (l.take (k + 1)) := by
  have h1 := h l[k] (List.getElem_mem hk)
  have h2 : 0 ≤ l[k] * l[k] := Int.mul_nonneg h1.1 h1.1
  have h3 := Int.mul_le_mul h1.2 h1.2 h1.1 (by omega : (0 : Int) ≤ 1000)
  have h4 := sq_in (l := l.take k) (fun x hx => h x (List.mem_of_mem_take hx))
  have h5 : (l.take k).length ≤ 1000000 := by rw [List.length_take]; omega
  rw [wrap_in (x := l[k] * l[k]) (by omega) (by omega), wrap_in (by omega) (by omega)]
  exact (sum_take (fun x => x * x) l k hk).symm
set_option maxRecDepth 100000 in
set_option maxHeartbeats 4000000 in
theorem dSquares_pc (l : List Int) (hb : ∀ x ∈ l, 0 ≤ x ∧ x ≤ 1000) (hl : l.length ≤ 1000000) : PCp 145 [.c (.lst 1 (l.map encI))] [] (.c (.int .i64 (sqV l))) [] := by
  have hlm : (l.map encI).length = l.length := List.length_map ..
  refine fn_sound (mt := mts) tab_fits tab_mixed Tryz.func145 (by rfl) (by kernel_rfl) (by kernel_rfl) Tryz.results145 (Nat.le_of_ble_eq_true (by kernel_rfl)) ?_
  conv => whnf
  refine loop_for (l.length) [] [3, 6, 7, 8] (fun k (_ : Unit) => [(3, .c (.int .i64 (sqV (l.take k)))), (8, .c (.int .i64 (k : Int)))]) (fun k (_ : Unit) => []) (fun k (_ : Unit) => True) (()) ?_
  conv => whnf
  refine ⟨(by first | rfl | (simp; done) | (simp; rfl)), (by trivial), ?_, ?_⟩
  · intro k _ hk _
    conv => whnf
    repeat' (first | (refine .mk (fun h => ?_) (fun h => ?_) <;> (try simp only [decide_eq_true_eq, decide_eq_false_iff_not, Bool.not_eq_true', Bool.not_eq_false', beq_iff_eq, beq_eq_false_iff_ne, bne_iff_ne, bne_eq_false_iff_eq] at h) <;> (first | (exfalso; first | omega | exact h trivial) | (conv => whnf))) | (refine idx_at _ (by with_reducible rfl) (by first | assumption | omega) ?_; conv => whnf) | fail)
    exact count_next () hk (by rw [wrap_succ hk (by omega), squares_b hb hl hk]; rfl) trivial
  · intro _ _
    conv => whnf
    repeat' (first | (refine .mk (fun h => ?_) (fun h => ?_) <;> (try simp only [decide_eq_true_eq, decide_eq_false_iff_not, Bool.not_eq_true', Bool.not_eq_false', beq_iff_eq, beq_eq_false_iff_ne, bne_iff_ne, bne_eq_false_iff_eq] at h) <;> (first | (exfalso; first | omega | exact h trivial) | (conv => whnf))) | fail)
    exact fini (by rw [List.take_length])
end Go.Proofs.YtilfcojhdhgmfaaGreatDoor

namespace Go.Proofs.YtilfcojhdhgmfaaGreatDoor
set_option linter.unusedVariables false
set_option linter.unusedSimpArgs false
open Abs

theorem k0 {k : Nat} : decide ((0 : Int) < (k : Int)) = !decide (k = 0) := by
  rw [Bool.eq_iff_iff]; simp; omega
theorem seq_hit {α : Type} {e : Bool → ByteArray → α → Int} {key : α → ByteArray} {l : List α} {k : Nat} {f : Bool} {b : ByteArray} {r v : Int} (hk : k < l.length) (hi : seqErr e key f b (l.drop k) = r) (hv : e f b l[k] = v) (h0 : v ≠ 0) : v = r := by
  rw [seqErr_drop hk, hv, if_neg h0] at hi; exact hi
theorem seq_next {α : Type} {e : Bool → ByteArray → α → Int} {key : α → ByteArray} {l : List α} {k : Nat} {f : Bool} {b : ByteArray} {r : Int} (hk : k < l.length) (hi : seqErr e key f b (l.drop k) = r) (hv : e f b l[k] = 0) : seqErr e key false (key l[k]) (l.drop (k + 1)) = r := by
  rw [seqErr_drop hk, hv, if_pos rfl] at hi; exact hi
theorem seq_next' {α : Type} {e : Bool → ByteArray → α → Int} {key : α → ByteArray} {l : List α} {k : Nat} {f : Bool} {b : ByteArray} {r : Int} (hk : k < l.length) (hi : seqErr e key f b (l.drop k) = r) (hv : e f b l[k] = 0) : seqErr e key (decide (k + 1 = 0)) (befK key l (k + 1)) (l.drop (k + 1)) = r := by
  rw [befK_succ hk]; exact seq_next hk hi hv
theorem seq_end {α : Type} {e : Bool → ByteArray → α → Int} {key : α → ByteArray} {l : List α} {f : Bool} {b : ByteArray} {r : Int} (hi : seqErr e key f b (l.drop l.length) = r) : r = 0 := by
  rw [List.drop_of_length_le (Nat.le_refl _)] at hi; exact hi.symm
set_option maxRecDepth 100000 in
set_option maxHeartbeats 4000000 in
theorem checkDucts_pc (d : List Du) : PCp 134 [.c (.lst 5 (d.map encDu))] [] (.c (.int .i64 (duFault d))) [] := by
  have hlm : (d.map encDu).length = d.length := List.length_map ..
  refine fn_sound (mt := mts) tab_fits tab_mixed Tryz.func134 (by rfl) (by kernel_rfl) (by kernel_rfl) Tryz.results134 (Nat.le_of_ble_eq_true (by kernel_rfl)) ?_
  conv => whnf
  repeat' (first | (refine .mk (fun h => ?_) (fun h => ?_) <;> (try simp only [decide_eq_true_eq, decide_eq_false_iff_not, Bool.not_eq_true', Bool.not_eq_false', beq_iff_eq, beq_eq_false_iff_ne, bne_iff_ne, bne_eq_false_iff_eq] at h) <;> (first | (exfalso; first | omega | exact h trivial) | (conv => whnf))) | fail)
  · exact fini (by rw [duFault, if_pos (by omega)])
  have hF : duFault d = seqErr duErr Du.key true ⟨#[]⟩ d := by rw [duFault, if_neg (by omega)]
  refine loop_for (d.length) [] [0, 8, 9, 10] (fun k (_ : Unit) => [(10, .c (.int .i64 (k : Int)))]) (fun k (_ : Unit) => []) (fun k (_ : Unit) => seqErr duErr Du.key (decide (k = 0)) (befK Du.key d k) (d.drop k) = duFault d) (()) ?_
  conv => whnf
  refine ⟨(by first | rfl | (simp; done) | (simp; rfl)), ?_, ?_, ?_⟩
  · exact hF.symm
  · intro k _ hk hi
    conv => whnf
    repeat' (first | (refine .mk (fun h => ?_) (fun h => ?_) <;> (try simp only [decide_eq_true_eq, decide_eq_false_iff_not, Bool.not_eq_true', Bool.not_eq_false', beq_iff_eq, beq_eq_false_iff_ne, bne_iff_ne, bne_eq_false_iff_eq] at h) <;> (first | (exfalso; first | omega | exact h trivial) | (conv => whnf))) | (refine .mk _ _ (by first | exact bKey_pc _ | exact bOut_pc _ _ _) ?_; conv => whnf) | (refine idx_at _ (by with_reducible rfl) (by first | assumption | omega) ?_; conv => whnf) | ((refine idx_map (k - 1) (by omega) (by rw [wrap_in (by omega) (by omega)]; omega) ?_); conv => whnf) | fail)
    all_goals try simp only [toList_eq'] at *
    all_goals have hb := befK_pos (key := Du.key) (l := d) (Nat.le_of_lt hk)
    all_goals first
      | (refine fini (seq_hit hk hi ?_ (by decide)); clear hi hF; unfold duErr; (try rw [hb (by omega)]); (repeat' split) <;> first | rfl | (exfalso; first | omega | (simp_all [leB, toList_eq']; done) | (simp_all [leB, toList_eq']; omega)))
      | (refine count_next () hk (by rw [wrap_succ hk (by omega)]; rfl) (seq_next' hk hi ?_); clear hi hF; unfold duErr; (try rw [hb (by omega)]); (repeat' split) <;> first | rfl | (exfalso; first | omega | (simp_all [leB, toList_eq']; done) | (simp_all [leB, toList_eq']; omega)))
  · intro _ hi
    conv => whnf
    repeat' (first | (refine .mk (fun h => ?_) (fun h => ?_) <;> (try simp only [decide_eq_true_eq, decide_eq_false_iff_not, Bool.not_eq_true', Bool.not_eq_false', beq_iff_eq, beq_eq_false_iff_ne, bne_iff_ne, bne_eq_false_iff_eq] at h) <;> (first | (exfalso; first | omega | exact h trivial) | (conv => whnf))) | fail)
    exact fini (seq_end hi).symm
end Go.Proofs.YtilfcojhdhgmfaaGreatDoor

namespace Go.Proofs.YtilfcojhdhgmfaaGreatDoor
set_option linter.unusedVariables false
set_option linter.unusedSimpArgs false
open Abs

set_option maxRecDepth 100000 in
set_option maxHeartbeats 4000000 in
theorem find1_pc (x : Du) (k : ByteArray) : PCp 223 [.agg (encDu x), .c (.str k)] [] (.c (.int .i64 (cmpS x.key k))) [] := by
  refine fn_sound (mt := mts) tab_fits tab_mixed Tryz.func223 (by rfl) (by kernel_rfl) (by kernel_rfl) Tryz.results223 (Nat.le_of_ble_eq_true (by kernel_rfl)) ?_
  conv => whnf
  repeat' (first | (refine .mk _ _ (by exact sCompare_pc _ _) ?_; conv => whnf) | fail)
  exact fini rfl
set_option maxRecDepth 100000 in
set_option maxHeartbeats 4000000 in
theorem find_pc (d : List Du) (hd : DuOk d) (k : ByteArray) : PCp 178 [.c (.lst 5 (d.map encDu)), .c (.str k)] [] (.tup [.agg (encDu (duG d k)), .c (.bool (hasD d k))]) [] := by
  have hlm : (d.map encDu).length = d.length := List.length_map ..
  have hc : ∀ x : Du, (cmpS x.key k < 0 ↔ ltB x.key k = true) ∧ (cmpS x.key k = 0 ↔ x.key = k) := fun x => ⟨cmp_lt, cmp_zero⟩
  have hf := find_rise (c := fun x : Du => cmpS x.key k) hc hd.rise
  have hl := hd.len
  refine fn_sound (mt := mts) tab_fits tab_mixed Tryz.func178 (by rfl) (by kernel_rfl) (by kernel_rfl) Tryz.results178 (Nat.le_of_ble_eq_true (by kernel_rfl)) ?_
  conv => whnf
  repeat' (first | (refine .mk (fun h => ?_) (fun h => ?_) <;> (try simp only [decide_eq_true_eq, decide_eq_false_iff_not, Bool.not_eq_true', Bool.not_eq_false', beq_iff_eq, beq_eq_false_iff_ne, bne_iff_ne, bne_eq_false_iff_eq] at h) <;> (first | (exfalso; first | omega | exact h trivial) | (conv => whnf))) | (refine .mk _ _ (by exact bsDu_pc 223 (fun x => cmpS x.key k) (.c (.str k)) d (by omega) (rise_mono (fun x => cmp_lt) hd.rise) ⟨_, rfl⟩ (fun x _ => find1_pc x k)) ?_; conv => whnf) | fail)
  · have hn : duAt d k = none := by unfold duAt; rw [hf, h]; rfl
    exact .mk ⟨by unfold duG hasD; rw [hn]; rfl, rfl⟩
  · have hlt : cntL (fun x : Du => cmpS x.key k) d < d.length := by
      rcases Nat.lt_or_ge (cntL (fun x : Du => cmpS x.key k) d) d.length with h1 | h1
      · exact h1
      · unfold hitL at h; rw [List.getElem?_eq_none h1] at h; cases h
    have hn : duAt d k = some (d[cntL (fun x : Du => cmpS x.key k) d]) := by unfold duAt; rw [hf, if_pos h, List.getElem?_eq_getElem hlt]
    refine idx_map _ hlt rfl ?_
    conv => whnf
    exact .mk ⟨by unfold duG hasD; rw [hn]; rfl, rfl⟩
set_option maxRecDepth 100000 in
set_option maxHeartbeats 4000000 in
theorem cableFault_pc (d : List Du) (hd : DuOk d) (x : Ly) (hx : x.ducts.length ≤ 1000000) : PCp 135 [.c (.lst 5 (d.map encDu)), .agg (encLy x)] [] (.c (.int .i64 (cabErr d x))) [] := by
  have hlm : (x.ducts.map encS).length = x.ducts.length := List.length_map ..
  refine fn_sound (mt := mts) tab_fits tab_mixed Tryz.func135 (by rfl) (by kernel_rfl) (by kernel_rfl) Tryz.results135 (Nat.le_of_ble_eq_true (by kernel_rfl)) ?_
  conv => whnf
  repeat' (first | (refine .mk (fun h => ?_) (fun h => ?_) <;> (try simp only [decide_eq_true_eq, decide_eq_false_iff_not, Bool.not_eq_true', Bool.not_eq_false', beq_iff_eq, beq_eq_false_iff_ne, bne_iff_ne, bne_eq_false_iff_eq] at h) <;> (first | (exfalso; first | omega | exact h trivial) | (conv => whnf))) | (refine .mk _ _ (by exact bOut_pc _ _ _) ?_; conv => whnf) | fail)
  · exact fini (by rw [cabErr, if_pos h])
  · exact fini (by rw [cabErr, if_neg (by assumption), if_pos (by omega)])
  · exact fini (by rw [cabErr, if_neg (by assumption), if_neg (by omega), if_pos (by omega)])
  have hF : cabErr d x = seqErr (keyErr (hasD d)) id true ⟨#[]⟩ x.ducts := by rw [cabErr, if_neg (by assumption), if_neg (by omega), if_neg (by omega)]
  refine loop_for (x.ducts.length) [] [0, 3, 24, 25, 26] (fun k (_ : Unit) => [(26, .c (.int .i64 (k : Int)))]) (fun k (_ : Unit) => []) (fun k (_ : Unit) => seqErr (keyErr (hasD d)) id (decide (k = 0)) (befK id x.ducts k) (x.ducts.drop k) = cabErr d x) (()) ?_
  conv => whnf
  refine ⟨(by first | rfl | (simp; done) | (simp; rfl)), ?_, ?_, ?_⟩
  · exact hF.symm
  · intro k _ hk hi
    conv => whnf
    repeat' (first | (refine .mk (fun h => ?_) (fun h => ?_) <;> (try simp only [decide_eq_true_eq, decide_eq_false_iff_not, Bool.not_eq_true', Bool.not_eq_false', beq_iff_eq, beq_eq_false_iff_ne, bne_iff_ne, bne_eq_false_iff_eq] at h) <;> (first | (exfalso; first | omega | exact h trivial) | (conv => whnf))) | (refine .mk _ _ (by exact find_pc d hd _) ?_; conv => whnf) | (refine idx_at _ (by with_reducible rfl) (by first | assumption | omega) ?_; conv => whnf) | ((refine idx_map (k - 1) (by omega) (by rw [wrap_in (by omega) (by omega)]; omega) ?_); conv => whnf) | fail)
    all_goals try simp only [toList_eq'] at *
    all_goals have hb := befK_pos (key := id) (l := x.ducts) (Nat.le_of_lt hk)
    all_goals first
      | (refine fini (seq_hit hk hi ?_ (by decide)); clear hi hF; unfold keyErr; (try rw [hb (by omega)]); (repeat' split) <;> first | rfl | (exfalso; first | omega | (simp_all [leB, toList_eq']; done) | (simp_all [leB, toList_eq']; omega)))
      | (refine count_next () hk (by rw [wrap_succ hk (by omega)]; rfl) (seq_next' hk hi ?_); clear hi hF; unfold keyErr; (try rw [hb (by omega)]); (repeat' split) <;> first | rfl | (exfalso; first | omega | (simp_all [leB, toList_eq']; done) | (simp_all [leB, toList_eq']; omega)))
  · intro _ hi
    conv => whnf
    repeat' (first | (refine .mk (fun h => ?_) (fun h => ?_) <;> (try simp only [decide_eq_true_eq, decide_eq_false_iff_not, Bool.not_eq_true', Bool.not_eq_false', beq_iff_eq, beq_eq_false_iff_ne, bne_iff_ne, bne_eq_false_iff_eq] at h) <;> (first | (exfalso; first | omega | exact h trivial) | (conv => whnf))) | fail)
    exact fini (seq_end hi).symm
end Go.Proofs.YtilfcojhdhgmfaaGreatDoor

