/- Parts of the proof, in order. -/
import Derived.Test.YtghjhjbfkcnhaaaGreatMWaysAreLaid2

namespace Go.Proofs.YtghjhjbfkcnhaaaGreat
set_option linter.unusedVariables false
set_option linter.unusedSimpArgs false
open Abs

def TodoV (x : V) (R : List (List V)) (L : List ByteArray) : Prop := (x = .row 3 ∧ R = L.map encS) ∨ ∃ o, x = .vw 3 1 o (R.length - o) ∧ o ≤ R.length ∧ R.drop o = L.map encS
theorem Bfs.len {E : List Ed} {f : List Int} {fr : ByteArray} {Q : List ByteArray} {came : SMt} (h : Bfs E f fr Q came) : Q.length ≤ 2 * E.length + 1 := by
  rw [← sitesE_len E fr]
  refine nodup_sub_len h.nd fun x hx => ?_
  obtain ⟨j, hj, rfl⟩ := List.mem_iff_getElem.1 hx
  rcases Nat.eq_zero_or_pos j with rfl | h0
  · have := h.hd
    rw [List.getElem?_eq_getElem hj] at this
    rw [Option.some.inj this]
    exact List.mem_cons_self ..
  · obtain ⟨i, hi, q, hq, _, h2, h3, _⟩ := h.step j hj h0
    have hm := sitesE_mem (to := fr) E[i] (List.getElem_mem hi)
    rw [← h3]
    unfold Ed.oth
    split
    · exact hm.2
    · exact hm.1
structure BfsE (E : List Ed) (f : List Int) (fr a : ByteArray) (p k : Nat) (came : SMt) (Q : List ByteArray) (R : List (List V)) (o : Nat) : Prop where
  b : Bfs E f fr Q came
  seen : Seen E f Q p
  here : ∃ hp : p < Q.length, Q[p] = a
  part : ∀ i (hi : i < E.length), i < k → E[i].at a → roomE E[i] (f.getD i 0) a ≠ 0 → E[i].oth a ∈ Q
  ho : o ≤ R.length
  hR : R.drop o = (Q.drop (p + 1)).map encS
  h1 : 1 ≤ R.length
  h2 : R.length ≤ Q.length
section
variable {E : List Ed} {f : List Int} {fr a : ByteArray} {p k : Nat} {came : SMt} {Q : List ByteArray} {R : List (List V)} {o : Nat}
theorem BfsE.skip (h : BfsE E f fr a p k came Q R o) (hk : k < E.length) (hs : E[k].at a → roomE E[k] (f.getD k 0) a ≠ 0 → E[k].oth a ∈ Q) : BfsE E f fr a p (k + 1) came Q R o :=
  ⟨h.b, h.seen, h.here, fun i hi hik h1 h2 => by
    rcases Nat.lt_succ_iff_lt_or_eq.1 hik with q | rfl
    · exact h.part i hi q h1 h2
    · exact hs h1 h2, h.ho, h.hR, h.h1, h.h2⟩
theorem BfsE.add (h : BfsE E f fr a p k came Q R o) (hk : k < E.length) (hat : E[k].at a) (hr : roomE E[k] (f.getD k 0) a ≠ 0) (hn : E[k].oth a ∉ Q) {R' : List (List V)} {o' : Nat} (ho : o' ≤ R'.length) (hR : R'.drop o' = R.drop o) (hl : R'.length ≤ R.length) :
    BfsE E f fr a p (k + 1) (came.put (E[k].oth a) ((k : Int), a)) (Q ++ [E[k].oth a]) (R' ++ [encS (E[k].oth a)]) o' := by
  obtain ⟨hp, rfl⟩ := h.here
  have h2 := h.h2
  refine ⟨h.b.more hp hk hat hr hn, ?_, ⟨by simp; omega, by rw [List.getElem_append_left hp]⟩, ?_, by simp; omega, ?_, by simp, by simp; omega⟩
  · intro j hj hjp i hi q1 q2
    rw [List.getElem_append_left (by omega)] at q1 q2 ⊢
    exact List.mem_append_left _ (h.seen j (by omega) hjp i hi q1 q2)
  · intro i hi hik q1 q2
    rcases Nat.lt_succ_iff_lt_or_eq.1 hik with q | rfl
    · exact List.mem_append_left _ (h.part i hi q q1 q2)
    · exact List.mem_append_right _ (by simp)
  · rw [List.drop_append_of_le_length ho, hR, h.hR, List.drop_append_of_le_length (by omega), List.map_append]; rfl
theorem BfsE.over (h : BfsE E f fr a p E.length came Q R o) : Bfs E f fr Q came ∧ Seen E f Q (p + 1) ∧ p + 1 ≤ Q.length ∧ 1 ≤ R.length ∧ R.length ≤ Q.length ∧ TodoV (.vw 3 1 o (R.length - o)) R (Q.drop (p + 1)) := by
  obtain ⟨hp, rfl⟩ := h.here
  refine ⟨h.b, ?_, hp, h.h1, h.h2, .inr ⟨o, rfl, h.ho, h.hR⟩⟩
  intro j hj hjp i hi q1 q2
  rcases Nat.lt_succ_iff_lt_or_eq.1 hjp with q | rfl
  · exact h.seen j hj q i hi q1 q2
  · exact h.part i hi hi q1 q2
end
set_option maxRecDepth 100000 in
set_option maxHeartbeats 4000000 in
theorem gMore_pc (E : List Ed) (f : List Int) (fr to : ByteArray) (pf : Nat) (hpf : ∀ s : ByteArray, PCp pf [.c (.str s)] [] (.c (.bool true)) []) (hE : EdsOk E) (hl : E.length ≤ 1000) (hf : f.length = E.length)
    (hb : ∀ i (hi : i < E.length), (-1000000 ≤ f.getD i 0 ∧ f.getD i 0 ≤ 1000000) ∧ 0 ≤ E[i].cap ∧ E[i].cap ≤ 1000000) :
    PCq 101 [gphS E pf, .c (.row 0), .c (.str fr), .c (.str to)] [.row 3 1 (f.map encI)] fun r os => os = [.row 3 1 (f.map encI)] ∧ ∃ Q came, Bfs E f fr Q came ∧ Seen E f Q Q.length ∧ ((to ∉ Q ∧ r = .c .nils) ∨ (to ∈ Q ∧ ∃ P, Bk came fr to P ∧ r = .c (.lst 2 (P.map encSt)))) := by
  have hEm : (E.map encEd).length = E.length := List.length_map ..
  have hfm : (f.map encI).length = E.length := by rw [List.length_map, hf]
  have hb0 := Bfs.begin E f fr (0, ⟨#[]⟩)
  refine fn_soundX (mt := mts) tab_fits tab_mixed Tryz.func101 (by rfl) (by kernel_rfl) (by kernel_rfl) Tryz.results101 (Nat.le_of_ble_eq_true (by kernel_rfl)) ?_
  conv => whnf
  skip
  refine sm_upd (ek := ekS) (ev := evSt) keyStr SM.nil fr (0, ⟨#[]⟩) ?_
  conv => whnf
  skip
  refine loop_while4 (fun (came : SMt) (Q : List ByteArray) (p : Nat) (y : V × List (List V)) => 2 * E.length + 2 - p) [] [1, 2, 3, 4, 9, 10] (fun (came : SMt) (Q : List ByteArray) (p : Nat) (y : V × List (List V)) => [(10, .c y.1)]) (fun (came : SMt) (Q : List ByteArray) (p : Nat) (y : V × List (List V)) => [(2, smO ekS evSt came), (3, .row 9 1 y.2)]) (fun (came : SMt) (Q : List ByteArray) (p : Nat) (y : V × List (List V)) => Bfs E f fr Q came ∧ Seen E f Q p ∧ p ≤ Q.length ∧ 1 ≤ y.2.length ∧ y.2.length ≤ Q.length ∧ TodoV y.1 y.2 (Q.drop p)) (SM.nil.put fr (0, ⟨#[]⟩)) ([fr]) (0) ((.row 3, [encS fr])) ?_
  conv => whnf
  refine ⟨?_, ?_, ?_⟩
  · rfl
  · exact ⟨hb0, fun j hj h => by omega, Nat.zero_le _, Nat.le_refl _, Nat.le_refl _, .inl ⟨rfl, rfl⟩⟩
  · intro came Q p ⟨x, R⟩ ⟨h1, h2, h3, h5, h6, h4⟩
    simp only at h4 h5 h6
    have hdl : (Q.drop p).length = Q.length - p := List.length_drop ..
    have hQl := h1.len
    rcases h4 with ⟨rfl, rfl⟩ | ⟨o, rfl, ho, hR⟩
    · skip
      as_aux_lemma =>
       have hRm : ((Q.drop p).map encS).length = Q.length - p := by rw [List.length_map, hdl]
       dsimp only
       conv => whnf
       repeat' (first | (refine CondG.mk (fun h => ?_) (fun h => ?_) <;> (try simp only [decide_eq_true_eq, decide_eq_false_iff_not, Bool.not_eq_true', Bool.not_eq_false', beq_iff_eq, beq_eq_false_iff_ne] at h) <;> (first | (exfalso; first | omega | exact h trivial) | (conv => whnf))) | (refine .mk (by first | omega | (unfold roomOK; simp [cutRows]; done) | (unfold roomOK; simp [cutRows]; omega)) ?_; conv => whnf) | fail)
       · have hp : p < Q.length := by omega
         have hg0 : (Q.drop p)[0]? = some Q[p] := by rw [List.getElem?_drop]; simp [hp]
         refine RowG.mk (encS Q[p]) (by rw [List.getElem?_map]; exact congrArg (Option.map encS) hg0) ?_
         conv => whnf
         refine .mk (by first | omega | (simp; done) | (simp; omega)) ?_
         conv => whnf
         refine .vw ?_
         conv => whnf
         have hini : BfsE E f fr Q[p] p 0 came Q ((Q.drop p).map encS) 1 := ⟨h1, h2, ⟨hp, rfl⟩, fun i hi h => by omega, by omega, by rw [← List.map_drop, List.drop_drop], by omega, by omega⟩
         repeat' (first | (refine .mk (fun h => ?_) (fun h => ?_) <;> (try simp only [decide_eq_true_eq, decide_eq_false_iff_not, Bool.not_eq_true', Bool.not_eq_false', beq_iff_eq, beq_eq_false_iff_ne, bne_iff_ne, bne_eq_false_iff_eq] at h) <;> (first | (exfalso; first | omega | exact h trivial) | (conv => whnf))) | (refine  CallX.mk _ _ (by exact hpf _) ?_; conv => whnf) | fail)
         · rename_i h; cases h
         all_goals
           refine loop_for4 (E.length) [] [1, 2, 3, 4, 9, 10, 11, 46, 47, 48] (fun k (came : SMt) (Q' : List ByteArray) (R : List (List V)) (o : Nat) => [(10, .c (.vw 3 1 o (R.length - o))), (48, .c (.int .i64 (k : Int)))]) (fun k (came : SMt) (Q' : List ByteArray) (R : List (List V)) (o : Nat) => [(2, smO ekS evSt came), (3, .row 9 1 R)]) (fun k (came : SMt) (Q' : List ByteArray) (R : List (List V)) (o : Nat) => BfsE E f fr Q[p] p k came Q' R o) (came) (Q) ((Q.drop p).map encS) (1) ?_
           conv => whnf
           refine ⟨?_, ?_, ?_, ?_⟩
           · rfl
           · exact hini
           · intro k came Q' R o hk hBE
             as_aux_lemma =>
              have hbk := hb k hk
              have hkf : k < f.length := by omega
              have hgf : f.getD k 0 = f[k] := by simp [hkf]
              have hrc := room_pc E[k] f[k] Q[p] (by omega) (by omega)
              have hho := hBE.ho
              have hh2 := hBE.h2
              have hhl := hBE.b.len
              have n1 : E[k].a.toList ≠ Q[p].toList → E[k].b.toList ≠ Q[p].toList → BfsE E f fr Q[p] p (k + 1) came Q' R o := fun q1 q2 => hBE.skip hk fun h => by
                rcases h with h | h
                · exact absurd (strEqW.2 h) q1
                · exact absurd (strEqW.2 h) q2
              have n2 : roomE E[k] f[k] Q[p] = 0 → BfsE E f fr Q[p] p (k + 1) came Q' R o := fun q => hBE.skip hk fun _ h => absurd (by rw [hgf]; exact q) h
              have n3 : (came.get (E[k].oth Q[p])).isSome = true → BfsE E f fr Q[p] p (k + 1) came Q' R o := fun q => hBE.skip hk fun _ _ => (hBE.b.mem _).1 q
              have n4 : E[k].at Q[p] → roomE E[k] f[k] Q[p] ≠ 0 → (came.get (E[k].oth Q[p])).isSome = false → ∀ (R' : List (List V)) (o' : Nat), o' ≤ R'.length → R'.drop o' = R.drop o → R'.length ≤ R.length → BfsE E f fr Q[p] p (k + 1) (came.put (E[k].oth Q[p]) ((k : Int), Q[p])) (Q' ++ [E[k].oth Q[p]]) (R' ++ [encS (E[k].oth Q[p])]) o' :=
                fun q1 q2 q3 R' o' g1 g2 g3 => hBE.add hk q1 (by rw [hgf]; exact q2) (fun hm => by rw [(hBE.b.mem _).2 hm] at q3; cases q3) g1 g2 g3
              conv => whnf
              repeat' (first | (refine .mk (fun h => ?_) (fun h => ?_) <;> (try simp only [decide_eq_true_eq, decide_eq_false_iff_not, Bool.not_eq_true', Bool.not_eq_false', beq_iff_eq, beq_eq_false_iff_ne, bne_iff_ne, bne_eq_false_iff_eq] at h) <;> (first | (exfalso; first | omega | exact h trivial) | (conv => whnf))) | (refine  CallX.mk _ _ (by first | exact other_pc _ _ | exact hrc) ?_; conv => whnf) | (refine CallG.mk _ _ (by exact hrc) ?_; conv => whnf) | (refine .mk (by first | omega | (unfold roomOK; simp [cutRows]; done) | (unfold roomOK; simp [cutRows]; omega) | (simp [cutRows]; done) | (simp [cutRows]; omega)) ?_; conv => whnf) | (refine idx_at _ (by with_reducible rfl) (by first | assumption | omega) ?_; conv => whnf) | ((with_reducible refine row_map (by first | assumption | omega) ?_); conv => whnf) | ((refine sm_look (ek := ekS) (ev := evSt) keyStr came (E[k].oth Q[p]) ((0, ⟨#[]⟩) : St2) rfl ?_); conv => whnf) | ((refine sm_upd (ek := ekS) (ev := evSt) keyStr came (E[k].oth Q[p]) ((k : Int), Q[p]) ?_); conv => whnf) | fail)
              all_goals first
                | exact count_next (came, Q', R, o) hk (by rw [wrap_succ hk (by omega)]; rfl) (by first | exact n1 (by assumption) (by assumption) | exact n2 (by assumption) | exact n3 (by assumption))
                | skip
              all_goals
                refine .out ⟨⟨by omega, rfl, ⟨hBE.h1, Nat.le_refl _⟩, by unfold roomOK; simp [cutRows]; omega⟩, fun o' R' q1 q2 q3 => ?_⟩
                conv => whnf
                have hq := n4 (by first | exact .inl (strEqW.1 (by assumption)) | exact .inr (strEqW.1 (by assumption))) (by assumption) (by assumption) R' o' q1 q2 q3.2
                have hle : (R' ++ [encS (E[k].oth Q[p])]).length - o' = R.length - o + 1 := by rw [List.length_append]; simp only [List.length_cons, List.length_nil]; omega
                exact count_next (came.put (E[k].oth Q[p]) ((k : Int), Q[p]), Q' ++ [E[k].oth Q[p]], R' ++ [encS (E[k].oth Q[p])], o') hk (by rw [wrap_succ hk (by omega)]; simp only [hle]; rfl) hq
           · intro came Q' R o hBE
             have hov := hBE.over
             have hql := hov.1.len
             conv => whnf
             repeat' (first | (refine CondG.mk (fun h => ?_) (fun h => ?_) <;> (try simp only [decide_eq_true_eq, decide_eq_false_iff_not, Bool.not_eq_true', Bool.not_eq_false', beq_iff_eq, beq_eq_false_iff_ne, bne_iff_ne, bne_eq_false_iff_eq] at h) <;> (first | (exfalso; first | omega | exact h trivial) | (conv => whnf))) | fail)
             exact meas_next (came, Q', p + 1, (.vw 3 1 o (R.length - o), R)) (by show 2 * E.length + 2 - (p + 1) < 2 * E.length + 2 - p; omega) rfl hov
    · skip
      as_aux_lemma =>
       dsimp only
       have hRl : R.length - o = Q.length - p := by
         have h8 := congrArg List.length hR
         rw [List.length_drop, List.length_map, hdl] at h8
         exact h8
       conv => whnf
       repeat' (first | (refine CondG.mk (fun h => ?_) (fun h => ?_) <;> (try simp only [decide_eq_true_eq, decide_eq_false_iff_not, Bool.not_eq_true', Bool.not_eq_false', beq_iff_eq, beq_eq_false_iff_ne] at h) <;> (first | (exfalso; first | omega | exact h trivial) | (conv => whnf))) | (refine .mk (by first | omega | (unfold roomOK; simp [cutRows]; done) | (unfold roomOK; simp [cutRows]; omega)) ?_; conv => whnf) | fail)
       · have hp : p < Q.length := by omega
         have hg0 : R[o]? = some (encS Q[p]) := by
           have h8 : (R.drop o)[0]? = ((Q.drop p).map encS)[0]? := by rw [hR]
           rw [List.getElem?_drop, List.getElem?_map, List.getElem?_drop] at h8
           simpa [hp] using h8
         refine RowG.mk (encS Q[p]) hg0 ?_
         conv => whnf
         refine .mk (by first | omega | (simp; done) | (simp; omega)) ?_
         conv => whnf
         rw [show R.length - o - Int.toNat 1 = R.length - (o + 1) by show R.length - o - 1 = _; omega, show o + Int.toNat 1 = o + 1 from rfl]
         have hini : BfsE E f fr Q[p] p 0 came Q R (o + 1) := ⟨h1, h2, ⟨hp, rfl⟩, fun i hi h => by omega, by omega, by rw [← List.drop_drop, hR, ← List.map_drop, List.drop_drop], by omega, by omega⟩
         repeat' (first | (refine .mk (fun h => ?_) (fun h => ?_) <;> (try simp only [decide_eq_true_eq, decide_eq_false_iff_not, Bool.not_eq_true', Bool.not_eq_false', beq_iff_eq, beq_eq_false_iff_ne, bne_iff_ne, bne_eq_false_iff_eq] at h) <;> (first | (exfalso; first | omega | exact h trivial) | (conv => whnf))) | (refine  CallX.mk _ _ (by exact hpf _) ?_; conv => whnf) | fail)
         · rename_i h; cases h
         all_goals
           refine loop_for4 (E.length) [] [1, 2, 3, 4, 9, 10, 11, 46, 47, 48] (fun k (came : SMt) (Q' : List ByteArray) (R : List (List V)) (o : Nat) => [(10, .c (.vw 3 1 o (R.length - o))), (48, .c (.int .i64 (k : Int)))]) (fun k (came : SMt) (Q' : List ByteArray) (R : List (List V)) (o : Nat) => [(2, smO ekS evSt came), (3, .row 9 1 R)]) (fun k (came : SMt) (Q' : List ByteArray) (R : List (List V)) (o : Nat) => BfsE E f fr Q[p] p k came Q' R o) (came) (Q) (R) (o + 1) ?_
           conv => whnf
           refine ⟨?_, ?_, ?_, ?_⟩
           · rfl
           · exact hini
           · intro k came Q' R o hk hBE
             as_aux_lemma =>
              have hbk := hb k hk
              have hkf : k < f.length := by omega
              have hgf : f.getD k 0 = f[k] := by simp [hkf]
              have hrc := room_pc E[k] f[k] Q[p] (by omega) (by omega)
              have hho := hBE.ho
              have hh2 := hBE.h2
              have hhl := hBE.b.len
              have n1 : E[k].a.toList ≠ Q[p].toList → E[k].b.toList ≠ Q[p].toList → BfsE E f fr Q[p] p (k + 1) came Q' R o := fun q1 q2 => hBE.skip hk fun h => by
                rcases h with h | h
                · exact absurd (strEqW.2 h) q1
                · exact absurd (strEqW.2 h) q2
              have n2 : roomE E[k] f[k] Q[p] = 0 → BfsE E f fr Q[p] p (k + 1) came Q' R o := fun q => hBE.skip hk fun _ h => absurd (by rw [hgf]; exact q) h
              have n3 : (came.get (E[k].oth Q[p])).isSome = true → BfsE E f fr Q[p] p (k + 1) came Q' R o := fun q => hBE.skip hk fun _ _ => (hBE.b.mem _).1 q
              have n4 : E[k].at Q[p] → roomE E[k] f[k] Q[p] ≠ 0 → (came.get (E[k].oth Q[p])).isSome = false → ∀ (R' : List (List V)) (o' : Nat), o' ≤ R'.length → R'.drop o' = R.drop o → R'.length ≤ R.length → BfsE E f fr Q[p] p (k + 1) (came.put (E[k].oth Q[p]) ((k : Int), Q[p])) (Q' ++ [E[k].oth Q[p]]) (R' ++ [encS (E[k].oth Q[p])]) o' :=
                fun q1 q2 q3 R' o' g1 g2 g3 => hBE.add hk q1 (by rw [hgf]; exact q2) (fun hm => by rw [(hBE.b.mem _).2 hm] at q3; cases q3) g1 g2 g3
              conv => whnf
              repeat' (first | (refine .mk (fun h => ?_) (fun h => ?_) <;> (try simp only [decide_eq_true_eq, decide_eq_false_iff_not, Bool.not_eq_true', Bool.not_eq_false', beq_iff_eq, beq_eq_false_iff_ne, bne_iff_ne, bne_eq_false_iff_eq] at h) <;> (first | (exfalso; first | omega | exact h trivial) | (conv => whnf))) | (refine  CallX.mk _ _ (by first | exact other_pc _ _ | exact hrc) ?_; conv => whnf) | (refine CallG.mk _ _ (by exact hrc) ?_; conv => whnf) | (refine .mk (by first | omega | (unfold roomOK; simp [cutRows]; done) | (unfold roomOK; simp [cutRows]; omega) | (simp [cutRows]; done) | (simp [cutRows]; omega)) ?_; conv => whnf) | (refine idx_at _ (by with_reducible rfl) (by first | assumption | omega) ?_; conv => whnf) | ((with_reducible refine row_map (by first | assumption | omega) ?_); conv => whnf) | ((refine sm_look (ek := ekS) (ev := evSt) keyStr came (E[k].oth Q[p]) ((0, ⟨#[]⟩) : St2) rfl ?_); conv => whnf) | ((refine sm_upd (ek := ekS) (ev := evSt) keyStr came (E[k].oth Q[p]) ((k : Int), Q[p]) ?_); conv => whnf) | fail)
              all_goals first
                | exact count_next (came, Q', R, o) hk (by rw [wrap_succ hk (by omega)]; rfl) (by first | exact n1 (by assumption) (by assumption) | exact n2 (by assumption) | exact n3 (by assumption))
                | skip
              all_goals
                refine .out ⟨⟨by omega, rfl, ⟨hBE.h1, Nat.le_refl _⟩, by unfold roomOK; simp [cutRows]; omega⟩, fun o' R' q1 q2 q3 => ?_⟩
                conv => whnf
                have hq := n4 (by first | exact .inl (strEqW.1 (by assumption)) | exact .inr (strEqW.1 (by assumption))) (by assumption) (by assumption) R' o' q1 q2 q3.2
                have hle : (R' ++ [encS (E[k].oth Q[p])]).length - o' = R.length - o + 1 := by rw [List.length_append]; simp only [List.length_cons, List.length_nil]; omega
                exact count_next (came.put (E[k].oth Q[p]) ((k : Int), Q[p]), Q' ++ [E[k].oth Q[p]], R' ++ [encS (E[k].oth Q[p])], o') hk (by rw [wrap_succ hk (by omega)]; simp only [hle]; rfl) hq
           · intro came Q' R o hBE
             have hov := hBE.over
             have hql := hov.1.len
             conv => whnf
             repeat' (first | (refine CondG.mk (fun h => ?_) (fun h => ?_) <;> (try simp only [decide_eq_true_eq, decide_eq_false_iff_not, Bool.not_eq_true', Bool.not_eq_false', beq_iff_eq, beq_eq_false_iff_ne, bne_iff_ne, bne_eq_false_iff_eq] at h) <;> (first | (exfalso; first | omega | exact h trivial) | (conv => whnf))) | fail)
             exact meas_next (came, Q', p + 1, (.vw 3 1 o (R.length - o), R)) (by show 2 * E.length + 2 - (p + 1) < 2 * E.length + 2 - p; omega) rfl hov
       · have hpe : p = Q.length := by omega
         subst hpe
         repeat' (first | (refine CondG.mk (fun h => ?_) (fun h => ?_) <;> (try simp only [decide_eq_true_eq, decide_eq_false_iff_not, Bool.not_eq_true', Bool.not_eq_false', beq_iff_eq, beq_eq_false_iff_ne, bne_iff_ne, bne_eq_false_iff_eq] at h) <;> (first | (exfalso; first | omega | exact h trivial) | (conv => whnf))) | ((refine sm_look (ek := ekS) (ev := evSt) keyStr came to ((0, ⟨#[]⟩) : St2) rfl ?_); conv => whnf) | fail)
         · have hto : to ∉ Q := fun hm => by
             have h8 := (h1.mem to).2 hm
             have h9 : (came.get to).isSome = false := by assumption
             rw [h8] at h9; cases h9
           exact .mk _ _ ⟨rfl, Q, came, h1, h2, .inl ⟨hto, rfl⟩⟩ (.mk ⟨rfl, rfl⟩)
         · have hto : to ∈ Q := (h1.mem to).1 (by assumption)
           obtain ⟨j0, hj0, hjt⟩ := List.mem_iff_getElem.1 hto
           refine loop_while3 (fun (t : ByteArray) (j : Nat) (P : List St2) => j) [.sl 19 185 2] [2, 9, 19, 20] (fun (t : ByteArray) (j : Nat) (P : List St2) => [(20, .c (.str t))]) (fun (t : ByteArray) (j : Nat) (P : List St2) => [(2, .row 185 2 (P.map encSt))]) (fun (t : ByteArray) (j : Nat) (P : List St2) => Q[j]? = some t ∧ P.length + j ≤ Q.length ∧ (∀ P', Bk came fr t P' → Bk came fr to (P ++ P'))) (to) (j0) ([]) ?_
           conv => whnf
           refine ⟨?_, ?_, ?_⟩
           · rfl
           · exact ⟨by rw [List.getElem?_eq_getElem hj0, hjt], by simp; omega, fun P' h => h⟩
           · intro t j P ⟨ht, hPl, hbk⟩
             obtain ⟨hjl, htj⟩ := List.getElem?_eq_some_iff.1 ht
             have htm : (came.get t).isSome = true := (h1.mem t).2 (by rw [← htj]; exact List.getElem_mem hjl)
             obtain ⟨x, hx⟩ := Option.isSome_iff_exists.1 htm
             have hxd : (came.get t).getD (0, ⟨#[]⟩) = x := by rw [hx]; rfl
             have hPm : (P.map encSt).length = P.length := List.length_map ..
             conv => whnf
             repeat' (first | (refine CondG.mk (fun h => ?_) (fun h => ?_) <;> (try simp only [decide_eq_true_eq, decide_eq_false_iff_not, Bool.not_eq_true', Bool.not_eq_false', beq_iff_eq, beq_eq_false_iff_ne, bne_iff_ne, bne_eq_false_iff_eq] at h) <;> (first | (exfalso; first | omega | exact h trivial) | (conv => whnf))) | (refine AppG.mk (by first | omega | (unfold roomOK; simp [cutRows]; done) | (unfold roomOK; simp [cutRows]; omega) | (simp [cutRows]; done) | (simp [cutRows]; omega)) ?_; conv => whnf) | ((refine sm_look (ek := ekS) (ev := evSt) keyStr came t ((0, ⟨#[]⟩) : St2) rfl ?_); conv => whnf) | fail)
             · have hne : t ≠ fr := fun q => absurd (strEqW.2 q) (by assumption)
               obtain ⟨j', q, hj', hq, e1, e2⟩ := h1.index hne hx
               have hjj : j' = j := (List.getElem_inj h1.nd).1 (e1.trans htj.symm)
               subst hjj
               have hql : q < Q.length := by omega
               have hPx : (P ++ [x]).length + q ≤ Q.length := by rw [List.length_append]; simp only [List.length_cons, List.length_nil]; omega
               have hQq : Q[q]? = some x.2 := by rw [List.getElem?_eq_getElem hql, e2]
               exact meas_next (x.2, q, P ++ [x]) (by show q < j'; omega) (by rw [hxd, List.map_append]; rfl) ⟨hQq, hPx, fun P' h => by rw [List.append_assoc]; exact hbk _ (.cons hne hx h)⟩
             · have hst : t = fr := strEqW.1 (by assumption)
               subst hst
               refine .mk _ _ ⟨rfl, Q, came, h1, h2, .inr ⟨hto, P, by have := hbk [] .nil; rwa [List.append_nil] at this, rfl⟩⟩ (.frz 1 _ _ _ rfl (.weak [_] (.fro 1 _ _ rfl) rfl (Nat.le_refl _)))
end Go.Proofs.YtghjhjbfkcnhaaaGreat

namespace Go.Proofs.YtghjhjbfkcnhaaaGreat
set_option linter.unusedVariables false
set_option linter.unusedSimpArgs false
open Abs

section
variable {gl : Nat → Int} {n : Nat} {us : List ByteArray} {g : CM} {S : List ByteArray}
end
def mostCap (l : List Ly) (outer : Int) (x : Du) : Int := ((mostV x.inner (outV l x.key) outer (20 - (outV l x.key).length) : Nat) : Int)
end Go.Proofs.YtghjhjbfkcnhaaaGreat

namespace Go.Proofs.YtghjhjbfkcnhaaaGreat
set_option linter.unusedVariables false
set_option linter.unusedSimpArgs false
open Abs

theorem augS_app (E : List Ed) (n : Int) : ∀ (P P' : List St2) (f : List Int), augS E n (P ++ P') f = augS E n P' (augS E n P f)
  | [], _, _ => rfl
  | x :: P, P', f => by rw [List.cons_append, augS, augS_app E n P, augS]
theorem augS_step {E : List Ed} {n : Int} {P : List St2} {f : List Int} {i : Nat} {s : ByteArray} {k : Nat} (hk : k < P.length) (hP : P[k] = ((i : Int), s)) (hi : i < E.length) : augS E n (P.take (k + 1)) f = (augS E n (P.take k) f).set i ((augS E n (P.take k) f).getD i 0 + (if E[i].a = s then n else -n)) := by
  rw [List.take_succ_eq_append_getElem hk, augS_app, hP]
  have hEi : E.getD i ⟨⟨#[]⟩, ⟨#[]⟩, ⟨#[]⟩, 0, 0⟩ = E[i] := by simp [hi]
  simp only [augS, Int.toNat_natCast, hEi]
theorem augS_same {E : List Ed} {n : Int} {P : List St2} {f : List Int} {i k : Nat} {s : ByteArray} (hk : k < P.length) (hP : P[k] = ((i : Int), s)) (hnd : (P.map (·.1)).Nodup) (hp : ∀ x ∈ P, 0 ≤ x.1) : (augS E n (P.take k) f).getD i 0 = f.getD i 0 := by
  rw [List.getD_eq_getElem?_getD, List.getD_eq_getElem?_getD, augS_other E n (P.take k) f i ?_ (fun x hx => hp x (List.mem_of_mem_take hx))]
  intro hm
  rw [List.map_take] at hm
  obtain ⟨j, hj, e⟩ := List.mem_iff_getElem.1 hm
  rw [List.length_take, List.length_map] at hj
  rw [List.getElem_take] at e
  have hk2 : k < (P.map (·.1)).length := by simpa using hk
  have e2 : (P.map (·.1))[k] = (i : Int) := by rw [List.getElem_map, hP]
  have := (List.getElem_inj hnd).1 (e.trans e2.symm)
  omega
theorem cutC_le (C : ByteArray → Bool) : ∀ E : List Ed, (∀ e ∈ E, 0 ≤ e.cap ∧ e.cap ≤ 1000000) → cutC C E ≤ 1000000 * (E.length : Int)
  | [], _ => by simp [cutC]
  | e :: r, h => by
    have ih := cutC_le C r (fun x hx => h x (by simp [hx]))
    have he := h e (by simp)
    simp only [cutC, List.length_cons]
    push_cast
    split <;> omega
set_option maxRecDepth 100000 in
set_option maxHeartbeats 4000000 in
theorem gFlow_pc (E : List Ed) (fr to : ByteArray) (pf : Nat) (hpf : ∀ s : ByteArray, PCp pf [.c (.str s)] [] (.c (.bool true)) []) (hE : EdsOk E) (hl : E.length ≤ 1000) (hne : fr ≠ to) (hc : ∀ e ∈ E, 0 ≤ e.cap ∧ e.cap ≤ 1000000) :
    PCq 47 [gphS E pf, .c (.str fr), .c (.str to)] [] fun r os => os = [] ∧ ∃ n, MinCut E fr to n ∧ r = .c (.int .i64 n) := by
  have hc0 : ∀ e ∈ E, 0 ≤ e.cap := fun e he => (hc e he).1
  have hcut : ∀ f sum, Feas E fr to f sum → sum ≤ cutC (fun s => decide (s = fr)) E := fun f sum h => h.le hc0 _ (by simp) (by simp [Ne.symm hne])
  have hCb := cutC_le (fun s => decide (s = fr)) E hc
  generalize cutC (fun s => decide (s = fr)) E = C at *
  have hEm : (E.map encEd).length = E.length := List.length_map ..
  have hF0 := Feas.begin hc0 fr to
  refine fn_soundX (mt := mts) tab_fits tab_mixed Tryz.func47 (by rfl) (by kernel_rfl) (by kernel_rfl) Tryz.results47 (Nat.le_of_ble_eq_true (by kernel_rfl)) ?_
  conv => whnf
  repeat' (first | (refine .mk (by first | omega | (unfold roomOK; simp [cutRows]; done) | (unfold roomOK; simp [cutRows]; omega) | (simp [cutRows]; done) | (simp [cutRows]; omega)) ?_; conv => whnf) | fail)
  refine loop_while2 (fun (f : List Int) (sum : Int) => (C - sum).toNat) [] [1, 2, 3, 7, 8] (fun (f : List Int) (sum : Int) => [(8, .c (.int .i64 sum))]) (fun (f : List Int) (sum : Int) => [(2, .row 3 1 (f.map encI))]) (fun (f : List Int) (sum : Int) => Feas E fr to f sum ∧ 0 ≤ sum) (List.replicate E.length 0) (0) ?_
  conv => whnf
  refine ⟨?_, ?_, ?_⟩
  · simp only [List.map_replicate, hEm, Int.toNat_natCast]
    rfl
  · exact ⟨hF0, Int.le_refl _⟩
  · intro f sum ⟨hF, h0⟩
    have hs := hcut f sum hF
    have hfm : (f.map encI).length = E.length := by rw [List.length_map, hF.len]
    have hfl := hF.len
    have hb : ∀ i (hi : i < E.length), (-1000000 ≤ f.getD i 0 ∧ f.getD i 0 ≤ 1000000) ∧ 0 ≤ E[i].cap ∧ E[i].cap ≤ 1000000 := fun i hi => by
      have h1 := hF.in_ i hi (by omega)
      have h2 := hc _ (List.getElem_mem hi)
      have h3 : f.getD i 0 = f[i] := by simp [show i < f.length by omega]
      rw [h3]
      exact ⟨⟨by omega, by omega⟩, h2⟩
    conv => whnf
    refine .ex _ (gMore_pc E f fr to pf hpf hE hl hF.len hb) ?_
    rintro _ _ ⟨rfl, Q, came, hB, hS, ⟨hto, rfl⟩ | ⟨hto, P, hP, rfl⟩⟩
    · conv => whnf
      skip
      exact .mk _ _ ⟨rfl, sum, flow_done hF hB hS hto hE hc0, rfl⟩ (.mk ⟨rfl, rfl⟩)
    · obtain ⟨hPl, hroom⟩ := way_room hF hB hE hP hto
      have hQl := hB.len
      have hP0 : 0 < P.length := by
        cases hP with
        | nil => exact absurd rfl hne
        | cons => simp
      have hv : ∀ x ∈ P, 0 ≤ x.1 ∧ x.1 < E.length := fun x hx => by obtain ⟨i, hi, e, _⟩ := hroom x hx; omega
      have cM := minF_pc E f pf P hF.len hP0 (by omega) hv hb
      have hmem := minS_mem (rmS E f) (P.drop 1) P[0]
      have hmin := minS_le (rmS E f) (P.drop 1) P[0]
      have hcons : P[0] :: P.drop 1 = P := by rw [List.getElem_cons_drop]; rfl
      rw [hcons] at hmem hmin
      generalize minS (rmS E f) P[0] (P.drop 1) = x at *
      obtain ⟨i, hi, e1, hat, hr1, hr2⟩ := hroom x hmem
      obtain ⟨xi, xs⟩ := x
      simp only at e1 hat hr1 hr2
      subst e1
      have hfi : i < f.length := by omega
      have hfd : f.getD i 0 = f[i] := by simp [hfi]
      have hbi := hb i hi
      have cR := room_pc E[i] f[i] xs (by omega) (by omega)
      rw [show roomE E[i] f[i] xs = roomE E[i] (f.getD i 0) xs by rw [hfd]] at cR
      have hrx : rmS E f ((i : Int), xs) = roomE E[i] (f.getD i 0) xs := by simp [rmS, hi]
      rw [hrx] at hmin
      have hgl : ∀ y ∈ P, ∀ j (hj : j < E.length), y.1 = (j : Int) → roomE E[i] (f.getD i 0) xs ≤ roomE E[j] (f.getD j 0) y.2 := fun y hy j hj e => by
        have h1 := hmin y hy
        have h2 : rmS E f y = roomE E[j] (f.getD j 0) y.2 := by simp [rmS, e, hj]
        rw [h2] at h1; exact h1
      generalize hn : roomE E[i] (f.getD i 0) xs = n at *
      have hF2 := feas_aug hF hB hE hP hto (by omega) hgl
      have hs2 := hcut _ _ hF2
      have hnd : (P.map (·.1)).Nodup := by
        obtain ⟨j, hj, e⟩ := List.mem_iff_getElem.1 hto
        subst e
        exact (hB.back hE (j + 1) j hj (Nat.lt_succ_self _) P hP).1.nd
      have hPm : (P.map encSt).length = P.length := List.length_map ..
      have hPz : P.map encSt ≠ [] := fun q => by rw [q] at hPm; simp at hPm; omega
      conv => whnf
      refine ⟨fun q => absurd q hPz, ?_⟩
      conv => whnf
      repeat' (first | (refine  CallX.mk _ _ (by exact cM) ?_; conv => whnf) | (refine CallG.mk _ _ (by first | exact cM | exact cR) ?_; conv => whnf) | (refine .mk (by first | omega | (unfold roomOK; simp [cutRows]; done) | (unfold roomOK; simp [cutRows]; omega) | (simp [cutRows]; done) | (simp [cutRows]; omega)) ?_; conv => whnf) | (refine idx_at _ (by with_reducible rfl) (by first | assumption | omega) ?_; conv => whnf) | ((with_reducible refine row_map (by first | assumption | omega) ?_); conv => whnf) | fail)
      refine loop_for (P.length) [] [1, 2, 3, 7, 8, 11, 43, 44, 45] (fun k (_ : Unit) => [(45, .c (.int .i64 (k : Int)))]) (fun k (_ : Unit) => [(2, .row 3 1 ((augS E n (P.take k) f).map encI))]) (fun k (_ : Unit) => True) (()) ?_
      conv => whnf
      refine ⟨?_, (by trivial), ?_, ?_⟩
      · rfl
      · intro k _ hk _
        obtain ⟨i', hi', q1, q2, q3, q4⟩ := hroom P[k] (List.getElem_mem hk)
        have hPk : P[k] = ((i' : Int), P[k].2) := Prod.ext q1 rfl
        generalize P[k].2 = s at *
        have hst := augS_step (n := n) (f := f) hk hPk hi'
        have hsm := augS_same (E := E) (n := n) (f := f) hk hPk hnd (fun x hx => (hv x hx).1)
        have hgl' := augS_len E n (P.take k) f
        have hbi' := (hb i' hi').1
        rw [← hsm] at hbi'
        generalize augS E n (P.take k) f = g at *
        have hgm : (g.map encI).length = g.length := List.length_map ..
        have hgi : i' < g.length := by omega
        have hgd : g.getD i' 0 = g[i'] := by simp [hgi]
        rw [hgd] at hbi' hst
        have hcE := (hc _ (List.getElem_mem hi)).2
        conv => whnf
        repeat' (first | (refine CondG.mk (fun h => ?_) (fun h => ?_) <;> (try simp only [decide_eq_true_eq, decide_eq_false_iff_not, Bool.not_eq_true', Bool.not_eq_false', beq_iff_eq, beq_eq_false_iff_ne, bne_iff_ne, bne_eq_false_iff_eq] at h) <;> (first | (exfalso; first | omega | exact h trivial) | (conv => whnf))) | (refine idx_at _ (by with_reducible rfl) (by first | assumption | omega) ?_; conv => whnf) | fail)
        rw [hPk]
        refine idx_at i' rfl hi' ?_
        conv => whnf
        repeat' (first | (refine CondG.mk (fun h => ?_) (fun h => ?_) <;> (try simp only [decide_eq_true_eq, decide_eq_false_iff_not, Bool.not_eq_true', Bool.not_eq_false', beq_iff_eq, beq_eq_false_iff_ne, bne_iff_ne, bne_eq_false_iff_eq] at h) <;> (first | (exfalso; first | omega | exact h trivial) | (conv => whnf))) | (refine .mk (by first | omega | (unfold roomOK; simp [cutRows]; done) | (unfold roomOK; simp [cutRows]; omega) | (simp [cutRows]; done) | (simp [cutRows]; omega)) ?_; conv => whnf) | ((with_reducible refine row_map (by first | assumption | omega) ?_); conv => whnf) | fail)
        · have hA : E[i'].a = s := strEqW.1 (by assumption)
          have hw : IntKind.i64.wrap (g[i'] + n) = g[i'] + n := wrap_in (by omega) (by omega)
          rw [if_pos hA] at hst
          exact count_next () hk (by rw [wrap_succ hk (by omega), hst, List.map_set, ← hw]; rfl) trivial
        · have hA : ¬ E[i'].a = s := fun q => absurd (strEqW.2 q) (by assumption)
          have hw : IntKind.i64.wrap (g[i'] - n) = g[i'] + -n := by rw [wrap_in (by omega) (by omega)]; omega
          rw [if_neg hA] at hst
          exact count_next () hk (by rw [wrap_succ hk (by omega), hst, List.map_set, ← hw]; rfl) trivial
      · intro _ _
        rw [List.take_length]
        conv => whnf
        repeat' (first | (refine CondG.mk (fun h => ?_) (fun h => ?_) <;> (try simp only [decide_eq_true_eq, decide_eq_false_iff_not, Bool.not_eq_true', Bool.not_eq_false', beq_iff_eq, beq_eq_false_iff_ne, bne_iff_ne, bne_eq_false_iff_eq] at h) <;> (first | (exfalso; first | omega | exact h trivial) | (conv => whnf))) | fail)
        exact meas_next (augS E n P f, sum + n) (by show (C - (sum + n)).toNat < (C - sum).toNat; omega) (by rw [wrap_in (by omega) (by omega)]; rfl) ⟨hF2, by omega⟩
set_option maxRecDepth 100000 in
set_option maxHeartbeats 4000000 in
theorem cap1_pc (d : List Du) (l : List Ly) (hok : LyOk d l) (outer : Int) (hq : 0 ≤ outer ∧ outer ≤ 1000) (x : Du) (hx : x ∈ d) : PCp 44 [.agg (encDu x), .c (.ptr 0 0), .c (.ptr 1 0)] [.box [.lst 3 (l.map encLy)], .box [.int .i64 outer]] (.c (.int .i64 (mostCap l outer x))) [.box [.lst 3 (l.map encLy)], .box [.int .i64 outer]] := by
  have hi := hok.du.each _ hx
  have hfew := hok.few _ hx
  have hol := outV_len l x.key
  have hll := hok.len
  refine fn_sound (mt := mts) tab_fits tab_mixed Tryz.func44 (by rfl) (by kernel_rfl) (by kernel_rfl) Tryz.results44 (Nat.le_of_ble_eq_true (by kernel_rfl)) ?_
  conv => whnf
  repeat' (first | (refine CallG.mk _ _ (by first | exact dOuters_pc l (by omega) hok.rl x.key | exact dMost_pc x (outV l x.key) outer (by omega) (by omega) (hok.o1000 x.key) hq) ?_; conv => whnf) | fail)
  exact .mk ⟨rfl, rfl⟩
theorem mostV_le (inner : Int) (all : List Int) (outer : Int) : ∀ n, mostV inner all outer n ≤ n
  | 0 => Nat.le_refl _
  | n + 1 => by
    have := mostV_le inner all outer n
    rw [mostV]; split <;> omega
set_option maxRecDepth 100000 in
set_option maxHeartbeats 4000000 in
theorem capacity_pc (d : List Du) (l : List Ly) (h0 : lyFault d l = 0) (fr to : ByteArray) (outer : Int) (he : endsErr d fr to outer = 0) :
    PCq 10 [.c (.lst 5 (d.map encDu)), .c (.lst 3 (l.map encLy)), .c (.str fr), .c (.str to), .c (.int .i64 outer)] [] fun r os => os = [] ∧ ∃ n, MinCut (netE (mostCap l outer) d) fr to n ∧ r = .tup [.c (.int .i64 n), .c (.int .i64 0)] := by
  have hdu := du_of h0
  have hok := lyFault_ok h0
  obtain ⟨e1, e2, e3, e4⟩ := ends_ok he
  have hx : ∀ x ∈ l, x.ducts.length ≤ 1000000 := fun x hm => (hok.rl x hm).2
  have hdl := hok.du.len
  have c1 := checkLying_pc d l hx
  rw [h0] at c1
  have c3 := waysFault_pc d (by omega) fr to outer
  rw [he] at c3
  obtain ⟨n1, n2, n3⟩ := net_ok hdu (mostCap l outer)
  have hnl := net_len (mostCap l outer) d
  have c4 := network_pc 44 (mostCap l outer) d l outer (by omega) (fun x hx => cap1_pc d l hok outer ⟨by omega, by omega⟩ x hx)
  have hcap : ∀ e ∈ netE (mostCap l outer) d, 0 ≤ e.cap ∧ e.cap ≤ 1000000 := fun e hm => by
    obtain ⟨x, _, hp, rfl⟩ := net_mem hm
    refine ⟨Int.le_of_lt hp, ?_⟩
    show mostCap l outer x ≤ _
    unfold mostCap
    have := mostV_le x.inner (outV l x.key) outer (20 - (outV l x.key).length)
    omega
  refine fn_soundX (mt := mts) tab_fits tab_mixed Tryz.func10 (by rfl) (by kernel_rfl) (by kernel_rfl) Tryz.results10 (Nat.le_of_ble_eq_true (by kernel_rfl)) ?_
  conv => whnf
  repeat' (first | (refine CondG.mk (fun h => ?_) (fun h => ?_) <;> (try simp only [decide_eq_true_eq, decide_eq_false_iff_not, Bool.not_eq_true', Bool.not_eq_false', beq_iff_eq, beq_eq_false_iff_ne, bne_iff_ne, bne_eq_false_iff_eq] at h) <;> (first | (exfalso; first | omega | exact h trivial | contradiction | (simp_all [eqRes]; done)) | (conv => whnf))) | (refine  CallX.mk _ _ (by first | exact c1 | exact c3 | exact c4) ?_; conv => whnf) | fail)
  refine .ex _ (gFlow_pc (netE (mostCap l outer) d) fr to 97 pass_pc n1 (by omega) e3 hcap) ?_
  rintro _ _ ⟨rfl, n, hM, rfl⟩
  conv => whnf
  skip
  exact .mk _ _ ⟨rfl, n, hM, rfl⟩ (.mk ⟨rfl, rfl⟩)
end Go.Proofs.YtghjhjbfkcnhaaaGreat

namespace Go.Proofs.YtghjhjbfkcnhaaaGreat
set_option linter.unusedVariables false
set_option linter.unusedSimpArgs false
open Abs

abbrev cA : V := .str ⟨#[97]⟩
abbrev cB : V := .str ⟨#[98]⟩
abbrev cC : V := .str ⟨#[99]⟩
abbrev n1 : V := .int .i64 1
abbrev tSites : V := .lst 2 [[cA, .int .i64 1], [cB, .int .i64 4]]
abbrev tCables : V := .lst 5 [[cC, cA, cB, .int .i64 5, .int .i64 1]]
abbrev tinyL : List V := [tSites, tCables, .nils]
abbrev kindsO : Ob := .map 2 [(0, .c cA, .c (.int .i64 1)), (1, .c cB, .c (.int .i64 4))]
abbrev cabsO : Ob := .map 1 [(0, .c cC, .agg [cC, cA, cB, .int .i64 5, .int .i64 1])]
abbrev webO : List Ob := [.box [tSites, tCables, .nils, .mp 1, .mp 2, .mp 3, .nilm], kindsO, cabsO, .map 0 []]
set_option maxRecDepth 100000 in
set_option maxHeartbeats 4000000 in
theorem tiny_c : PCp 38 [] [] (.agg tinyL) [] := by
  refine fn_sound (mt := mts) tab_fits tab_mixed Tryz.func38 (by rfl) (by kernel_rfl) (by kernel_rfl) Tryz.results38 (Nat.le_of_ble_eq_true (by kernel_rfl)) ?_
  conv => whnf
  skip
  all_goals first | exact .mk ⟨rfl, rfl⟩ | trace_state
set_option maxRecDepth 100000 in
set_option maxHeartbeats 4000000 in
theorem siteF_c1 : PCp 216 [.agg [cA, .int .i64 1]] [] (.c (.int .i64 0)) [] := by
  refine fn_sound (mt := mts) tab_fits tab_mixed Tryz.func216 (by rfl) (by kernel_rfl) (by kernel_rfl) Tryz.results216 (Nat.le_of_ble_eq_true (by kernel_rfl)) ?_
  conv => whnf
  repeat' (first | (refine CondG.mk (fun h => absurd h (by decide +kernel)) (fun h => ?_); clear h; conv => whnf) | (refine  CallX.mk _ _ (by first | exact bKey_pc _ | exact bOut_pc _ _ _) ?_; conv => whnf) | fail)
  all_goals first | exact .mk ⟨rfl, rfl⟩ | trace_state
set_option maxRecDepth 100000 in
set_option maxHeartbeats 4000000 in
theorem siteF_c2 : PCp 216 [.agg [cB, .int .i64 4]] [] (.c (.int .i64 0)) [] := by
  refine fn_sound (mt := mts) tab_fits tab_mixed Tryz.func216 (by rfl) (by kernel_rfl) (by kernel_rfl) Tryz.results216 (Nat.le_of_ble_eq_true (by kernel_rfl)) ?_
  conv => whnf
  repeat' (first | (refine CondG.mk (fun h => absurd h (by decide +kernel)) (fun h => ?_); clear h; conv => whnf) | (refine  CallX.mk _ _ (by first | exact bKey_pc _ | exact bOut_pc _ _ _) ?_; conv => whnf) | fail)
  all_goals first | exact .mk ⟨rfl, rfl⟩ | trace_state
set_option maxRecDepth 100000 in
set_option maxHeartbeats 4000000 in
theorem sitesF_c : PCp 204 [.c tSites] [] (.c (.int .i64 0)) [] := by
  refine fn_sound (mt := mts) tab_fits tab_mixed Tryz.func204 (by rfl) (by kernel_rfl) (by kernel_rfl) Tryz.results204 (Nat.le_of_ble_eq_true (by kernel_rfl)) ?_
  conv => whnf
  repeat' (first | (refine CondG.mk (fun h => ?_) (fun h => absurd h (by decide +kernel)); clear h; conv => whnf) | (refine CondG.mk (fun h => absurd h (by decide +kernel)) (fun h => ?_); clear h; conv => whnf) | (refine Split.mk (fun h => ?_) (fun h => absurd h (by decide +kernel)); clear h; conv => whnf) | (refine Split.mk (fun h => absurd h (by decide +kernel)) (fun h => ?_); clear h; conv => whnf) | (refine  CallX.mk _ _ (by first | exact siteF_c1 | exact siteF_c2) ?_; conv => whnf) | (refine IdxG.mk _ ⟨by decide, by rfl⟩ ?_; conv => whnf) | (refine LoopG.un 12 ?_; conv => whnf) | fail)
  all_goals first | exact .mk ⟨rfl, rfl⟩ | trace_state
set_option maxRecDepth 100000 in
set_option maxHeartbeats 4000000 in
theorem cabF_c : PCp 217 [.agg [cC, cA, cB, .int .i64 5, .int .i64 1], .c (.mp 0)] [kindsO] (.c (.int .i64 0)) [kindsO] := by
  refine fn_sound (mt := mts) tab_fits tab_mixed Tryz.func217 (by rfl) (by kernel_rfl) (by kernel_rfl) Tryz.results217 (Nat.le_of_ble_eq_true (by kernel_rfl)) ?_
  conv => whnf
  repeat' (first | (refine CondG.mk (fun h => absurd h (by decide +kernel)) (fun h => ?_); clear h; conv => whnf) | (refine Split.mk (fun h => absurd h (by decide +kernel)) (fun h => ?_); clear h; conv => whnf) | (refine  CallX.mk _ _ (by first | exact bKey_pc _ | exact bOut_pc _ _ _) ?_; conv => whnf) | (refine look_ix 0 (by rfl) (by decide +kernel) ?_; conv => whnf) | (refine look_ix 1 (by rfl) (by decide +kernel) ?_; conv => whnf) | fail)
  all_goals first | exact .mk ⟨rfl, rfl⟩ | trace_state
set_option maxRecDepth 100000 in
set_option maxHeartbeats 4000000 in
theorem cabsF_c : PCp 205 [.c tCables, .c (.mp 0)] [kindsO] (.c (.int .i64 0)) [kindsO] := by
  refine fn_sound (mt := mts) tab_fits tab_mixed Tryz.func205 (by rfl) (by kernel_rfl) (by kernel_rfl) Tryz.results205 (Nat.le_of_ble_eq_true (by kernel_rfl)) ?_
  conv => whnf
  repeat' (first | (refine CondG.mk (fun h => ?_) (fun h => absurd h (by decide +kernel)); clear h; conv => whnf) | (refine CondG.mk (fun h => absurd h (by decide +kernel)) (fun h => ?_); clear h; conv => whnf) | (refine Split.mk (fun h => absurd h (by decide +kernel)) (fun h => ?_); clear h; conv => whnf) | (refine  CallX.mk _ _ (by exact cabF_c) ?_; conv => whnf) | (refine IdxG.mk _ ⟨by decide, by rfl⟩ ?_; conv => whnf) | (refine LoopG.un 12 ?_; conv => whnf) | fail)
  all_goals first | exact .mk ⟨rfl, rfl⟩ | trace_state
set_option maxRecDepth 100000 in
set_option maxHeartbeats 4000000 in
theorem splsF_c : PCp 206 [.agg tinyL, .c (.mp 0)] [kindsO] (.c (.int .i64 0)) [kindsO] := by
  refine fn_sound (mt := mts) tab_fits tab_mixed Tryz.func206 (by rfl) (by kernel_rfl) (by kernel_rfl) Tryz.results206 (Nat.le_of_ble_eq_true (by kernel_rfl)) ?_
  conv => whnf
  repeat' (first | (refine CondG.mk (fun h => ?_) (fun h => absurd h (by decide +kernel)); clear h; conv => whnf) | (refine CondG.mk (fun h => absurd h (by decide +kernel)) (fun h => ?_); clear h; conv => whnf) | (refine IdxG.mk _ ⟨by decide, by rfl⟩ ?_; conv => whnf) | (refine upd_no (by decide +kernel) ?_; conv => whnf) | (refine LoopG.un 12 ?_; conv => whnf) | fail)
  all_goals first | exact .mk ⟨rfl, rfl⟩ | trace_state
set_option maxRecDepth 100000 in
set_option maxHeartbeats 4000000 in
theorem checkPlant_c : PCp 172 [.agg tinyL] [] (.c (.int .i64 0)) [] := by
  refine fn_sound (mt := mts) tab_fits tab_mixed Tryz.func172 (by rfl) (by kernel_rfl) (by kernel_rfl) Tryz.results172 (Nat.le_of_ble_eq_true (by kernel_rfl)) ?_
  conv => whnf
  repeat' (first | (refine CondG.mk (fun h => ?_) (fun h => absurd h (by decide +kernel)); clear h; conv => whnf) | (refine CondG.mk (fun h => absurd h (by decide +kernel)) (fun h => ?_); clear h; conv => whnf) | (refine  CallX.mk _ _ (by first | exact sitesF_c | exact cabsF_c | exact splsF_c) ?_; conv => whnf) | (refine IdxG.mk _ ⟨by decide, by rfl⟩ ?_; conv => whnf) | (refine upd_no (by decide +kernel) ?_; conv => whnf) | (refine LoopG.un 12 ?_; conv => whnf) | fail)
  all_goals first | exact .mk ⟨rfl, rfl⟩ | trace_state
theorem sbool {a b : Bool} (h : a = b) : oneOf [S.c (.bool a)] = S.c (.bool b) := by rw [h]; rfl
set_option maxRecDepth 100000 in
set_option maxHeartbeats 4000000 in
theorem siteC1_c : PCp 174 [.agg [cA, .int .i64 1], .c (.ptr 0 0)] [.box [cB]] (.c (.bool false)) [.box [cB]] := by
  refine fn_sound (mt := mts) tab_fits tab_mixed Tryz.func174 (by rfl) (by kernel_rfl) (by kernel_rfl) Tryz.results174 (Nat.le_of_ble_eq_true (by kernel_rfl)) ?_
  conv => whnf
  skip
  exact .mk ⟨sbool (by decide +kernel), rfl⟩
set_option maxRecDepth 100000 in
set_option maxHeartbeats 4000000 in
theorem siteC2_c : PCp 174 [.agg [cB, .int .i64 4], .c (.ptr 0 0)] [.box [cB]] (.c (.bool true)) [.box [cB]] := by
  refine fn_sound (mt := mts) tab_fits tab_mixed Tryz.func174 (by rfl) (by kernel_rfl) (by kernel_rfl) Tryz.results174 (Nat.le_of_ble_eq_true (by kernel_rfl)) ?_
  conv => whnf
  skip
  exact .mk ⟨sbool (by decide +kernel), rfl⟩
set_option maxRecDepth 100000 in
set_option maxHeartbeats 4000000 in
theorem siteIx_c : PCp 207 [.c tSites, .c (.fn 174 [.ptr 0 0])] [.box [cB]] (.c (.int .i64 1)) [.box [cB]] := by
  refine fn_sound (mt := mts) tab_fits tab_mixed Tryz.func207 (by rfl) (by kernel_rfl) (by kernel_rfl) Tryz.results207 (Nat.le_of_ble_eq_true (by kernel_rfl)) ?_
  conv => whnf
  repeat' (first | (refine CondG.mk (fun h => ?_) (fun h => absurd h (by decide +kernel)); clear h; conv => whnf) | (refine CondG.mk (fun h => absurd h (by decide +kernel)) (fun h => ?_); clear h; conv => whnf) | (refine  CallX.mk _ _ (by first | exact siteC1_c | exact siteC2_c) ?_; conv => whnf) | (refine IdxG.mk _ ⟨by decide, by rfl⟩ ?_; conv => whnf) | (refine LoopG.un 12 ?_; conv => whnf) | fail)
  all_goals first | exact .mk ⟨rfl, rfl⟩ | trace_state
set_option maxRecDepth 100000 in
set_option maxHeartbeats 4000000 in
theorem siteCt_c : PCp 173 [.c tSites, .c (.fn 174 [.ptr 0 0])] [.box [cB]] (.c (.bool true)) [.box [cB]] := by
  refine fn_sound (mt := mts) tab_fits tab_mixed Tryz.func173 (by rfl) (by kernel_rfl) (by kernel_rfl) Tryz.results173 (Nat.le_of_ble_eq_true (by kernel_rfl)) ?_
  conv => whnf
  repeat' (first | (refine  CallX.mk _ _ (by exact siteIx_c) ?_; conv => whnf) | fail)
  all_goals first | exact .mk ⟨rfl, rfl⟩ | trace_state
set_option maxRecDepth 100000 in
set_option maxHeartbeats 4000000 in
theorem siteFault_c : PCp 134 [.agg tinyL, .c cB] [] (.c (.int .i64 0)) [] := by
  refine fn_sound (mt := mts) tab_fits tab_mixed Tryz.func134 (by rfl) (by kernel_rfl) (by kernel_rfl) Tryz.results134 (Nat.le_of_ble_eq_true (by kernel_rfl)) ?_
  conv => whnf
  repeat' (first | (refine CondG.mk (fun h => absurd h (by decide +kernel)) (fun h => ?_); clear h; conv => whnf) | (refine Split.mk (fun h => ?_) (fun h => absurd h (by decide +kernel)); clear h; conv => whnf) | (refine  CallX.mk _ _ (by first | exact checkPlant_c | exact siteCt_c) ?_; conv => whnf) | fail)
  all_goals first | exact .mk ⟨rfl, rfl⟩ | trace_state
set_option maxRecDepth 100000 in
set_option maxHeartbeats 4000000 in
theorem webNew_c : PCp 135 [.agg tinyL] [] (.c (.ptr 0 0)) webO := by
  refine fn_sound (mt := mts) tab_fits tab_mixed Tryz.func135 (by rfl) (by kernel_rfl) (by kernel_rfl) Tryz.results135 (Nat.le_of_ble_eq_true (by kernel_rfl)) ?_
  conv => whnf
  repeat' (first | (refine CondG.mk (fun h => ?_) (fun h => absurd h (by decide +kernel)); clear h; conv => whnf) | (refine CondG.mk (fun h => absurd h (by decide +kernel)) (fun h => ?_); clear h; conv => whnf) | (refine IdxG.mk _ ⟨by decide, by rfl⟩ ?_; conv => whnf) | (refine upd_no (by decide +kernel) ?_; conv => whnf) | (refine LoopG.un 12 ?_; conv => whnf) | fail)
  all_goals first | exact .mk ⟨rfl, rfl⟩ | trace_state
set_option maxRecDepth 100000 in
set_option maxHeartbeats 4000000 in
theorem webHas_c : PCp 136 [.c (.ptr 0 0), .agg [cC, n1]] webO (.c (.bool true)) webO := by
  refine fn_sound (mt := mts) tab_fits tab_mixed Tryz.func136 (by rfl) (by kernel_rfl) (by kernel_rfl) Tryz.results136 (Nat.le_of_ble_eq_true (by kernel_rfl)) ?_
  conv => whnf
  repeat' (first | (refine Split.mk (fun h => ?_) (fun h => absurd h (by decide +kernel)); clear h; conv => whnf) | (refine  CallX.mk _ _ (by exact bOut_pc _ _ _) ?_; conv => whnf) | (refine look_ix 0 (by rfl) (by decide +kernel) ?_; conv => whnf) | fail)
  all_goals first | exact .mk ⟨rfl, rfl⟩ | exact .mk ⟨sbool (by decide +kernel), rfl⟩ | trace_state
set_option maxRecDepth 100000 in
set_option maxHeartbeats 4000000 in
theorem webTouches_c : PCp 137 [.c (.ptr 0 0), .agg [cC, n1], .c cB] webO (.c (.bool true)) webO := by
  refine fn_sound (mt := mts) tab_fits tab_mixed Tryz.func137 (by rfl) (by kernel_rfl) (by kernel_rfl) Tryz.results137 (Nat.le_of_ble_eq_true (by kernel_rfl)) ?_
  conv => whnf
  repeat' (first | (refine Split.mk (fun h => ?_) (fun h => absurd h (by decide +kernel)); clear h; conv => whnf) | (refine Split.mk (fun h => absurd h (by decide +kernel)) (fun h => ?_); clear h; conv => whnf) | (refine look_ix 0 (by rfl) (by decide +kernel) ?_; conv => whnf) | fail)
  all_goals first | exact .mk ⟨rfl, rfl⟩ | exact .mk ⟨sbool (by decide +kernel), rfl⟩ | trace_state
set_option maxRecDepth 100000 in
set_option maxHeartbeats 4000000 in
theorem endOf_c : PCp 82 [.agg tinyL, .agg [cC, n1], .c cB] [] (.tup [.c (.ptr 0 0), .c (.int .i64 0)]) webO := by
  refine fn_sound (mt := mts) tab_fits tab_mixed Tryz.func82 (by rfl) (by kernel_rfl) (by kernel_rfl) Tryz.results82 (Nat.le_of_ble_eq_true (by kernel_rfl)) ?_
  conv => whnf
  repeat' (first | (refine CondG.mk (fun h => absurd h (by decide +kernel)) (fun h => ?_); clear h; conv => whnf) | (refine  CallX.mk _ _ (by first | exact siteFault_c | exact webNew_c | exact webHas_c | exact webTouches_c) ?_; conv => whnf) | fail)
  all_goals first | exact .mk ⟨rfl, rfl⟩ | trace_state
abbrev spl0 : List V := [.str ⟨#[]⟩, .str ⟨#[]⟩, .int .i64 0, .str ⟨#[]⟩, .int .i64 0, .int .i64 0]
set_option maxRecDepth 100000 in
set_option maxHeartbeats 4000000 in
theorem webAt_c (s : V) (hs : s = cA ∨ s = cB) : PCp 83 [.c (.ptr 0 0), .agg [s, cC, n1]] webO (.tup [.agg spl0, .c (.bool false)]) webO := by
  rcases hs with rfl | rfl
  · refine fn_sound (mt := mts) tab_fits tab_mixed Tryz.func83 (by rfl) (by kernel_rfl) (by kernel_rfl) Tryz.results83 (Nat.le_of_ble_eq_true (by kernel_rfl)) ?_
    conv => whnf
    repeat' (first | (refine look_no (by decide +kernel) ?_; conv => whnf) | fail)
    all_goals first | exact .mk ⟨rfl, rfl⟩ | trace_state
  · refine fn_sound (mt := mts) tab_fits tab_mixed Tryz.func83 (by rfl) (by kernel_rfl) (by kernel_rfl) Tryz.results83 (Nat.le_of_ble_eq_true (by kernel_rfl)) ?_
    conv => whnf
    repeat' (first | (refine look_no (by decide +kernel) ?_; conv => whnf) | fail)
    all_goals first | exact .mk ⟨rfl, rfl⟩ | trace_state
set_option maxRecDepth 100000 in
set_option maxHeartbeats 4000000 in
theorem webHop_c : PCp 138 [.c (.ptr 0 0), .agg [cB, cC, n1]] webO (.agg [cC, n1, cB, cA]) webO := by
  refine fn_sound (mt := mts) tab_fits tab_mixed Tryz.func138 (by rfl) (by kernel_rfl) (by kernel_rfl) Tryz.results138 (Nat.le_of_ble_eq_true (by kernel_rfl)) ?_
  conv => whnf
  repeat' (first | (refine CondG.mk (fun h => absurd h (by decide +kernel)) (fun h => ?_); clear h; conv => whnf) | (refine look_ix 0 (by rfl) (by decide +kernel) ?_; conv => whnf) | fail)
  all_goals first | exact .mk ⟨rfl, rfl⟩ | trace_state
set_option maxRecDepth 100000 in
set_option maxHeartbeats 4000000 in
theorem webNext_c : PCp 139 [.c (.ptr 0 0), .agg [cC, n1, cB, cA]] webO (.tup [.agg [.str ⟨#[]⟩, .str ⟨#[]⟩, .int .i64 0], .c (.bool false)]) webO := by
  refine fn_sound (mt := mts) tab_fits tab_mixed Tryz.func139 (by rfl) (by kernel_rfl) (by kernel_rfl) Tryz.results139 (Nat.le_of_ble_eq_true (by kernel_rfl)) ?_
  conv => whnf
  repeat' (first | (refine CondG.mk (fun h => ?_) (fun h => absurd h (by decide +kernel)); clear h; conv => whnf) | (refine  CallX.mk _ _ (by exact webAt_c cA (.inl rfl)) ?_; conv => whnf) | fail)
  all_goals first | exact .mk ⟨rfl, rfl⟩ | trace_state
set_option maxRecDepth 100000 in
set_option maxHeartbeats 4000000 in
theorem webPath_c : PCp 84 [.c (.ptr 0 0), .agg [cB, cC, n1]] webO (.tup [.c (.row 4), .c (.bool false)]) (webO ++ [.row 227 4 [[cC, n1, cB, cA]]]) := by
  refine fn_sound (mt := mts) tab_fits tab_mixed Tryz.func84 (by rfl) (by kernel_rfl) (by kernel_rfl) Tryz.results84 (Nat.le_of_ble_eq_true (by kernel_rfl)) ?_
  conv => whnf
  repeat' (first | (refine CondG.mk (fun h => ?_) (fun h => absurd h (by decide +kernel)); clear h; conv => whnf) | (refine  CallX.mk _ _ (by first | exact webHop_c | exact webNext_c) ?_; conv => whnf) | (refine .mk (by first | decide | (unfold roomOK; decide)) ?_; conv => whnf) | (refine LoopG.un 12 ?_; conv => whnf) | fail)
  all_goals first | exact .mk ⟨rfl, rfl⟩ | trace_state
set_option maxRecDepth 100000 in
set_option maxHeartbeats 4000000 in
theorem path_c : PCp 37 [.agg tinyL, .agg [cC, n1], .c cB] [] (.tup [.c (.row 0), .c (.int .i64 0)]) [.row 227 4 [[cC, n1, cB, cA]]] := by
  refine fn_sound (mt := mts) tab_fits tab_mixed Tryz.func37 (by rfl) (by kernel_rfl) (by kernel_rfl) Tryz.results37 (Nat.le_of_ble_eq_true (by kernel_rfl)) ?_
  conv => whnf
  repeat' (first | (refine CondG.mk (fun h => absurd h (by decide +kernel)) (fun h => ?_); clear h; conv => whnf) | (refine  CallX.mk _ _ (by first | exact endOf_c | exact webAt_c cB (.inr rfl) | exact webPath_c) ?_; conv => whnf) | fail)
  all_goals first | exact .mk ⟨rfl, rfl⟩ | trace_state
end Go.Proofs.YtghjhjbfkcnhaaaGreat

namespace Go.Proofs.YtghjhjbfkcnhaaaGreat
set_option linter.unusedVariables false
set_option linter.unusedSimpArgs false
open Abs

abbrev trP : V := .lst 1 [[.int .i64 10], [.int .i64 10], [.int .i64 4], [.int .i64 4]]
abbrev trR : List V := [.int .i64 5, .int .i64 2, .int .i64 3, .int .i64 0, .int .i64 1]
set_option maxRecDepth 100000 in
set_option maxHeartbeats 4000000 in
theorem isReading_c (n : Int) (h : -10000 ≤ n ∧ n ≤ 10000) : PCp 175 [.c (.int .i64 n)] [] (.c (.bool true)) [] := by
  refine fn_sound (mt := mts) tab_fits tab_mixed Tryz.func175 (by rfl) (by kernel_rfl) (by kernel_rfl) Tryz.results175 (Nat.le_of_ble_eq_true (by kernel_rfl)) ?_
  conv => whnf
  repeat' (first | (refine  CallX.mk _ _ (by exact bOut_pc _ _ _) ?_; conv => whnf) | fail)
  exact finb (by simp; omega)
set_option maxRecDepth 100000 in
set_option maxHeartbeats 4000000 in
theorem checkTrace_c : PCp 140 [.c trP] [] (.c (.int .i64 0)) [] := by
  refine fn_sound (mt := mts) tab_fits tab_mixed Tryz.func140 (by rfl) (by kernel_rfl) (by kernel_rfl) Tryz.results140 (Nat.le_of_ble_eq_true (by kernel_rfl)) ?_
  conv => whnf
  repeat' (first | (refine CondG.mk (fun h => ?_) (fun h => absurd h (by decide +kernel)); clear h; conv => whnf) | (refine CondG.mk (fun h => absurd h (by decide +kernel)) (fun h => ?_); clear h; conv => whnf) | (refine  CallX.mk _ _ (by exact isReading_c _ (by decide)) ?_; conv => whnf) | (refine IdxG.mk _ ⟨by decide, by rfl⟩ ?_; conv => whnf) | (refine LoopG.un 12 ?_; conv => whnf) | fail)
  all_goals first | exact .mk ⟨rfl, rfl⟩ | trace_state
theorem sboolT {a b : Bool} (h : a = b) : oneOf [S.c (.bool a)] = S.c (.bool b) := by rw [h]; rfl
set_option maxRecDepth 100000 in
set_option maxHeartbeats 4000000 in
theorem bLowest_c : PCp 176 [.agg [.int .i64 0, .int .i64 1]] [] (.c (.bool true)) [] := by
  refine fn_sound (mt := mts) tab_fits tab_mixed Tryz.func176 (by rfl) (by kernel_rfl) (by kernel_rfl) Tryz.results176 (Nat.le_of_ble_eq_true (by kernel_rfl)) ?_
  conv => whnf
  repeat' (first | (refine CondG.mk (fun h => ?_) (fun h => absurd h (by decide +kernel)); clear h; conv => whnf) | (refine CondG.mk (fun h => absurd h (by decide +kernel)) (fun h => ?_); clear h; conv => whnf) | (refine .mk (by first | decide | (unfold roomOK; decide)) ?_; conv => whnf) | (refine LoopG.un 12 ?_; conv => whnf) | fail)
  all_goals first | exact .mk ⟨rfl, rfl⟩ | exact .mk ⟨sboolT (by decide +kernel), rfl⟩ | trace_state
set_option maxRecDepth 100000 in
set_option maxHeartbeats 4000000 in
theorem checkRules_c : PCp 141 [.agg trR] [] (.c (.int .i64 0)) [] := by
  refine fn_sound (mt := mts) tab_fits tab_mixed Tryz.func141 (by rfl) (by kernel_rfl) (by kernel_rfl) Tryz.results141 (Nat.le_of_ble_eq_true (by kernel_rfl)) ?_
  conv => whnf
  repeat' (first | (refine CondG.mk (fun h => absurd h (by decide +kernel)) (fun h => ?_); clear h; conv => whnf) | (refine Split.mk (fun h => absurd h (by decide +kernel)) (fun h => ?_); clear h; conv => whnf) | (refine  CallX.mk _ _ (by first | exact bOut_pc _ _ _ | exact bLowest_c) ?_; conv => whnf) | fail)
  all_goals first | exact .mk ⟨rfl, rfl⟩ | trace_state
set_option maxRecDepth 100000 in
set_option maxHeartbeats 4000000 in
theorem traceFault_c : PCp 85 [.c trP, .agg trR] [] (.c (.int .i64 0)) [] := by
  refine fn_sound (mt := mts) tab_fits tab_mixed Tryz.func85 (by rfl) (by kernel_rfl) (by kernel_rfl) Tryz.results85 (Nat.le_of_ble_eq_true (by kernel_rfl)) ?_
  conv => whnf
  repeat' (first | (refine CallG.mk _ _ (by first | exact checkTrace_c | exact checkRules_c | exact first_pc [0, 0] (by decide)) ?_; conv => whnf) | fail)
  all_goals first | exact .mk ⟨rfl, rfl⟩ | trace_state
set_option maxRecDepth 100000 in
set_option maxHeartbeats 4000000 in
theorem sum_c1 : PCp 142 [.c (.lst 1 [[.int .i64 10], [.int .i64 10]])] [] (.c (.int .i64 20)) [] := by
  refine fn_sound (mt := mts) tab_fits tab_mixed Tryz.func142 (by rfl) (by kernel_rfl) (by kernel_rfl) Tryz.results142 (Nat.le_of_ble_eq_true (by kernel_rfl)) ?_
  conv => whnf
  repeat' (first | (refine CondG.mk (fun h => ?_) (fun h => absurd h (by decide +kernel)); clear h; conv => whnf) | (refine CondG.mk (fun h => absurd h (by decide +kernel)) (fun h => ?_); clear h; conv => whnf) | (refine IdxG.mk _ ⟨by decide, by rfl⟩ ?_; conv => whnf) | (refine LoopG.un 12 ?_; conv => whnf) | fail)
  all_goals first | exact .mk ⟨rfl, rfl⟩ | trace_state
set_option maxRecDepth 100000 in
set_option maxHeartbeats 4000000 in
theorem sum_c2 : PCp 142 [.c (.lst 1 [[.int .i64 4], [.int .i64 4]])] [] (.c (.int .i64 8)) [] := by
  refine fn_sound (mt := mts) tab_fits tab_mixed Tryz.func142 (by rfl) (by kernel_rfl) (by kernel_rfl) Tryz.results142 (Nat.le_of_ble_eq_true (by kernel_rfl)) ?_
  conv => whnf
  repeat' (first | (refine CondG.mk (fun h => ?_) (fun h => absurd h (by decide +kernel)); clear h; conv => whnf) | (refine CondG.mk (fun h => absurd h (by decide +kernel)) (fun h => ?_); clear h; conv => whnf) | (refine IdxG.mk _ ⟨by decide, by rfl⟩ ?_; conv => whnf) | (refine LoopG.un 12 ?_; conv => whnf) | fail)
  all_goals first | exact .mk ⟨rfl, rfl⟩ | trace_state
set_option maxRecDepth 100000 in
set_option maxHeartbeats 4000000 in
theorem fraction_c : PCp 143 [.c (.int .i64 12), .c (.int .i64 2)] [] (.agg [.int .i64 6, .int .i64 1]) [] := by
  have g : PCp 177 [.c (.int .i64 12), .c (.int .i64 2)] [] (.c (.int .i64 2)) [] := by
    refine fn_sound (mt := mts) tab_fits tab_mixed Tryz.func177 (by rfl) (by kernel_rfl) (by kernel_rfl) Tryz.results177 (Nat.le_of_ble_eq_true (by kernel_rfl)) ?_
    conv => whnf
    repeat' (first | (refine CondG.mk (fun h => ?_) (fun h => absurd h (by decide +kernel)); clear h; conv => whnf) | (refine CondG.mk (fun h => absurd h (by decide +kernel)) (fun h => ?_); clear h; conv => whnf) | (refine .mk (by first | decide | (unfold roomOK; decide)) ?_; conv => whnf) | (refine LoopG.un 12 ?_; conv => whnf) | fail)
    all_goals first | exact .mk ⟨rfl, rfl⟩ | trace_state
  refine fn_sound (mt := mts) tab_fits tab_mixed Tryz.func143 (by rfl) (by kernel_rfl) (by kernel_rfl) Tryz.results143 (Nat.le_of_ble_eq_true (by kernel_rfl)) ?_
  conv => whnf
  repeat' (first | (refine  CallX.mk _ _ (by exact g) ?_; conv => whnf) | (refine .mk (by first | decide | (unfold roomOK; decide)) ?_; conv => whnf) | fail)
  all_goals first | exact .mk ⟨rfl, rfl⟩ | trace_state
set_option maxRecDepth 100000 in
set_option maxHeartbeats 4000000 in
theorem excess_c : PCp 86 [.c trP, .agg trR] [] (.c (.row 0)) [.row 88 2 [[.int .i64 6, .int .i64 1]]] := by
  refine fn_sound (mt := mts) tab_fits tab_mixed Tryz.func86 (by rfl) (by kernel_rfl) (by kernel_rfl) Tryz.results86 (Nat.le_of_ble_eq_true (by kernel_rfl)) ?_
  conv => whnf
  repeat' (first | (refine CondG.mk (fun h => ?_) (fun h => absurd h (by decide +kernel)); clear h; conv => whnf) | (refine CondG.mk (fun h => absurd h (by decide +kernel)) (fun h => ?_); clear h; conv => whnf) | (refine  CallX.mk _ _ (by first | exact sum_c1 | exact fraction_c) ?_; conv => whnf) | (refine CallG.mk _ _ (by first | exact sum_c1 | exact sum_c2) ?_; conv => whnf) | (refine .mk (by first | decide | (unfold roomOK; decide)) ?_; conv => whnf) | (refine LoopG.un 12 ?_; conv => whnf) | fail)
  all_goals first | exact .mk ⟨rfl, rfl⟩ | trace_state
set_option maxRecDepth 100000 in
set_option maxHeartbeats 4000000 in
theorem down_c : PCp 88 [.c (.int .i64 13), .c (.int .i64 2)] [] (.c (.int .i64 6)) [] := by
  refine fn_sound (mt := mts) tab_fits tab_mixed Tryz.func88 (by rfl) (by kernel_rfl) (by kernel_rfl) Tryz.results88 (Nat.le_of_ble_eq_true (by kernel_rfl)) ?_
  conv => whnf
  repeat' (first | (refine CondG.mk (fun h => absurd h (by decide +kernel)) (fun h => ?_); clear h; conv => whnf) | (refine .mk (by first | decide | (unfold roomOK; decide)) ?_; conv => whnf) | fail)
  all_goals first | exact .mk ⟨rfl, rfl⟩ | trace_state
set_option maxRecDepth 100000 in
set_option maxHeartbeats 4000000 in
theorem flush_c : PCp 87 [.c (.ptr 0 0), .c (.ptr 1 0), .c (.ptr 3 0), .c (.ptr 4 0)] [.box [.int .i64 0], .box [.row 2], .row 88 2 [[.int .i64 6, .int .i64 1]], .box [.nils], .box trR] (.tup []) [.box [.int .i64 (-1)], .box [.row 2], .row 88 2 [[.int .i64 6, .int .i64 1]], .box [.row 5], .box trR, .row 160 2 [[.int .i64 10, .int .i64 6]]] := by
  refine fn_sound (mt := mts) tab_fits tab_mixed Tryz.func87 (by rfl) (by kernel_rfl) (by kernel_rfl) Tryz.results87 (Nat.le_of_ble_eq_true (by kernel_rfl)) ?_
  conv => whnf
  repeat' (first | (refine CondG.mk (fun h => ?_) (fun h => absurd h (by decide +kernel)); clear h; conv => whnf) | (refine CallG.mk _ _ (by exact down_c) ?_; conv => whnf) | (refine .mk (by first | decide | (unfold roomOK; decide)) ?_; conv => whnf) | (refine RowG.mk _ (by rfl) ?_; conv => whnf) | fail)
  all_goals first | exact .mk ⟨rfl, rfl⟩ | trace_state
set_option maxRecDepth 100000 in
set_option maxHeartbeats 4000000 in
theorem detected_c : PCp 39 [.c trP, .agg trR] [] (.tup [.c (.row 0), .c (.int .i64 0)]) [.row 160 2 [[.int .i64 10, .int .i64 6]]] := by
  refine fn_sound (mt := mts) tab_fits tab_mixed Tryz.func39 (by rfl) (by kernel_rfl) (by kernel_rfl) Tryz.results39 (Nat.le_of_ble_eq_true (by kernel_rfl)) ?_
  conv => whnf
  repeat' (first | (refine CondG.mk (fun h => ?_) (fun h => absurd h (by decide +kernel)); clear h; conv => whnf) | (refine CondG.mk (fun h => absurd h (by decide +kernel)) (fun h => ?_); clear h; conv => whnf) | (refine Split.mk (fun h => ?_) (fun h => absurd h (by decide +kernel)); clear h; conv => whnf) | (refine  CallX.mk _ _ (by first | exact traceFault_c | exact excess_c | exact flush_c) ?_; conv => whnf) | (refine .mk (by first | decide | (unfold roomOK; decide)) ?_; conv => whnf) | (refine RowG.mk _ (by rfl) ?_; conv => whnf) | (refine LoopG.un 12 ?_; conv => whnf) | fail)
  all_goals first | exact .mk ⟨rfl, rfl⟩ | trace_state
end Go.Proofs.YtghjhjbfkcnhaaaGreat

namespace Go.Proofs.YtghjhjbfkcnhaaaGreat
set_option linter.unusedVariables false
set_option linter.unusedSimpArgs false
open Abs

set_option maxRecDepth 100000 in
set_option maxHeartbeats 4000000 in
theorem kerrs_pc (l : List Int) (hl : l.length ≤ 1000000) : PCp 13 [.c (.lst 1 (l.map encI))] [] (.c (.int .i64 (firstErr l))) [] := by
  have hlm : (l.map encI).length = l.length := List.length_map ..
  refine fn_sound (mt := mts) tab_fits tab_mixed Tryz.func13 (by rfl) (by kernel_rfl) (by kernel_rfl) Tryz.results13 (Nat.le_of_ble_eq_true (by kernel_rfl)) ?_
  conv => whnf
  refine loop_count (l.length) [] [5, 6, 7] (fun k (_ : Unit) => ⟨[(5, .c (.lst 1 (l.map encI))), (6, .c (.int .i64 (l.map encI).length)), (7, .c (.int .i64 k))], [], 0⟩) (fun k (_ : Unit) => firstErr (l.drop k) = firstErr l) (()) ?_ ?_ ?_
  · conv => whnf
    exact ⟨rfl, rfl⟩
  · intro k _ hk hi
    rw [drop_cons hk, firstErr] at hi
    conv => whnf
    repeat' (first | (refine CondG.mk (fun h => ?_) (fun h => ?_) <;> (try simp only [decide_eq_true_eq, decide_eq_false_iff_not, Bool.not_eq_true', Bool.not_eq_false', beq_iff_eq, beq_eq_false_iff_ne] at h) <;> (first | (exfalso; first | omega | exact h trivial) | (conv => whnf))) | fail)
    refine idx_map k hk rfl ?_
    conv => whnf
    repeat' (first | (refine CondG.mk (fun h => ?_) (fun h => ?_) <;> (try simp only [decide_eq_true_eq, decide_eq_false_iff_not, Bool.not_eq_true', Bool.not_eq_false', beq_iff_eq, beq_eq_false_iff_ne] at h) <;> (first | (exfalso; first | omega | exact h trivial) | (conv => whnf))) | fail)
    · exact fini (by rw [← hi, if_neg (by simpa using h)])
    · refine count_next () hk (by rw [wrap_succ hk (by omega)]; rfl) ?_
      rw [← hi, if_pos (by simpa using h)]
  · intro _ hi
    rw [List.drop_of_length_le (Nat.le_refl _)] at hi
    conv => whnf
    repeat' (first | (refine CondG.mk (fun h => ?_) (fun h => ?_) <;> (try simp only [decide_eq_true_eq, decide_eq_false_iff_not, Bool.not_eq_true', Bool.not_eq_false', beq_iff_eq, beq_eq_false_iff_ne] at h) <;> (first | (exfalso; first | omega | exact h trivial) | (conv => whnf))) | fail)
    exact fini (by rw [← hi]; rfl)
set_option maxRecDepth 100000 in
set_option maxHeartbeats 4000000 in
theorem ready_pc : PCp 9 [] [] (.c (.bool true)) [] := by
  have h1 : seenErr [⟨⟨#[115]⟩, [⟨#[97]⟩], 1⟩] [⟨#[115]⟩] [] = 0 := by decide +kernel
  have h2 : susV [⟨⟨#[115]⟩, [⟨#[97]⟩], 1⟩] [⟨#[115]⟩] [] = [⟨#[97]⟩] := by decide +kernel
  have hF := suspectsP_pc [⟨⟨#[115]⟩, [⟨#[97]⟩], 1⟩] (by simp) [⟨#[115]⟩] []
  rw [if_pos h1, h2, h1] at hF
  have hG := hF.wk (gs := [.c (.lst 3 ([⟨⟨#[115]⟩, [⟨#[97]⟩], 1⟩].map encSv)), .c (.lst 1 ([⟨#[115]⟩].map encS)), .c .nils]) (P2.cons (.refl _) (P2.cons (.refl _) (P2.cons (.c (.nils 1)) P2.nil)))
  have hm : mostX [⟨⟨#[100]⟩, ⟨#[97]⟩, ⟨#[98]⟩, 1, 100⟩] [] ⟨#[100]⟩ 36 = 3 := by decide +kernel
  have ht : twoE [⟨⟨#[100]⟩, ⟨#[97]⟩, ⟨#[98]⟩, 1, 100⟩] [] ⟨#[100]⟩ 36 = 0 := by decide +kernel
  have hM := dMostX_pc [⟨⟨#[100]⟩, ⟨#[97]⟩, ⟨#[98]⟩, 1, 100⟩] [] (by simp) ⟨#[100]⟩ 36
  rw [hm, ht] at hM
  have hN := hM.wk (gs := [.c (.lst 5 ([⟨⟨#[100]⟩, ⟨#[97]⟩, ⟨#[98]⟩, 1, 100⟩].map encDu)), .c .nils, .c (.str ⟨#[100]⟩), .c (.int .i64 36)]) (P2.cons (.refl _) (P2.cons (.c (.nils 3)) (P2.cons (.refl _) (P2.cons (.refl _) P2.nil))))
  have hS := stock_pc ⟨1, 1, ⟨#[100]⟩, ⟨#[116]⟩, ⟨#[]⟩, 5⟩ rfl (by decide +kernel) 1 (by decide) (by decide)
  refine fn_sound (mt := mts) tab_fits tab_mixed Tryz.func9 (by rfl) (by kernel_rfl) (by kernel_rfl) Tryz.results9 (Nat.le_of_ble_eq_true (by kernel_rfl)) ?_
  conv => whnf
  repeat' (first | (refine Split.mk (fun h => ?_) (fun h => absurd h (by decide +kernel)); clear h; conv => whnf) | (refine  CallX.mk _ _ (by first | exact tiny_c | exact path_c | exact detected_c | exact hG | exact hN | exact hS | exact kerrs_pc [0, 0, 0, 0, 0] (by decide)) ?_; conv => whnf) | fail)
  all_goals first | exact .mk ⟨rfl, rfl⟩ | exact .mk ⟨sbool (by decide +kernel), rfl⟩ | trace_state
end Go.Proofs.YtghjhjbfkcnhaaaGreat

namespace Go.Proofs.YtghjhjbfkcnhaaaGreat
set_option linter.unusedVariables false
set_option linter.unusedSimpArgs false
open Abs

theorem u64N {n : Nat} (h : n < 18446744073709551616) : IntKind.u64.wrap (n : Int) = (n : Int) := IntWalk.u64_in _ ⟨by omega, by omega⟩
theorem ofInt_nat (n : Nat) : BitVec.ofInt 64 (n : Int) = BitVec.ofNat 64 n := by
  apply BitVec.eq_of_toNat_eq
  rw [BitVec.toNat_ofInt, BitVec.toNat_ofNat]
  omega
theorem bits_and {a b : Nat} (ha : a < 18446744073709551616) (hb : b < 18446744073709551616) : bitsV .and .u64 (a : Int) (b : Int) = ((a &&& b : Nat) : Int) := by
  have h1 : (BitVec.ofInt 64 (a : Int) &&& BitVec.ofInt 64 (b : Int)).toNat = a &&& b := by
    rw [ofInt_nat, ofInt_nat, BitVec.toNat_and, BitVec.toNat_ofNat, BitVec.toNat_ofNat, Nat.mod_eq_of_lt (by simpa using ha), Nat.mod_eq_of_lt (by simpa using hb)]
  have h2 : a &&& b ≤ a := Nat.and_le_left
  show IntKind.u64.wrap (((BitVec.ofInt 64 (a : Int) &&& BitVec.ofInt 64 (b : Int)).toNat : Nat) : Int) = _
  rw [h1, u64N (by omega)]
theorem shN (x d : Nat) (si : Int) (h : (2 : Int) ^ (min si.toNat IntKind.u64.bits) = (d : Int)) : shV .shr .u64 (x : Int) si = ((x / d : Nat) : Int) := by
  show (x : Int).fdiv _ = _
  rw [h, Int.ofNat_fdiv]
end Go.Proofs.YtghjhjbfkcnhaaaGreat

namespace Go.Proofs.YtghjhjbfkcnhaaaGreat
set_option linter.unusedVariables false
set_option linter.unusedSimpArgs false
open Abs

def lowF : Nat → Nat → Nat
  | 0, _ => 0
  | n + 1, m => if m % 2 = 1 then 0 else lowF n (m / 2) + 1
def low (m : Nat) : Nat := lowF 14 m
def LowLt (a b : Nat) : Prop := ∃ i, a.testBit i = true ∧ b.testBit i = false ∧ ∀ j, j < i → a.testBit j = b.testBit j
theorem LowLt.trans {a b c : Nat} (h1 : LowLt a b) (h2 : LowLt b c) : LowLt a c := by
  obtain ⟨i, a1, a2, a3⟩ := h1
  obtain ⟨k, b1, b2, b3⟩ := h2
  rcases Nat.lt_trichotomy i k with h | h | h
  · exact ⟨i, a1, by rw [← b3 i h]; exact a2, fun j hj => by rw [a3 j hj, b3 j (by omega)]⟩
  · subst h; rw [a2] at b1; cases b1
  · exact ⟨k, by rw [a3 k h]; exact b1, b2, fun j hj => by rw [a3 j (by omega), b3 j hj]⟩
end Go.Proofs.YtghjhjbfkcnhaaaGreat

namespace Go.Proofs.YtghjhjbfkcnhaaaGreat
set_option linter.unusedVariables false
set_option linter.unusedSimpArgs false
open Abs

def o1 (x : Nat) : Nat := (x / 2 &&& 6148914691236517205) + (x &&& 6148914691236517205)
def o2 (x : Nat) : Nat := (x / 4 &&& 3689348814741910323) + (x &&& 3689348814741910323)
def o3 (x : Nat) : Nat := (x / 16 + x) &&& 1085102592571150095
theorem o1_lt (x : Nat) : o1 x ≤ 2 * x := by
  have h1 : x / 2 &&& 6148914691236517205 ≤ x / 2 := Nat.and_le_left
  have h2 : x &&& 6148914691236517205 ≤ x := Nat.and_le_left
  unfold o1; omega
theorem o2_lt (x : Nat) : o2 x ≤ 2 * x := by
  have h1 : x / 4 &&& 3689348814741910323 ≤ x / 4 := Nat.and_le_left
  have h2 : x &&& 3689348814741910323 ≤ x := Nat.and_le_left
  unfold o2; omega
theorem i1 (x : Nat) (h : x < 1099511627776) : IntKind.u64.wrap (bitsV .and .u64 (shV .shr .u64 (x : Int) 1) 6148914691236517205 + bitsV .and .u64 (x : Int) 6148914691236517205) = ((o1 x : Nat) : Int) := by
  have h1 := bits_and (a := x / 2) (b := 6148914691236517205) (by omega) (by decide)
  have h2 := bits_and (a := x) (b := 6148914691236517205) (by omega) (by decide)
  have h3 := o1_lt x
  rw [shN x 2 1 (by decide)]
  exact (congr (congrArg (fun a b : Int => IntKind.u64.wrap (a + b)) h1) h2).trans (u64N (n := o1 x) (by omega))
theorem i2 (x : Nat) (h : x < 1099511627776) : IntKind.u64.wrap (bitsV .and .u64 (shV .shr .u64 (x : Int) 2) 3689348814741910323 + bitsV .and .u64 (x : Int) 3689348814741910323) = ((o2 x : Nat) : Int) := by
  have h1 := bits_and (a := x / 4) (b := 3689348814741910323) (by omega) (by decide)
  have h2 := bits_and (a := x) (b := 3689348814741910323) (by omega) (by decide)
  have h3 := o2_lt x
  rw [shN x 4 2 (by decide)]
  exact (congr (congrArg (fun a b : Int => IntKind.u64.wrap (a + b)) h1) h2).trans (u64N (n := o2 x) (by omega))
end Go.Proofs.YtghjhjbfkcnhaaaGreat

namespace Go.Proofs.YtghjhjbfkcnhaaaGreat
set_option linter.unusedVariables false
set_option linter.unusedSimpArgs false
open Abs

end Go.Proofs.YtghjhjbfkcnhaaaGreat

namespace Go.Proofs.YtghjhjbfkcnhaaaGreat
set_option linter.unusedVariables false
set_option linter.unusedSimpArgs false
open Abs

end Go.Proofs.YtghjhjbfkcnhaaaGreat

namespace Go.Proofs.YtghjhjbfkcnhaaaGreat
set_option linter.unusedVariables false
set_option linter.unusedSimpArgs false
open Abs

end Go.Proofs.YtghjhjbfkcnhaaaGreat

namespace Go.Proofs.YtghjhjbfkcnhaaaGreat
set_option linter.unusedVariables false
set_option linter.unusedSimpArgs false
open Abs

end Go.Proofs.YtghjhjbfkcnhaaaGreat

namespace Go.Proofs.YtghjhjbfkcnhaaaGreat
set_option linter.unusedVariables false
set_option linter.unusedSimpArgs false
open Abs

end Go.Proofs.YtghjhjbfkcnhaaaGreat

namespace Go.Proofs.YtghjhjbfkcnhaaaGreat
set_option linter.unusedVariables false
set_option linter.unusedSimpArgs false
open Abs

end Go.Proofs.YtghjhjbfkcnhaaaGreat

namespace Go.Proofs.YtghjhjbfkcnhaaaGreat
set_option linter.unusedVariables false
set_option linter.unusedSimpArgs false
open Abs

end Go.Proofs.YtghjhjbfkcnhaaaGreat

namespace Go.Proofs.YtghjhjbfkcnhaaaGreat
set_option linter.unusedVariables false
set_option linter.unusedSimpArgs false
open Abs

end Go.Proofs.YtghjhjbfkcnhaaaGreat

namespace Go.Proofs.YtghjhjbfkcnhaaaGreat
set_option linter.unusedVariables false
set_option linter.unusedSimpArgs false
open Abs

end Go.Proofs.YtghjhjbfkcnhaaaGreat

namespace Go.Proofs.YtghjhjbfkcnhaaaGreat
set_option linter.unusedVariables false
set_option linter.unusedSimpArgs false
open Abs

end Go.Proofs.YtghjhjbfkcnhaaaGreat

namespace Go.Proofs.YtghjhjbfkcnhaaaGreat
set_option linter.unusedVariables false
set_option linter.unusedSimpArgs false
open Abs

end Go.Proofs.YtghjhjbfkcnhaaaGreat

namespace Go.Proofs.YtghjhjbfkcnhaaaGreat
set_option linter.unusedVariables false
set_option linter.unusedSimpArgs false
open Abs

end Go.Proofs.YtghjhjbfkcnhaaaGreat

namespace Go.Proofs.YtghjhjbfkcnhaaaGreat
set_option linter.unusedVariables false
set_option linter.unusedSimpArgs false
open Abs

end Go.Proofs.YtghjhjbfkcnhaaaGreat

namespace Go.Proofs.YtghjhjbfkcnhaaaGreat
set_option linter.unusedVariables false
set_option linter.unusedSimpArgs false
open Abs

theorem flat_len {α : Type} {n : Nat} : ∀ {L : List (List α)}, (∀ q ∈ L, q.length ≤ n) → L.flatten.length ≤ n * L.length
  | [], _ => by simp
  | a :: r, h => by
    have ih := flat_len (n := n) (L := r) (fun q hq => h q (by simp [hq]))
    have := h a (by simp)
    simp only [List.flatten_cons, List.length_append, List.length_cons, Nat.mul_succ]; omega
end Go.Proofs.YtghjhjbfkcnhaaaGreat

namespace Go.Proofs.YtghjhjbfkcnhaaaGreat
set_option linter.unusedVariables false
set_option linter.unusedSimpArgs false
open Abs

section
variable {s : List Sv} {down up : List ByteArray}
end
end Go.Proofs.YtghjhjbfkcnhaaaGreat

namespace Go.Proofs.YtghjhjbfkcnhaaaGreat
set_option linter.unusedVariables false
set_option linter.unusedSimpArgs false
open Abs

section
variable {s : List Sv} {b : List ByteArray}
end
end Go.Proofs.YtghjhjbfkcnhaaaGreat

namespace Go.Proofs.YtghjhjbfkcnhaaaGreat
set_option linter.unusedVariables false
set_option linter.unusedSimpArgs false
open Abs

def hasC (l : List Ly) (k : ByteArray) : Bool := l.any fun x => decide (x.cable = k)
def lyG (l : List Ly) (k : ByteArray) : Ly := l.getD (cabIx l k).toNat ⟨⟨#[]⟩, 0, []⟩
theorem cab_neg (l : List Ly) (k : ByteArray) : cabIx l k < 0 ↔ hasC l k = false := by
  unfold cabIx hasC idxP
  cases h : l.any fun x => decide (x.cable = k) <;> simp
theorem cab_pos {l : List Ly} {k : ByteArray} (h : ¬ cabIx l k < 0) : ∃ i : Nat, ∃ hi : i < l.length, cabIx l k = i ∧ lyG l k = l[i] ∧ l[i].cable = k := by
  have h1 : hasC l k = true := by
    cases h2 : hasC l k with
    | true => rfl
    | false => exact absurd ((cab_neg l k).2 h2) h
  unfold hasC at h1
  have hlt : (l.findIdx fun x => decide (x.cable = k)) < l.length := by
    rw [List.findIdx_lt_length]; rw [List.any_eq_true] at h1; obtain ⟨x, hx, h3⟩ := h1; exact ⟨x, hx, h3⟩
  have h2 : cabIx l k = (l.findIdx fun x => decide (x.cable = k) : Nat) := by rw [cabIx, idxP, if_pos h1]
  refine ⟨_, hlt, h2, ?_, ?_⟩
  · unfold lyG
    rw [h2, Int.toNat_natCast]; simp [hlt]
  · have := List.findIdx_getElem (w := hlt); simpa using this
def threeE (d : List Du) (l : List Ly) (a b : ByteArray) : Int := if lyFault d l ≠ 0 then lyFault d l else if cabIx l a < 0 ∨ cabIx l b < 0 then 8 else 0
def togX (d : List Du) (l : List Ly) (a b : ByteArray) : Int := if threeE d l a b = 0 then togV d (lyG l a).ducts (lyG l b).ducts else 0
theorem tog_in {d : List Du} (hd : DuOk d) (b : List ByteArray) (k : ByteArray) : 0 ≤ (if k ∈ b then (duG d k).long else 0) ∧ (if k ∈ b then (duG d k).long else 0) ≤ 200000 := by
  split
  · cases h : hasD d k with
    | true =>
      obtain ⟨hm, _⟩ := duG_in hd h
      have := hd.each _ hm
      omega
    | false =>
      have : duG d k = du0 := by
        unfold hasD at h
        unfold duG
        cases h2 : duAt d k with
        | none => rfl
        | some => rw [h2] at h; cases h
      rw [this]; decide
  · omega
set_option maxRecDepth 100000 in
set_option maxHeartbeats 4000000 in
theorem dTog_pc (d : List Du) (l : List Ly) (hx : ∀ x ∈ l, x.ducts.length ≤ 1000000) (a b : ByteArray) : PCp 19 [.c (.lst 5 (d.map encDu)), .c (.lst 3 (l.map encLy)), .c (.str a), .c (.str b)] [] (.tup [.c (.int .i64 (togX d l a b)), .c (.int .i64 (threeE d l a b))]) [] := by
  refine fn_sound (mt := mts) tab_fits tab_mixed Tryz.func19 (by rfl) (by kernel_rfl) (by kernel_rfl) Tryz.results19 (Nat.le_of_ble_eq_true (by kernel_rfl)) ?_
  conv => whnf
  repeat' (first | (refine CondG.mk (fun h => ?_) (fun h => ?_) <;> (try simp only [decide_eq_true_eq, decide_eq_false_iff_not, Bool.not_eq_true', Bool.not_eq_false', beq_iff_eq, beq_eq_false_iff_ne, bne_iff_ne, bne_eq_false_iff_eq] at h) <;> (first | (exfalso; first | omega | exact h trivial) | (conv => whnf))) | (refine  CallX.mk _ _ (by exact checkLying_pc d l hx) ?_; conv => whnf) | fail)
  · have h1 : threeE d l a b = lyFault d l := by rw [threeE, if_pos h]
    exact .mk ⟨by rw [togX, h1, if_neg h]; rfl, rfl⟩
  have h : lyFault d l = 0 := by simpa using h
  have hok := lyFault_ok h
  have hll := hok.len
  have hdl := hok.du.len
  have hE : threeE d l a b = if cabIx l a < 0 ∨ cabIx l b < 0 then 8 else 0 := by rw [threeE, if_neg (by simp [h])]
  repeat' (first | (refine .mk (fun h => ?_) (fun h => ?_) <;> (try simp only [decide_eq_true_eq, decide_eq_false_iff_not, Bool.not_eq_true', Bool.not_eq_false', beq_iff_eq, beq_eq_false_iff_ne, bne_iff_ne, bne_eq_false_iff_eq] at h) <;> (first | (exfalso; first | omega | exact h trivial) | (conv => whnf))) | (refine  CallX.mk _ _ (by exact lying_pc l (by omega) _) ?_; conv => whnf) | fail)
  · have h1 : threeE d l a b = 8 := by rw [hE, if_pos (.inl h)]
    exact .mk ⟨by rw [togX, h1]; rfl, rfl⟩
  · have h1 : threeE d l a b = 8 := by rw [hE, if_pos (.inr h)]
    exact .mk ⟨by rw [togX, h1]; rfl, rfl⟩
  have hna : ¬ cabIx l a < 0 := by assumption
  have hnb : ¬ cabIx l b < 0 := by assumption
  have h1 : threeE d l a b = 0 := by rw [hE, if_neg (by omega)]
  obtain ⟨i, hi, ei, gi, _⟩ := cab_pos hna
  obtain ⟨j, hj, ej, gj, _⟩ := cab_pos hnb
  have xa := hok.each _ (List.getElem_mem hi)
  have xb := hok.each _ (List.getElem_mem hj)
  rw [togX, h1, if_pos rfl, gi, gj, ← tog_eq hok.du xa.rise xa.has]
  refine idx_map i hi ei ?_
  conv => whnf
  have hxm : (l[i].ducts.map encS).length = l[i].ducts.length := List.length_map ..
  refine loop_for (l[i].ducts.length) [] [0, 1, 12, 13, 42, 43, 44] (fun k (_ : Unit) => [(13, .c (.int .i64 ((l[i].ducts.take k).map fun q => if q ∈ l[j].ducts then (duG d q).long else 0).sum)), (44, .c (.int .i64 (k : Int)))]) (fun k (_ : Unit) => []) (fun k (_ : Unit) => True) (()) ?_
  conv => whnf
  refine ⟨(by first | rfl | (simp; done) | (simp; rfl)), (by trivial), ?_, ?_⟩
  · intro k _ hk _
    have hs := sum_in (B := 200000) (l := l[i].ducts.take k) (fun q _ => tog_in hok.du l[j].ducts q)
    have hs2 := sum_take (fun q => if q ∈ l[j].ducts then (duG d q).long else 0) l[i].ducts k hk
    have htl : (l[i].ducts.take k).length = k := by rw [List.length_take]; omega
    have ht := tog_in hok.du l[j].ducts l[i].ducts[k]
    have hkl := xa.len
    conv => whnf
    repeat' (first | (refine CondG.mk (fun h => ?_) (fun h => ?_) <;> (try simp only [decide_eq_true_eq, decide_eq_false_iff_not, Bool.not_eq_true', Bool.not_eq_false', beq_iff_eq, beq_eq_false_iff_ne, bne_iff_ne, bne_eq_false_iff_eq] at h) <;> (first | (exfalso; first | omega | exact h trivial) | (conv => whnf))) | (refine idx_at _ (by with_reducible rfl) (by first | assumption | omega) ?_; conv => whnf) | fail)
    refine idx_map j hj ej ?_
    conv => whnf
    have hb := binS_ok xb.rise (by have := xb.len; omega) l[i].ducts[k]
    repeat' (first | (refine CondG.mk (fun h => ?_) (fun h => ?_) <;> (try simp only [decide_eq_true_eq, decide_eq_false_iff_not, Bool.not_eq_true', Bool.not_eq_false', beq_iff_eq, beq_eq_false_iff_ne, bne_iff_ne, bne_eq_false_iff_eq] at h) <;> (first | (exfalso; first | omega | exact h trivial) | (conv => whnf))) | (refine  CallX.mk _ _ (by first | exact hb | exact find_pc d hok.du l[i].ducts[k]) ?_; conv => whnf) | fail)
    · rw [if_pos h] at ht hs2
      exact count_next () hk (by rw [wrap_succ hk (by omega), hs2, wrap_in (x := _ + (duG d l[i].ducts[k]).long) (by omega) (by omega)]; rfl) trivial
    · rw [if_neg h, Int.add_zero] at hs2
      exact count_next () hk (by rw [wrap_succ hk (by omega), hs2]; rfl) trivial
  · intro _ _
    rw [List.take_length]
    conv => whnf
    repeat' (first | (refine CondG.mk (fun h => ?_) (fun h => ?_) <;> (try simp only [decide_eq_true_eq, decide_eq_false_iff_not, Bool.not_eq_true', Bool.not_eq_false', beq_iff_eq, beq_eq_false_iff_ne, bne_iff_ne, bne_eq_false_iff_eq] at h) <;> (first | (exfalso; first | omega | exact h trivial) | (conv => whnf))) | fail)
    exact .mk ⟨rfl, rfl⟩
end Go.Proofs.YtghjhjbfkcnhaaaGreat

namespace Go.Proofs.YtghjhjbfkcnhaaaGreat
set_option linter.unusedVariables false
set_option linter.unusedSimpArgs false
open Abs

def lyNames : List ByteArray := [⟨#[107, 49]⟩, ⟨#[107, 50]⟩, ⟨#[107, 51]⟩, ⟨#[107, 52]⟩]
section
variable {d : List Du} {c : List Ly}
def LyG (d : List Du) (x : Ly) : Prop := keyB x.cable = true ∧ cabErr d x = 0
theorem lyG_of {f : Bool} {b : ByteArray} {x : Ly} (h : lyErr d f b x = 0) : LyG d x := by
  unfold lyErr at h
  split at h
  · omega
  · split at h
    · omega
    · rename_i h1 _
      exact ⟨by simpa using h1, h⟩
theorem full_facts (h : lyFault d c = 0) : duFault d = 0 ∧ c.length ≤ 300 ∧ (∀ x ∈ c, LyG d x) ∧ Rise Ly.cable c ∧ fullL d c = false := by
  unfold lyFault at h
  split at h
  · omega
  · split at h
    · omega
    · split at h
      · omega
      · rename_i h1 h2 h3
        have h3 : lysErr d c = 0 := by omega
        split at h
        · omega
        · rename_i h4
          refine ⟨by omega, by omega, fun x hx => ?_, (lysErr_ok h3).1, by simpa using h4⟩
          obtain ⟨f, b, h5⟩ := seqErr_all h3 x hx
          exact lyG_of h5
end
end Go.Proofs.YtghjhjbfkcnhaaaGreat

namespace Go.Proofs.YtghjhjbfkcnhaaaGreat
set_option linter.unusedVariables false
set_option linter.unusedSimpArgs false
open Abs

def lyNm : List ByteArray := ⟨#[]⟩ :: lyNames
theorem some_nm {L : List Int} {p : Int} {k : ByteArray} (h : k ∈ lyNm) : someV L p [k, ⟨#[]⟩, ⟨#[107, 49]⟩] ∈ lyNm := by
  have := someV_in L p [k, ⟨#[]⟩, ⟨#[107, 49]⟩] (by simp)
  simp only [List.mem_cons, List.not_mem_nil, or_false] at this
  rcases this with e | e | e
  · rw [e]; exact h
  · rw [e]; simp [lyNm]
  · rw [e]; simp [lyNm, lyNames]
set_option maxRecDepth 100000 in
set_option maxHeartbeats 4000000 in
theorem rLyInN_pc {L : List Int} {p : Int} (hst : StOk L p) (hp : p ≤ 800000000) (d : List Du) (hd : d.length ≤ 6) :
    PCq 21 [.c (.ptr 0 0), .c (.lst 5 (d.map encDu))] [stO L p] fun r os => ∃ (l : List Ly) (p' : Int), r = .c (.lst 3 (l.map encLy)) ∧ os = [stO L p'] ∧ l.length ≤ 4 ∧ (∀ x ∈ l, x.ducts.length ≤ 100) ∧ p ≤ p' ∧ p' ≤ p + 100 ∧ ∀ x ∈ l, x.cable ∈ lyNm := by
  have hS : ∀ x : Int, p ≤ x → x ≤ p + 100 → StOk L x := fun x h3 h4 => ⟨hst.1, by have := hst.2.1; omega, by omega⟩
  have hdm : (d.map encDu).length = d.length := List.length_map ..
  refine fn_soundX (mt := mts) tab_fits tab_mixed Tryz.func21 (by rfl) (by kernel_rfl) (by kernel_rfl) Tryz.results21 (Nat.le_of_ble_eq_true (by kernel_rfl)) ?_
  conv => whnf
  refine loop_for2 (4) [.sl 5 48 3] [0, 1, 5, 12, 13, 14] (fun k (q : Int) (l : List Ly) => [(14, .c (.int .i64 (k : Int)))]) (fun k (q : Int) (l : List Ly) => [(0, stO L q), (1, .row 48 3 (l.map encLy))]) (fun k (q : Int) (l : List Ly) => l.length ≤ k ∧ (∀ x ∈ l, x.ducts.length ≤ 10) ∧ p ≤ q ∧ q ≤ p + 8 * k ∧ ∀ x ∈ l, x.cable ∈ lyNm) (p) ([]) ?_
  conv => whnf
  refine ⟨(by first | rfl | (simp; done) | (simp; rfl)), ?_, ?_, ?_⟩
  · exact ⟨by simp, by simp, by omega, by omega, by simp⟩
  · intro k q l hk ⟨h1, h2, h3, h4, h5⟩
    as_aux_lemma =>
     have hlm : (l.map encLy).length = l.length := List.length_map ..
     have hQ : ∀ x : Int, q ≤ x → x ≤ q + 14 → StOk L x := fun x h3 h4 => hS x (by omega) (by omega)
     conv => whnf
     repeat' (first | (refine .mk (fun h => ?_) (fun h => ?_) <;> (try simp only [decide_eq_true_eq, decide_eq_false_iff_not, Bool.not_eq_true', Bool.not_eq_false', beq_iff_eq, beq_eq_false_iff_ne, bne_iff_ne, bne_eq_false_iff_eq] at h) <;> (first | (exfalso; first | omega | exact h trivial | (simp [cutRows] at h; done) | (simp [cutRows] at h; omega)) | (conv => whnf))) | (refine  CallX.mk _ _ (by first | exact flip_ok (hQ _ (by omega) (by omega)) _ (by omega) | exact pick_ok (hQ _ (by omega) (by omega)) [_, _, _, _, _] (by simp) (by simp)) ?_; conv => whnf) | (refine .mk (by first | omega | (unfold roomOK; simp [cutRows]; done) | (unfold roomOK; simp [cutRows]; omega) | (simp [cutRows]; done) | (simp [cutRows]; omega)) ?_; conv => whnf) | (refine row_strm (N := lyNm) (by rfl) (by rfl) (by first | (simp [cutRows]; done) | (simp [cutRows]; omega)) ?_; intro str hstr; conv => whnf) | fail)
     · exact count_next (q + 1, l) hk (by rw [wrap_succ hk (by omega)]; rfl) ⟨by simp only; omega, h2, by simp only; omega, by simp only; omega, h5⟩
     · exact count_next (q + 1, l) hk (by rw [wrap_succ hk (by omega)]; rfl) ⟨by simp only; omega, h2, by simp only; omega, by simp only; omega, h5⟩
     refine loop_for2 (d.length) [.bx 8 2 9 1] [0, 1, 5, 8, 12, 13, 14, 30, 31, 32] (fun k (q' : Int) (ks : List ByteArray) => [(32, .c (.int .i64 (k : Int)))]) (fun k (q' : Int) (ks : List ByteArray) => [(0, stO L q'), (3, .row 9 1 (ks.map encS))]) (fun k (q' : Int) (ks : List ByteArray) => ks.length ≤ k ∧ q' = q + 1 + 1 + k) (q + 1 + 1) ([]) ?_
     conv => whnf
     refine ⟨(by first | rfl | (simp; done) | (simp; rfl)), ?_, ?_, ?_⟩
     · exact ⟨by simp, by omega⟩
     · intro j q' ks hj ⟨g1, g2⟩
       as_aux_lemma =>
        have hkm : (ks.map encS).length = ks.length := List.length_map ..
        have hQ : ∀ x : Int, q ≤ x → x ≤ q + 14 → StOk L x := fun x h3 h4 => hS x (by omega) (by omega)
        conv => whnf
        repeat' (first | (refine CondG.mk (fun h => ?_) (fun h => ?_) <;> (try simp only [decide_eq_true_eq, decide_eq_false_iff_not, Bool.not_eq_true', Bool.not_eq_false', beq_iff_eq, beq_eq_false_iff_ne, bne_iff_ne, bne_eq_false_iff_eq] at h) <;> (first | (exfalso; first | omega | exact h trivial | (simp [cutRows] at h; done) | (simp [cutRows] at h; omega)) | (conv => whnf))) | (refine  CallX.mk _ _ (by exact flip_ok (hQ _ (by omega) (by omega)) _ (by omega)) ?_; conv => whnf) | (refine AppG.mk (by first | omega | (unfold roomOK; simp [cutRows]; done) | (unfold roomOK; simp [cutRows]; omega) | (simp [cutRows]; done) | (simp [cutRows]; omega)) ?_; conv => whnf) | (refine idx_at _ (by with_reducible rfl) (by first | assumption | omega) ?_; conv => whnf) | fail)
        · exact count_next (q' + 1, ks ++ [_]) hj (by rw [wrap_succ hj (by omega), List.map_append]; rfl) ⟨by simp; omega, by simp only; omega⟩
        · exact count_next (q' + 1, ks) hj (by rw [wrap_succ hj (by omega)]; rfl) ⟨by simp only; omega, by simp only; omega⟩
     · intro q' ks ⟨g1, g2⟩
       as_aux_lemma =>
        have hkm : (ks.map encS).length = ks.length := List.length_map ..
        conv => whnf
        repeat' (first | (refine CondG.mk (fun h => ?_) (fun h => ?_) <;> (try simp only [decide_eq_true_eq, decide_eq_false_iff_not, Bool.not_eq_true', Bool.not_eq_false', beq_iff_eq, beq_eq_false_iff_ne, bne_iff_ne, bne_eq_false_iff_eq] at h) <;> (first | (exfalso; first | omega | exact h trivial | (simp [cutRows] at h; done) | (simp [cutRows] at h; omega)) | (conv => whnf))) | (refine AppG.mk (by first | omega | (unfold roomOK; simp [cutRows]; done) | (unfold roomOK; simp [cutRows]; omega) | (simp [cutRows]; done) | (simp [cutRows]; omega)) ?_; conv => whnf) | fail)
        · refine idx_map 0 (by omega) rfl ?_
          conv => whnf
          repeat' (first | (refine AppG.mk (by first | omega | (unfold roomOK; simp [cutRows]; done) | (unfold roomOK; simp [cutRows]; omega) | (simp [cutRows]; done) | (simp [cutRows]; omega)) ?_; conv => whnf) | fail)
          exact count_next (q', l ++ [(⟨_, _, [_]⟩ : Ly)]) hk (by rw [wrap_succ hk (by omega), List.map_append]; rfl) ⟨by simp; omega, by intro x hx; rcases List.mem_append.1 hx with hx | hx; exact h2 x hx; simp at hx; subst hx; simp, by simp only; omega, by simp only; omega, by intro x hx; rcases List.mem_append.1 hx with hx | hx; exact h5 x hx; simp at hx; subst hx; exact hstr⟩
        · exact count_next (q', l ++ [(⟨_, _, ks⟩ : Ly)]) hk (by rw [wrap_succ hk (by omega), List.map_append]; rfl) ⟨by simp; omega, by intro x hx; rcases List.mem_append.1 hx with hx | hx; exact h2 x hx; simp at hx; subst hx; simp only; omega, by simp only; omega, by simp only; omega, by intro x hx; rcases List.mem_append.1 hx with hx | hx; exact h5 x hx; simp at hx; subst hx; exact hstr⟩
  · intro q l ⟨h1, h2, h3, h4, h5⟩
    as_aux_lemma =>
     have hlm : (l.map encLy).length = l.length := List.length_map ..
     have hQ : ∀ x : Int, q ≤ x → x ≤ q + 14 → StOk L x := fun x h3 h4 => hS x (by omega) (by omega)
     have ni : 0 < (((l.map encLy).length : Nat) : Int) → 0 ≤ nextV L (q + 1) ((l.map encLy).length : Nat) ∧ nextV L (q + 1) ((l.map encLy).length : Nat) < ((l.map encLy).length : Nat) := fun h => nextV_lt _ _ _ (by omega)
     have hs5 : ∀ (i : Nat) (y : Ly), y.cable ∈ lyNm → ∀ x ∈ l.set i y, x.cable ∈ lyNm := by
       intro i y hy x hx
       rcases List.mem_or_eq_of_mem_set hx with hx | rfl
       · exact h5 x hx
       · exact hy
     have hi5 : ∀ (i : Nat) (hi : i < l.length), l[i].cable ∈ lyNm := fun i hi => h5 _ (List.getElem_mem hi)
     conv => whnf
     repeat' (first | (refine .mk (fun h => ?_) (fun h => ?_) <;> (try simp only [decide_eq_true_eq, decide_eq_false_iff_not, Bool.not_eq_true', Bool.not_eq_false', beq_iff_eq, beq_eq_false_iff_ne, bne_iff_ne, bne_eq_false_iff_eq] at h) <;> (first | (exfalso; first | omega | exact h trivial | (simp [cutRows] at h; done) | (simp [cutRows] at h; omega)) | (conv => whnf))) | (refine  CallX.mk _ _ (by first | exact flip_ok (hQ _ (by omega) (by omega)) _ (by omega) | exact next_ok (hQ _ (by omega) (by omega)) _ (by omega) | exact some_ok (hQ _ (by omega) (by omega)) [_, _, _] (by simp) (by simp) | exact cloneS_pc _ (Nat.le_trans (h2 _ (List.getElem_mem _)) (by decide))) ?_; conv => whnf) | (refine CallG.mk _ _ (by first | exact pick_ok (hQ _ (by omega) (by omega)) [_, _, _] (by simp) (by simp) | exact some_ok (hQ _ (by omega) (by omega)) [_, _, _] (by simp) (by simp)) ?_; conv => whnf) | (refine .mk (by first | omega | (unfold roomOK; simp [cutRows]; done) | (unfold roomOK; simp [cutRows]; omega) | (simp [cutRows]; done) | (simp [cutRows]; omega)) ?_; conv => whnf) | ((with_reducible refine row_map (by first | assumption | omega) ?_); conv => whnf) | ((with_reducible refine row_set (by first | assumption | omega | (simp only [List.length_set]; omega) | (simp; omega)) ?_); conv => whnf) | fail)
     rotate_left 2
     · have := h2 _ (List.getElem_mem (show (nextV L (q + 1) ((l.map encLy).length : Nat)).toNat < l.length by omega))
       refine .mk (room_small (Nat.le_trans (Nat.add_le_add (show _ ≤ 10 by rw [List.length_map]; exact this) (show _ ≤ 1 from Nat.le_refl _)) (by decide)) (by decide)) ?_
       conv => whnf
       repeat' (first | ((with_reducible refine row_map (by first | assumption | omega) ?_); conv => whnf) | fail)
       have hset : ∀ x ∈ l.set (nextV L (q + 1) ((l.map encLy).length : Nat)).toNat ⟨(l[(nextV L (q + 1) ((l.map encLy).length : Nat)).toNat]'(by omega)).cable, (l[(nextV L (q + 1) ((l.map encLy).length : Nat)).toNat]'(by omega)).outer, (l[(nextV L (q + 1) ((l.map encLy).length : Nat)).toNat]'(by omega)).ducts ++ [someV L (q + 1 + 1 + 1) [⟨#[100, 49]⟩, ⟨#[122, 122]⟩, ⟨#[100, 54]⟩]]⟩, x.ducts.length ≤ 100 := by
         intro x hx
         rcases List.mem_or_eq_of_mem_set hx with hx | rfl
         · have := h2 x hx; omega
         · simp only [List.length_append, List.length_cons, List.length_nil]; omega
       exact .mk _ _ ⟨_, _, rfl, rfl, by rw [List.length_set]; omega, hset, by omega, by omega, hs5 _ _ (hi5 (nextV L (q + 1) ((l.map encLy).length : Nat)).toNat (by omega))⟩ (.frz 1 _ _ _ rfl (.weak [_] (.fro 1 _ _ (by rw [List.map_set]; simp only [encLy, List.map_append]; rfl)) rfl (Nat.le_refl _)))
     · exact .mk _ _ ⟨l, _, rfl, rfl, by omega, fun x hx => Nat.le_trans (h2 x hx) (by decide), by omega, by omega, h5⟩ (.frz 1 _ _ _ rfl (.weak [_] (.fro 1 _ _ rfl) rfl (Nat.le_refl _)))
     · exact .mk _ _ ⟨l, _, rfl, rfl, by omega, fun x hx => Nat.le_trans (h2 x hx) (by decide), by omega, by omega, h5⟩ (.frz 1 _ _ _ rfl (.weak [_] (.fro 1 _ _ rfl) rfl (Nat.le_refl _)))
     · simp only [List.set_set]
       have := h2 _ (List.getElem_mem (show (nextV L (q + 1) ((l.map encLy).length : Nat)).toNat < l.length by omega))
       refine .mk _ _ ⟨l.set (nextV L (q + 1) ((l.map encLy).length : Nat)).toNat ⟨_, _, (l[(nextV L (q + 1) ((l.map encLy).length : Nat)).toNat]'(by omega)).ducts⟩, _, rfl, rfl, by rw [List.length_set]; omega, ?_, by omega, by omega, hs5 _ _ (some_nm (hi5 (nextV L (q + 1) ((l.map encLy).length : Nat)).toNat (by omega)))⟩ (.frz 1 _ _ _ rfl (.weak [_] (.fro 1 _ _ (by rw [List.map_set]; rfl)) rfl (Nat.le_refl _)))
       intro x hx
       rcases List.mem_or_eq_of_mem_set hx with hx | rfl
       · have := h2 x hx; omega
       · show (l[(nextV L (q + 1) ((l.map encLy).length : Nat)).toNat]'(by omega)).ducts.length ≤ 100; omega
     · refine .mk _ _ ⟨l.set (nextV L (q + 1) ((l.map encLy).length : Nat)).toNat ⟨(l[(nextV L (q + 1) ((l.map encLy).length : Nat)).toNat]'(by omega)).cable, (l[(nextV L (q + 1) ((l.map encLy).length : Nat)).toNat]'(by omega)).outer, []⟩, _, rfl, rfl, by rw [List.length_set]; omega, ?_, by omega, by omega, hs5 _ _ (hi5 (nextV L (q + 1) ((l.map encLy).length : Nat)).toNat (by omega))⟩ (.frz 1 _ _ _ rfl (.weak [_] (.deep 1 _ _ _ rfl (dw_rows ?_)) rfl (Nat.le_refl _)))
       · intro x hx
         rcases List.mem_or_eq_of_mem_set hx with hx | rfl
         · exact Nat.le_trans (h2 x hx) (by decide)
         · simp
       · rw [List.map_set]
         exact p2_set (p2_refl .refl) (P2.cons (.refl _) (P2.cons (.refl _) (P2.cons (.nils 1) P2.nil))) _
set_option maxRecDepth 100000 in
set_option maxHeartbeats 4000000 in
theorem rRightD_pc {L : List Int} {p : Int} (hst : StOk L p) (hp : p ≤ 700000000) :
    PCq 4 [.c (.ptr 0 0)] [stO L p] fun r os => ∃ (d : List Du) (l : List Ly) (p' : Int), r = .tup [.c (.lst 5 (d.map encDu)), .c (.lst 3 (l.map encLy))] ∧ os = [stO L p'] ∧ lyFault d l = 0 ∧ d.length ≤ 6 ∧ l.length ≤ 4 ∧ (∀ x ∈ l, x.ducts.length ≤ 100) ∧ (∀ x ∈ l, x.cable ∈ lyNames) ∧ p ≤ p' ∧ p' ≤ p + 2000 := by
  have hS : ∀ x : Int, p ≤ x → x ≤ p + 3000 → StOk L x := fun x h3 h4 => ⟨hst.1, by have := hst.2.1; omega, by omega⟩
  refine fn_soundX (mt := mts) tab_fits tab_mixed Tryz.func4 (by rfl) (by kernel_rfl) (by kernel_rfl) Tryz.results4 (Nat.le_of_ble_eq_true (by kernel_rfl)) ?_
  conv => whnf
  refine loop_for (6) [] [0, 6] (fun k (q : Int) => [(6, .c (.int .i64 (k : Int)))]) (fun k (q : Int) => [(0, stO L q)]) (fun k (q : Int) => p ≤ q ∧ q ≤ p + 200 * k) (p) ?_
  conv => whnf
  refine ⟨(by first | rfl | (simp; done) | (simp; rfl)), ?_, ?_, ?_⟩
  · exact ⟨by omega, by omega⟩
  · intro k q hk ⟨h1, h2⟩
    conv => whnf
    repeat' (first | (refine CondG.mk (fun h => ?_) (fun h => ?_) <;> (try simp only [decide_eq_true_eq, decide_eq_false_iff_not, Bool.not_eq_true', Bool.not_eq_false', beq_iff_eq, beq_eq_false_iff_ne, bne_iff_ne, bne_eq_false_iff_eq] at h) <;> (first | (exfalso; first | omega | exact h trivial) | (conv => whnf))) | fail)
    refine .ex _ (rDucts_pc (hS q (by omega) (by omega)) (by omega)) ?_
    rintro _ _ ⟨d, p1, rfl, rfl, g1, g2, g3⟩
    conv => whnf
    refine .ex _ (rLyInN_pc (hS p1 (by omega) (by omega)) (by omega) d g1) ?_
    rintro _ _ ⟨l, p2, rfl, rfl, g4, g5, g6, g7, g8⟩
    have hx : ∀ x ∈ l, x.ducts.length ≤ 1000000 := fun x hm => Nat.le_trans (g5 x hm) (by decide)
    conv => whnf
    repeat' (first | (refine CondG.mk (fun h => ?_) (fun h => ?_) <;> (try simp only [decide_eq_true_eq, decide_eq_false_iff_not, Bool.not_eq_true', Bool.not_eq_false', beq_iff_eq, beq_eq_false_iff_ne, bne_iff_ne, bne_eq_false_iff_eq] at h) <;> (first | (exfalso; first | omega | exact h trivial) | (conv => whnf))) | (refine  CallX.mk _ _ (by exact rLyingFault_pc d l hx) ?_; conv => whnf) | fail)
    · have h0 : lyFault d l = 0 := by assumption
      refine .mk _ _ ⟨d, l, p2, rfl, rfl, h0, g1, g4, g5, fun x hx => ?_, by omega, by omega⟩ (.mk ⟨rfl, rfl⟩)
      have hk := ((full_facts h0).2.2.1 x hx).1
      have hn := g8 x hx
      unfold lyNm at hn
      rcases List.mem_cons.1 hn with e | e
      · rw [e] at hk; exact absurd hk (by decide)
      · exact e
    · exact count_next p2 hk (by rw [wrap_succ hk (by omega)]; rfl) ⟨by omega, by omega⟩
  · intro q ⟨h1, h2⟩
    conv => whnf
    repeat' (first | (refine CondG.mk (fun h => ?_) (fun h => ?_) <;> (try simp only [decide_eq_true_eq, decide_eq_false_iff_not, Bool.not_eq_true', Bool.not_eq_false', beq_iff_eq, beq_eq_false_iff_ne, bne_iff_ne, bne_eq_false_iff_eq] at h) <;> (first | (exfalso; first | omega | exact h trivial) | (conv => whnf))) | fail)
    refine .mk _ _ ⟨[], [], q, rfl, rfl, by decide, by simp, by simp, by simp, by simp, by omega, by omega⟩ (.weak [] (.tup _ _ rfl ?_) rfl (Nat.le_refl _))
    intro i a b ha hb
    match i with
    | 0 => cases ha; cases hb; exact .nil 5
    | 1 => cases ha; cases hb; exact .nil 3
end Go.Proofs.YtghjhjbfkcnhaaaGreat

namespace Go.Proofs.YtghjhjbfkcnhaaaGreat
set_option linter.unusedVariables false
set_option linter.unusedSimpArgs false
open Abs

abbrev yA : ByteArray := ⟨#[97]⟩
abbrev yC : ByteArray := ⟨#[99]⟩
abbrev y9 : ByteArray := ⟨#[107, 57]⟩
theorem names_lt9 : ∀ n ∈ lyNames, ltB n y9 = true := by decide +kernel
theorem key9 : keyB y9 = true := by decide +kernel
theorem pickV_memY (L : List Int) (p : Int) (l : List Int) (h : 1 ≤ l.length) (hl : l.length ≤ 1000000) : pickV L p l ∈ l := by
  have := nextV_lt L p l.length (by omega)
  unfold pickV
  rw [List.getD_eq_getElem?_getD, List.getElem?_eq_getElem (show (nextV L p l.length).toNat < l.length by omega)]
  exact List.getElem_mem _
set_option maxRecDepth 100000 in
set_option maxHeartbeats 4000000 in
theorem waysLaid_pc (L : List Int) (hL : L.length ≤ 9223372036854775807) : PCp 3 [.c (.lst 1 (L.map encI))] [] (.c (.bool true)) [] := by
  have st0 : StOk L 0 := ⟨hL, by omega, by omega⟩
  refine fn_sound (mt := mts) tab_fits tab_mixed Tryz.func3 (by rfl) (by kernel_rfl) (by kernel_rfl) Tryz.results3 (Nat.le_of_ble_eq_true (by kernel_rfl)) ?_
  conv => whnf
  skip
  refine .ex _ (rRightD_pc st0 (by omega)) ?_
  rintro _ _ ⟨d, l, p, rfl, rfl, h0, g1, g2, g3, g4, g5, g6⟩
  have hst : StOk L p := ⟨hL, by omega, by omega⟩
  have cP := pick_ok hst [20, 30, 39, 60] (by decide) (by decide)
  have ho : pickV L p [20, 30, 39, 60] = 20 ∨ pickV L p [20, 30, 39, 60] = 30 ∨ pickV L p [20, 30, 39, 60] = 39 ∨ pickV L p [20, 30, 39, 60] = 60 := by
    have := pickV_memY L p [20, 30, 39, 60] (by decide) (by decide)
    simpa using this
  generalize pickV L p [20, 30, 39, 60] = o at *
  have hgt : ∀ x ∈ l, ltB x.cable y9 = true := fun x hx => names_lt9 _ (g4 x hx)
  have hcab : cabIx l y9 = -1 := idxP_miss (fun i hi => by
    rw [decide_eq_false_iff_not]
    intro q
    have := hgt _ (List.getElem_mem hi)
    rw [q, ltB_irr] at this; cases this)
  have hdu := du_of h0
  have hok := lyFault_ok h0
  by_cases hE : endsErr d yA yC o = 0
  · have hne : yA ≠ yC := by decide +kernel
    obtain ⟨n1, n2, n3⟩ := net_ok hdu (fitCap l o)
    have hnl := net_len (fitCap l o) d
    conv => whnf
    repeat' (first | (refine  CallX.mk _ _ (by exact cP) ?_; conv => whnf) | fail)
    refine .ex _ (wayX_pc d l h0 yA yC o hE) ?_
    rintro _ _ ⟨rfl, g, hC, ⟨hn, rfl⟩ | ⟨c, P, hF, rfl⟩⟩
    · conv => whnf
      skip
      refine .ex _ (laid_pc d l h0 y9 key9 hgt yA yC o hE (by omega)) ?_
      rintro _ _ ⟨rfl, g', hC', ⟨hn', rfl⟩ | ⟨c', P', hF', rfl⟩⟩
      · conv => whnf
        repeat' (first | (refine CondG.mk (fun h => ?_) (fun h => ?_) <;> (try simp only [decide_eq_true_eq, decide_eq_false_iff_not, Bool.not_eq_true', Bool.not_eq_false', beq_iff_eq, beq_eq_false_iff_ne, bne_iff_ne, bne_eq_false_iff_eq] at h) <;> (first | (exfalso; first | omega | exact h trivial) | (conv => whnf))) | fail)
        refine .ex _ (capacity_pc d l h0 yA yC o hE) ?_
        rintro _ _ ⟨rfl, m, hM, rfl⟩
        conv => whnf
        repeat' (first | (refine .mk (fun h => ?_) (fun h => ?_) <;> (try simp only [decide_eq_true_eq, decide_eq_false_iff_not, Bool.not_eq_true', Bool.not_eq_false', beq_iff_eq, beq_eq_false_iff_ne, bne_iff_ne, bne_eq_false_iff_eq] at h) <;> (first | (exfalso; first | omega | exact h trivial | contradiction | (simp_all [eqRes]; done)) | (conv => whnf))) | (refine  CallX.mk _ _ (by exact ready_pc) ?_; conv => whnf) | fail)
        exact .mk ⟨rfl, rfl⟩
      · exfalso
        obtain ⟨c0, h1, _⟩ := hF'.sum
        rw [← costs_get n1 hC hC', hn] at h1
        cases h1
    · have K := way_k hdu hF hne
      have hPl := hF.few hC
      rw [sitesE_len] at hPl
      conv => whnf
      skip
      refine .ex _ (laid_pc d l h0 y9 key9 hgt yA yC o hE (by omega)) ?_
      rintro _ _ ⟨rfl, g', hC', ⟨hn', rfl⟩ | ⟨c', P', hF', rfl⟩⟩
      · exfalso
        obtain ⟨c0, h1, _⟩ := hF.sum
        rw [costs_get n1 hC hC', hn'] at h1
        cases h1
      · have hPP : P' = P := (hF'.congr (fun s => costs_get n1 hC' hC s)).det hF
        subst hPP
        have hks : (insSort cmpS (P'.map Ed.key)).length = P'.length := by rw [(insSort_perm _ _).length_eq, List.length_map]
        have hkm : ∀ k, k ∈ insSort cmpS (P'.map Ed.key) ↔ ∃ e ∈ P', e.key = k := fun k => by rw [(insSort_perm cmpS (P'.map Ed.key)).mem_iff, List.mem_map]
        have hx0 : lyFault d (l ++ [⟨y9, o, insSort cmpS (P'.map Ed.key)⟩]) = 0 := laid_ok h0 key9 hgt (by omega) (by omega) K.rise (fun q => by rw [q] at hks; have := K.pos; simp at hks; omega) (by omega) (fun k hk => by
          obtain ⟨e, he, rfl⟩ := (hkm k).1 hk
          exact ⟨(K.each e he).1, (K.each e he).2.1⟩)
        have hcab9 : cabIx (l ++ [⟨y9, o, insSort cmpS (P'.map Ed.key)⟩]) y9 = (l.length : Int) := by
          refine idxP_hit (k := l.length) (by simp) (fun i hi => ?_) (by simp)
          rw [List.getElem_append_left hi, decide_eq_false_iff_not]
          intro q
          have := hgt _ (List.getElem_mem hi)
          rw [q, ltB_irr] at this; cases this
        conv => whnf
        repeat' (first | (refine CondG.mk (fun h => ?_) (fun h => ?_) <;> (try simp only [decide_eq_true_eq, decide_eq_false_iff_not, Bool.not_eq_true', Bool.not_eq_false', beq_iff_eq, beq_eq_false_iff_ne, bne_iff_ne, bne_eq_false_iff_eq] at h) <;> (first | (exfalso; first | omega | exact h trivial) | (conv => whnf))) | fail)
        refine .ex _ (capacity_pc d l h0 yA yC o hE) ?_
        rintro _ _ ⟨rfl, m, hM, rfl⟩
        have hm : 1 ≤ m := minCut_pos n1 hF hM (fun e he => by
          obtain ⟨x, _, hp, rfl⟩ := net_mem he
          exact Int.le_of_lt hp) (fun e he => by
          obtain ⟨x, hx, hp, rfl⟩ := net_mem he
          unfold fitCap at hp
          split at hp
          · rename_i hf
            unfold fitsV at hf
            rw [Bool.and_eq_true, decide_eq_true_eq] at hf
            rw [List.length_append] at hf
            have h1 := mostV_pos hf.2 (20 - (outV l x.key).length) (by have := hf.1; simp at this; omega)
            have h2 : 1 ≤ mostCap l o x := by unfold mostCap; omega
            exact ⟨edOf (mostCap l o) x, List.mem_map.2 ⟨x, List.mem_filter.2 ⟨hx, by simp; omega⟩, rfl⟩, rfl, rfl, h2⟩
          · omega)
        conv => whnf
        repeat' (first | (refine CondG.mk (fun h => ?_) (fun h => ?_) <;> (try simp only [decide_eq_true_eq, decide_eq_false_iff_not, Bool.not_eq_true', Bool.not_eq_false', beq_iff_eq, beq_eq_false_iff_ne, bne_iff_ne, bne_eq_false_iff_eq] at h) <;> (first | (exfalso; first | omega | exact h trivial | contradiction | (simp_all [eqRes]; done)) | (conv => whnf))) | fail)
        refine .ex _ (broken_pc d _ hx0) ?_
        rintro _ _ ⟨rfl, bs, hbs, hbl, rfl⟩
        have hb9 : decide (y9 ∈ bs) = false := decide_eq_false fun q => by
          obtain ⟨x, hx, hxk, hno⟩ := hbs _ q
          rcases List.mem_append.1 hx with hx | hx
          · have := hgt x hx
            rw [hxk, ltB_irr] at this; cases this
          · rw [List.mem_singleton] at hx
            subst hx
            obtain ⟨s, ix, hp⟩ := K.path
            exact hno s ix hp
        have cR := removed_pc d (l ++ [⟨y9, o, insSort cmpS (P'.map Ed.key)⟩]) hx0 y9 key9 l.length (by simp) hcab9
        rw [show (l ++ [(⟨y9, o, insSort cmpS (P'.map Ed.key)⟩ : Ly)]).eraseIdx l.length = l by rw [List.eraseIdx_append_of_length_le (Nat.le_refl _)]; simp] at cR
        have cC := containsS_pc y9 bs (by simp at hbl; omega)
        rw [hb9] at cC
        have cQ := eqFuncLyY_pc l (by omega) (fun x hx => by have := g3 x hx; omega)
        have cX := cableIn_pc (l ++ [⟨y9, o, insSort cmpS (P'.map Ed.key)⟩]) (by simp; omega) y9
        rw [hcab9] at cX
        conv => whnf
        repeat' (first | (refine .mk (fun h => ?_) (fun h => ?_) <;> (try simp only [decide_eq_true_eq, decide_eq_false_iff_not, Bool.not_eq_true', Bool.not_eq_false', beq_iff_eq, beq_eq_false_iff_ne, bne_iff_ne, bne_eq_false_iff_eq] at h) <;> (first | (exfalso; first | omega | exact h trivial | contradiction | (simp_all [eqRes]; done)) | (conv => whnf))) | (refine  CallX.mk _ _ (by first | exact cR | exact kerrs_pc [0, 0, 0, 0] (by simp) | exact cC | exact cQ | exact cX) ?_; conv => whnf) | fail)
        have hxl : ((l ++ [(⟨y9, o, insSort cmpS (P'.map Ed.key)⟩ : Ly)]).map encLy)[((l.length : Nat) : Int).toNat]? = some (encLy ⟨y9, o, insSort cmpS (P'.map Ed.key)⟩) := by
          rw [Int.toNat_natCast]; simp
        have hlg : ∀ e ∈ P', 1 ≤ e.long ∧ e.long ≤ 200000 := fun e he => (n1 e (hF.sub e he)).2
        have hwm : ((P'.map Ed.key).map encS).length = P'.length := by simp
        have hsT := sumLg_in P' hlg
        refine loop_for (P'.length) [] [4, 7, 8, 11, 19, 123, 124, 125] (fun k (_ : Unit) => [(8, .c (.int .i64 (sumLg P' - sumLg (P'.take k)))), (125, .c (.int .i64 (k : Int)))]) (fun k (_ : Unit) => []) (fun k (_ : Unit) => True) (()) ?_
        conv => whnf
        refine ⟨?_, (by trivial), ?_, ?_⟩
        · simp only [List.take_zero, sumLg, Int.sub_zero]
          rfl
        · intro i _ hi _
          have hi' : i < (P'.map Ed.key).length := by simpa using hi
          have e1 : (P'.map Ed.key)[i] = P'[i].key := by simp
          obtain ⟨k1, k2, k3⟩ := K.each _ (List.getElem_mem hi)
          have cD := ductAt_pc d (by omega) ((P'.map Ed.key)[i])
          have cN := containsS_pc ((P'.map Ed.key)[i]) (insSort cmpS (P'.map Ed.key)) (by omega)
          have hdk : decide ((P'.map Ed.key)[i] ∈ insSort cmpS (P'.map Ed.key)) = true := decide_eq_true (by rw [e1]; exact (hkm _).2 ⟨_, List.getElem_mem hi, rfl⟩)
          have hhk : hasD d ((P'.map Ed.key)[i]) = true := by rw [e1]; exact k1
          have hlk : (duG d ((P'.map Ed.key)[i])).long = P'[i].long := by rw [e1]; exact k3
          rw [hhk] at cD
          rw [hdk] at cN
          have hs1 : sumLg (P'.take (i + 1)) = sumLg (P'.take i) + P'[i].long := by
            rw [List.take_succ_eq_append_getElem hi, sumLg_app]; simp [sumLg]
          have hin := sumLg_in (P'.take i) (fun e he => hlg e (List.mem_of_mem_take he))
          have htl : (P'.take i).length = i := by rw [List.length_take]; omega
          rw [htl] at hin
          have hli := hlg _ (List.getElem_mem hi)
          conv => whnf
          repeat' (first | (refine .mk (fun h => ?_) (fun h => ?_) <;> (try simp only [decide_eq_true_eq, decide_eq_false_iff_not, Bool.not_eq_true', Bool.not_eq_false', beq_iff_eq, beq_eq_false_iff_ne, bne_iff_ne, bne_eq_false_iff_eq] at h) <;> (first | (exfalso; first | omega | exact h trivial | contradiction | (simp_all [eqRes]; done)) | (conv => whnf))) | (refine  CallX.mk _ _ (by exact cD) ?_; conv => whnf) | (refine idx_at _ (by with_reducible rfl) (by first | assumption | omega) ?_; conv => whnf) | fail)
          refine .mk _ ⟨by omega, hxl⟩ ?_
          conv => whnf
          repeat' (first | (refine CondG.mk (fun h => ?_) (fun h => ?_) <;> (try simp only [decide_eq_true_eq, decide_eq_false_iff_not, Bool.not_eq_true', Bool.not_eq_false', beq_iff_eq, beq_eq_false_iff_ne, bne_iff_ne, bne_eq_false_iff_eq] at h) <;> (first | (exfalso; first | omega | exact h trivial | contradiction | (simp_all [eqRes]; done)) | (conv => whnf))) | (refine  CallX.mk _ _ (by first | exact cD | exact cN) ?_; conv => whnf) | fail)
          have hw : IntKind.i64.wrap (sumLg P' - sumLg (P'.take i) - (duG d (P'.map Ed.key)[i]).long) = sumLg P' - sumLg (P'.take (i + 1)) := by
            rw [hlk, hs1, wrap_in (by omega) (by omega)]; omega
          exact count_next () hi (by rw [wrap_succ hi (by omega), hw]; rfl) trivial
        · intro _ _
          rw [List.take_length, Int.sub_self]
          have cT := dTog_pc d (l ++ [⟨y9, o, insSort cmpS (P'.map Ed.key)⟩]) (fun x hx => by
            rcases List.mem_append.1 hx with hx | hx
            · have := g3 x hx; omega
            · rw [List.mem_singleton] at hx
              subst hx
              show (insSort cmpS (P'.map Ed.key)).length ≤ 1000000
              omega) y9 y9
          have ht0 : threeE d (l ++ [⟨y9, o, insSort cmpS (P'.map Ed.key)⟩]) y9 y9 = 0 := by
            unfold threeE
            rw [if_neg (by simp [hx0]), hcab9, if_neg (by omega)]
          have hlyG : lyG (l ++ [⟨y9, o, insSort cmpS (P'.map Ed.key)⟩]) y9 = ⟨y9, o, insSort cmpS (P'.map Ed.key)⟩ := by
            unfold lyG
            rw [hcab9, Int.toNat_natCast]; simp
          have hown : 0 < togX d (l ++ [⟨y9, o, insSort cmpS (P'.map Ed.key)⟩]) y9 y9 := by
            unfold togX
            rw [if_pos ht0, hlyG]
            obtain ⟨e, he⟩ := List.exists_mem_of_length_pos K.pos
            exact tog_own hok.du ((hkm _).2 ⟨e, he, rfl⟩) (K.each e he).1
          rw [ht0] at cT
          generalize togX d (l ++ [⟨y9, o, insSort cmpS (P'.map Ed.key)⟩]) y9 y9 = ow at *
          have hkm2 : ((insSort cmpS (P'.map Ed.key)).map encS).length = P'.length := by rw [List.length_map]; exact hks
          conv => whnf
          repeat' (first | (refine .mk (fun h => ?_) (fun h => ?_) <;> (try simp only [decide_eq_true_eq, decide_eq_false_iff_not, Bool.not_eq_true', Bool.not_eq_false', beq_iff_eq, beq_eq_false_iff_ne, bne_iff_ne, bne_eq_false_iff_eq] at h) <;> (first | (exfalso; first | omega | exact h trivial | contradiction | (simp_all [eqRes]; done)) | (conv => whnf))) | (refine  CallX.mk _ _ (by exact cT) ?_; conv => whnf) | fail)
          refine .mk _ ⟨by omega, hxl⟩ ?_
          conv => whnf
          repeat' (first | (refine Split.mk (fun h => ?_) (fun h => ?_) <;> (try simp only [decide_eq_true_eq, decide_eq_false_iff_not, Bool.not_eq_true', Bool.not_eq_false', beq_iff_eq, beq_eq_false_iff_ne, bne_iff_ne, bne_eq_false_iff_eq] at h) <;> (first | (exfalso; first | omega | exact h trivial | contradiction | (simp_all [eqRes]; done)) | (conv => whnf))) | (refine  CallX.mk _ _ (by exact ready_pc) ?_; conv => whnf) | fail)
          exact .mk ⟨rfl, rfl⟩
  · have h8 := hE
    have cW := wayE_pc d l h0 yA yC o hE
    have cLd := laidE_pc d l h0 y9 key9 hcab yA yC o hE
    have cE := endsF_pc d (by omega) yA yC o
    generalize endsErr d yA yC o = E at *
    conv => whnf
    repeat' (first | (refine .mk (fun h => ?_) (fun h => ?_) <;> (try simp only [decide_eq_true_eq, decide_eq_false_iff_not, Bool.not_eq_true', Bool.not_eq_false', beq_iff_eq, beq_eq_false_iff_ne, bne_iff_ne, bne_eq_false_iff_eq] at h) <;> (first | (exfalso; first | omega | exact h trivial | contradiction | (simp_all [eqRes]; done)) | (conv => whnf))) | (refine  CallX.mk _ _ (by first | exact cP | exact cW | exact cLd | exact cE | exact ready_pc) ?_; conv => whnf) | fail)
    exact .mk ⟨rfl, rfl⟩
end Go.Proofs.YtghjhjbfkcnhaaaGreat

