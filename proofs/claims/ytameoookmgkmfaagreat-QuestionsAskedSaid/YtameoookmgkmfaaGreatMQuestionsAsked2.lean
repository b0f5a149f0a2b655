/- Parts of the proof, in order. -/
import Derived.Test.YtameoookmgkmfaaGreatMQuestionsAsked1

/- Suspects. -/
namespace Go.Proofs.YtameoookmgkmfaaGreat
set_option linter.unusedVariables false
set_option linter.unusedSimpArgs false
open Abs

/-- sorted, each once -/
theorem srt_one {a b : List ByteArray} (hp : a.Perm b) : insSort cmpS a = insSort cmpS b := by
  refine sorted_one (c := cmpS) (swo_key id) ?_ ((insSort_perm cmpS a).trans (hp.trans (insSort_perm cmpS b).symm)) (insSort_srt (swo_key id) a) (insSort_srt (swo_key id) b)
  intro x y h1 h2
  rw [cmp_lt] at h1 h2
  rcases ltB_tri x y with h | h | h
  · exact (h1 h).elim
  · exact h
  · exact (h2 h).elim
theorem srt_rise {a : List ByteArray} (hn : a.Nodup) : Rise id (insSort cmpS a) := by
  refine rise_of (key := id) (insSort_srt (swo_key id) a) ?_
  rw [List.map_id]
  exact ((insSort_perm cmpS a).nodup_iff).2 hn
def risV (m : MB) : List ByteArray := insSort cmpS (ktL m.es)
theorem risV_rise {m : MB} (h : m.ok) : Rise id (risV m) := srt_rise (ktL_nd h)
theorem risV_mem {m : MB} (h : m.ok) (x : ByteArray) : x ∈ risV m ↔ m.get x = some true := by
  unfold risV; rw [(insSort_perm cmpS _).mem_iff, ktL_mem h]
set_option maxRecDepth 100000 in
set_option maxHeartbeats 4000000 in
theorem fRising_pc (m : MB) (hok : m.ok) (hl : m.es.length ≤ 1000000) : PCp 41 [.c (.mp 0)] [smO ekB evT m] (.c (.lst 1 ((risV m).map encS))) [smO ekB evT m] := by
  refine fn_sound (mt := mts) tab_fits tab_mixed Tryz.func41 (by rfl) (by kernel_rfl) (by kernel_rfl) Tryz.results41 (Nat.le_of_ble_eq_true (by kernel_rfl)) ?_
  conv => whnf
  refine loop_meas (fun (vis : List (Nat × ByteArray × Bool)) => m.es.length - vis.length) [.sl 3 9 1] [3, 7] (fun (vis : List (Nat × ByteArray × Bool)) => ⟨[(3, .c (.row 1)), (7, .c (.ptr 2 0))], [(0, smO ekB evT m), (1, .row 9 1 ((ktL vis.reverse).map encS)), (2, .iter 0 m.clock (vis.map (·.1)))], 3⟩) (fun (vis : List (Nat × ByteArray × Bool)) => Vis m vis) ([]) ?_ ?_
  · conv => whnf
    exact ⟨rfl, Vis.nil _⟩
  · intro vis hv
    have hvl := hv.len
    have hsl := ktL_len vis.reverse
    rw [List.length_reverse] at hsl
    have hslm : ((ktL vis.reverse).map encS).length = (ktL vis.reverse).length := List.length_map ..
    conv => whnf
    refine .mk rfl ?_
    conv => whnf
    refine sm_next hok hv (fun hp => ?_) (fun e he hn hv' hlt => ?_)
    · conv => whnf
      have hpr : (ktL vis.reverse).Perm (ktL m.es) := (((List.reverse_perm vis).trans hp).filter _).map _
      repeat' (first
        | (refine Split.mk (fun h => ?_) (fun h => ?_) <;> (try simp only [decide_eq_true_eq, decide_eq_false_iff_not, Bool.not_eq_true', Bool.not_eq_false', beq_iff_eq, beq_eq_false_iff_ne, bne_iff_ne, bne_eq_false_iff_eq] at h) <;> (first | (exfalso; first | omega | exact h trivial) | (conv => whnf)))
        | (refine CondG.mk (fun h => ?_) (fun h => ?_) <;> (try simp only [decide_eq_true_eq, decide_eq_false_iff_not, Bool.not_eq_true', Bool.not_eq_false', beq_iff_eq, beq_eq_false_iff_ne, bne_iff_ne, bne_eq_false_iff_eq] at h) <;> (first | (exfalso; first | omega | exact h trivial) | (conv => whnf)))
        | (refine CallX.mk _ _ (by first | exact sortG_pc (ktL vis.reverse) (by omega)) ?_; conv => whnf)
        | (refine CallG.mk _ _ (by first | exact sortG_pc (ktL vis.reverse) (by omega)) ?_; conv => whnf)
        | (refine Ask.mk (by first | omega | (unfold roomOK; simp [cutRows]; done) | (unfold roomOK; simp [cutRows]; omega) | (simp [cutRows]; done) | (simp [cutRows]; omega)) ?_; conv => whnf)
        | (refine AppG.mk (by first | omega | (unfold roomOK; simp [cutRows]; done) | (unfold roomOK; simp [cutRows]; omega) | (simp [cutRows]; done) | (simp [cutRows]; omega)) ?_; conv => whnf)
        | (refine SliceG.fr ?_; conv => whnf)
        | (refine idx_at _ (by with_reducible rfl) (by first | assumption | omega) ?_; conv => whnf)
        | ((with_reducible refine row_map (by first | assumption | omega) ?_); conv => whnf)
        | ((with_reducible refine row_set (by first | assumption | omega | (simp only [List.length_set]; omega) | (simp; omega)) ?_); conv => whnf)
        | fail)
      have h1 : insSort cmpS (ktL vis.reverse) = risV m := srt_one hpr
      rw [h1]
      first
        | exact .frz 1 _ _ _ rfl (.weak [_, _] (.fro 1 _ _ rfl) rfl (Nat.le_refl _))
        | exact .frz 1 _ _ _ rfl (.weak [_] (.fro 1 _ _ rfl) rfl (Nat.le_refl _))
    · obtain ⟨en, ek, eb⟩ := e
      have h1 : ktL ((en, ek, eb) :: vis).reverse = ktL vis.reverse ++ (if eb then [ek] else []) := by
        cases eb <;> simp [ktL]
      conv => whnf
      refine .mk rfl ?_
      conv => whnf
      refine sm_at hok he ?_
      conv => whnf
      repeat' (first
        | (refine Split.mk (fun h => ?_) (fun h => ?_) <;> (try simp only [decide_eq_true_eq, decide_eq_false_iff_not, Bool.not_eq_true', Bool.not_eq_false', beq_iff_eq, beq_eq_false_iff_ne, bne_iff_ne, bne_eq_false_iff_eq] at h) <;> (first | (exfalso; first | omega | exact h trivial) | (conv => whnf)))
        | (refine CondG.mk (fun h => ?_) (fun h => ?_) <;> (try simp only [decide_eq_true_eq, decide_eq_false_iff_not, Bool.not_eq_true', Bool.not_eq_false', beq_iff_eq, beq_eq_false_iff_ne, bne_iff_ne, bne_eq_false_iff_eq] at h) <;> (first | (exfalso; first | omega | exact h trivial) | (conv => whnf)))
        | (refine Ask.mk (by first | omega | (unfold roomOK; simp [cutRows]; done) | (unfold roomOK; simp [cutRows]; omega) | (simp [cutRows]; done) | (simp [cutRows]; omega)) ?_; conv => whnf)
        | (refine AppG.mk (by first | omega | (unfold roomOK; simp [cutRows]; done) | (unfold roomOK; simp [cutRows]; omega) | (simp [cutRows]; done) | (simp [cutRows]; omega)) ?_; conv => whnf)
        | (refine SliceG.fr ?_; conv => whnf)
        | (refine idx_at _ (by with_reducible rfl) (by first | assumption | omega) ?_; conv => whnf)
        | ((with_reducible refine row_map (by first | assumption | omega) ?_); conv => whnf)
        | ((with_reducible refine row_set (by first | assumption | omega | (simp only [List.length_set]; omega) | (simp; omega)) ?_); conv => whnf)
        | fail)
      · exact meas_next ((en, ek, eb) :: vis) (by simp only [List.length_cons]; omega) (by rw [h1, if_pos h, List.map_append]; rfl) hv'
      · exact meas_next ((en, ek, eb) :: vis) (by simp only [List.length_cons]; omega) (by rw [h1, if_neg (by rw [h]; decide), List.append_nil]; rfl) hv'
/-! what can be broken -/
def elsOf (s : List Sv) (l : List ByteArray) : List ByteArray := l.flatMap fun k => (svG s k).els
def susM (s : List Sv) (down up : List ByteArray) : MB := putAll (putAll SM.nil (elsOf s down) true) (elsOf s up) false
def susV (s : List Sv) (down up : List ByteArray) : List ByteArray := risV (susM s down up)
theorem susM_ok (s : List Sv) (down up : List ByteArray) : (susM s down up).ok := putAll_ok _ (putAll_ok _ SM.ok_nil)
theorem susV_rise (s : List Sv) (down up : List ByteArray) : Rise id (susV s down up) := risV_rise (susM_ok ..)
theorem susV_mem (s : List Sv) (down up : List ByteArray) (x : ByteArray) : x ∈ susV s down up ↔ x ∈ elsOf s down ∧ x ∉ elsOf s up := by
  unfold susV
  rw [risV_mem (susM_ok ..)]
  unfold susM
  rw [putAll_get, putAll_get]
  by_cases h1 : x ∈ elsOf s up <;> by_cases h2 : x ∈ elsOf s down <;> simp [h1, h2, SM.get_nil]
theorem elsOf_succ (s : List Sv) (l : List ByteArray) {k : Nat} (h : k < l.length) : elsOf s (l.take (k + 1)) = elsOf s (l.take k) ++ (svG s l[k]).els := by
  rw [List.take_succ_eq_append_getElem h]; unfold elsOf; rw [List.flatMap_append]; simp
theorem elsOf_len {s : List Sv} (hs : SvOk s) : ∀ {l : List ByteArray}, (∀ k ∈ l, hasSv s k = true) → (elsOf s l).length ≤ 100 * l.length
  | [], _ => by simp [elsOf]
  | a :: r, h => by
    have ih := elsOf_len hs (l := r) (fun k hk => h k (by simp [hk]))
    obtain ⟨x, hx, hk⟩ := hasSv_iff.1 (h a (by simp))
    have h1 : svG s a = x := by rw [← hk]; exact svG_mem hs.rise hx
    have h2 := (hs.each x hx).len
    unfold elsOf at ih ⊢
    rw [List.flatMap_cons, List.length_append, h1]
    simp only [List.length_cons]; omega
set_option maxRecDepth 100000 in
set_option maxHeartbeats 4000000 in
theorem fSuspects_pc (s : List Sv) (hs : SvOk s) (down up : List ByteArray) (hd : StOkL s down) (hu : StOkL s up) :
    PCp 30 [.c (.lst 3 (s.map encSv)), .c (.lst 1 (down.map encS)), .c (.lst 1 (up.map encS))] [] (.c (.lst 1 ((susV s down up).map encS))) [] := by
  have hsl := hs.len
  have hdl := hd.len
  have hul := hu.len
  have hdm : (down.map encS).length = down.length := List.length_map ..
  have hum : (up.map encS).length = up.length := List.length_map ..
  have hsm : (s.map encSv).length = s.length := List.length_map ..
  have hat : ∀ k, hasSv s k = true → ∃ i, ∃ hi : i < s.length, svIx s k = ((i : Nat) : Int) ∧ s[i] = svG s k ∧ s[i].els.length ≤ 100 := by
    intro k hk
    rcases svIx_or hs.rise k with ⟨h1, _⟩ | ⟨_, i, hi, h2, h3⟩
    · rw [h1] at hk; cases hk
    · exact ⟨i, hi, h2, h3, (hs.each _ (List.getElem_mem hi)).len⟩
  refine fn_sound (mt := mts) tab_fits tab_mixed Tryz.func30 (by rfl) (by kernel_rfl) (by kernel_rfl) Tryz.results30 (Nat.le_of_ble_eq_true (by kernel_rfl)) ?_
  conv => whnf
  refine loop_for (down.length) [] [0, 2, 7, 17, 18, 19] (fun k (_ : Unit) => [(19, .c (.int .i64 (k : Int)))]) (fun k (_ : Unit) => [(0, smO ekB evT (putAll SM.nil (elsOf s (down.take k)) true))]) (fun k (_ : Unit) => True) (()) ?_
  conv => whnf
  refine ⟨(by first | rfl | (simp; done) | (simp; rfl)), (by trivial), ?_, ?_⟩
  · intro k _ hk _
    obtain ⟨i, hi, h2, h3, h4⟩ := hat _ (hd.has _ (List.getElem_mem hk))
    have hem : (s[i].els.map encS).length = s[i].els.length := List.length_map ..
    conv => whnf
    repeat' (first
      | (refine Split.mk (fun h => ?_) (fun h => ?_) <;> (try simp only [decide_eq_true_eq, decide_eq_false_iff_not, Bool.not_eq_true', Bool.not_eq_false', beq_iff_eq, beq_eq_false_iff_ne, bne_iff_ne, bne_eq_false_iff_eq] at h) <;> (first | (exfalso; first | omega | exact h trivial) | (conv => whnf)))
      | (refine CondG.mk (fun h => ?_) (fun h => ?_) <;> (try simp only [decide_eq_true_eq, decide_eq_false_iff_not, Bool.not_eq_true', Bool.not_eq_false', beq_iff_eq, beq_eq_false_iff_ne, bne_iff_ne, bne_eq_false_iff_eq] at h) <;> (first | (exfalso; first | omega | exact h trivial) | (conv => whnf)))
      | (refine CallX.mk _ _ (by first | exact fFind_pc s hs.rise (by omega) _) ?_; conv => whnf)
      | (refine CallG.mk _ _ (by first | exact fFind_pc s hs.rise (by omega) _) ?_; conv => whnf)
      | (refine Ask.mk (by first | omega | (unfold roomOK; simp [cutRows]; done) | (unfold roomOK; simp [cutRows]; omega) | (simp [cutRows]; done) | (simp [cutRows]; omega)) ?_; conv => whnf)
      | (refine AppG.mk (by first | omega | (unfold roomOK; simp [cutRows]; done) | (unfold roomOK; simp [cutRows]; omega) | (simp [cutRows]; done) | (simp [cutRows]; omega)) ?_; conv => whnf)
      | (refine SliceG.fr ?_; conv => whnf)
      | (refine idx_at _ (by with_reducible rfl) (by first | assumption | omega) ?_; conv => whnf)
      | ((with_reducible refine row_map (by first | assumption | omega) ?_); conv => whnf)
      | ((with_reducible refine row_set (by first | assumption | omega | (simp only [List.length_set]; omega) | (simp; omega)) ?_); conv => whnf)
      | ((rw [h2]; refine idx_map i hi rfl ?_); conv => whnf)
      | fail)
    refine loop_for (s[i].els.length) [] [0, 2, 7, 17, 18, 19, 29, 30, 31] (fun j (_ : Unit) => [(31, .c (.int .i64 (j : Int)))]) (fun j (_ : Unit) => [(0, smO ekB evT (putAll (putAll SM.nil (elsOf s (down.take k)) true) (s[i].els.take j) true))]) (fun j (_ : Unit) => True) (()) ?_
    conv => whnf
    refine ⟨(by first | rfl | (simp; done) | (simp; rfl)), (by trivial), ?_, ?_⟩
    · intro j _ hj _
      conv => whnf
      repeat' (first
        | (refine Split.mk (fun h => ?_) (fun h => ?_) <;> (try simp only [decide_eq_true_eq, decide_eq_false_iff_not, Bool.not_eq_true', Bool.not_eq_false', beq_iff_eq, beq_eq_false_iff_ne, bne_iff_ne, bne_eq_false_iff_eq] at h) <;> (first | (exfalso; first | omega | exact h trivial) | (conv => whnf)))
        | (refine CondG.mk (fun h => ?_) (fun h => ?_) <;> (try simp only [decide_eq_true_eq, decide_eq_false_iff_not, Bool.not_eq_true', Bool.not_eq_false', beq_iff_eq, beq_eq_false_iff_ne, bne_iff_ne, bne_eq_false_iff_eq] at h) <;> (first | (exfalso; first | omega | exact h trivial) | (conv => whnf)))
        | (refine Ask.mk (by first | omega | (unfold roomOK; simp [cutRows]; done) | (unfold roomOK; simp [cutRows]; omega) | (simp [cutRows]; done) | (simp [cutRows]; omega)) ?_; conv => whnf)
        | (refine AppG.mk (by first | omega | (unfold roomOK; simp [cutRows]; done) | (unfold roomOK; simp [cutRows]; omega) | (simp [cutRows]; done) | (simp [cutRows]; omega)) ?_; conv => whnf)
        | (refine SliceG.fr ?_; conv => whnf)
        | (refine idx_at _ (by with_reducible rfl) (by first | assumption | omega) ?_; conv => whnf)
        | ((with_reducible refine row_map (by first | assumption | omega) ?_); conv => whnf)
        | ((with_reducible refine row_set (by first | assumption | omega | (simp only [List.length_set]; omega) | (simp; omega)) ?_); conv => whnf)
        | ((with_reducible refine sm_look (ek := ekB) (ev := evT) keyStr _ _ (false) ?_ ?_); exact rfl; conv => whnf)
        | ((with_reducible refine sm_upd (ek := ekB) (ev := evT) keyStr _ _ true ?_); conv => whnf)
        | ((with_reducible refine sm_del (ek := ekB) (ev := evT) keyStr _ _ ?_); conv => whnf)
        | ((with_reducible refine sm_entry (ek := ekB) (ev := evT) keyStr _ _ (false) ?_ ?_); exact rfl; conv => whnf)
        | fail)
      exact count_next () hj (by rw [wrap_succ hj (by omega), putAll_succ _ _ hj]; rfl) trivial
    · intro _ _
      rw [List.take_length]
      conv => whnf
      repeat' (first
        | (refine Split.mk (fun h => ?_) (fun h => ?_) <;> (try simp only [decide_eq_true_eq, decide_eq_false_iff_not, Bool.not_eq_true', Bool.not_eq_false', beq_iff_eq, beq_eq_false_iff_ne, bne_iff_ne, bne_eq_false_iff_eq] at h) <;> (first | (exfalso; first | omega | exact h trivial) | (conv => whnf)))
        | (refine CondG.mk (fun h => ?_) (fun h => ?_) <;> (try simp only [decide_eq_true_eq, decide_eq_false_iff_not, Bool.not_eq_true', Bool.not_eq_false', beq_iff_eq, beq_eq_false_iff_ne, bne_iff_ne, bne_eq_false_iff_eq] at h) <;> (first | (exfalso; first | omega | exact h trivial) | (conv => whnf)))
        | (refine Ask.mk (by first | omega | (unfold roomOK; simp [cutRows]; done) | (unfold roomOK; simp [cutRows]; omega) | (simp [cutRows]; done) | (simp [cutRows]; omega)) ?_; conv => whnf)
        | (refine AppG.mk (by first | omega | (unfold roomOK; simp [cutRows]; done) | (unfold roomOK; simp [cutRows]; omega) | (simp [cutRows]; done) | (simp [cutRows]; omega)) ?_; conv => whnf)
        | (refine SliceG.fr ?_; conv => whnf)
        | (refine idx_at _ (by with_reducible rfl) (by first | assumption | omega) ?_; conv => whnf)
        | ((with_reducible refine row_map (by first | assumption | omega) ?_); conv => whnf)
        | ((with_reducible refine row_set (by first | assumption | omega | (simp only [List.length_set]; omega) | (simp; omega)) ?_); conv => whnf)
        | fail)
      exact count_next () hk (by rw [wrap_succ hk (by omega), elsOf_succ s down hk, putAll_app, ← h3]; rfl) trivial
  · intro _ _
    rw [List.take_length]
    conv => whnf
    repeat' (first
      | (refine Split.mk (fun h => ?_) (fun h => ?_) <;> (try simp only [decide_eq_true_eq, decide_eq_false_iff_not, Bool.not_eq_true', Bool.not_eq_false', beq_iff_eq, beq_eq_false_iff_ne, bne_iff_ne, bne_eq_false_iff_eq] at h) <;> (first | (exfalso; first | omega | exact h trivial) | (conv => whnf)))
      | (refine CondG.mk (fun h => ?_) (fun h => ?_) <;> (try simp only [decide_eq_true_eq, decide_eq_false_iff_not, Bool.not_eq_true', Bool.not_eq_false', beq_iff_eq, beq_eq_false_iff_ne, bne_iff_ne, bne_eq_false_iff_eq] at h) <;> (first | (exfalso; first | omega | exact h trivial) | (conv => whnf)))
      | (refine Ask.mk (by first | omega | (unfold roomOK; simp [cutRows]; done) | (unfold roomOK; simp [cutRows]; omega) | (simp [cutRows]; done) | (simp [cutRows]; omega)) ?_; conv => whnf)
      | (refine AppG.mk (by first | omega | (unfold roomOK; simp [cutRows]; done) | (unfold roomOK; simp [cutRows]; omega) | (simp [cutRows]; done) | (simp [cutRows]; omega)) ?_; conv => whnf)
      | (refine SliceG.fr ?_; conv => whnf)
      | (refine idx_at _ (by with_reducible rfl) (by first | assumption | omega) ?_; conv => whnf)
      | ((with_reducible refine row_map (by first | assumption | omega) ?_); conv => whnf)
      | ((with_reducible refine row_set (by first | assumption | omega | (simp only [List.length_set]; omega) | (simp; omega)) ?_); conv => whnf)
      | fail)
    refine loop_for (up.length) [] [0, 7, 39, 40, 41] (fun k (_ : Unit) => [(41, .c (.int .i64 (k : Int)))]) (fun k (_ : Unit) => [(0, smO ekB evT (putAll (putAll SM.nil (elsOf s down) true) (elsOf s (up.take k)) false))]) (fun k (_ : Unit) => True) (()) ?_
    conv => whnf
    refine ⟨(by first | rfl | (simp; done) | (simp; rfl)), (by trivial), ?_, ?_⟩
    · intro k _ hk _
      obtain ⟨i, hi, h2, h3, h4⟩ := hat _ (hu.has _ (List.getElem_mem hk))
      have hem : (s[i].els.map encS).length = s[i].els.length := List.length_map ..
      conv => whnf
      repeat' (first
        | (refine Split.mk (fun h => ?_) (fun h => ?_) <;> (try simp only [decide_eq_true_eq, decide_eq_false_iff_not, Bool.not_eq_true', Bool.not_eq_false', beq_iff_eq, beq_eq_false_iff_ne, bne_iff_ne, bne_eq_false_iff_eq] at h) <;> (first | (exfalso; first | omega | exact h trivial) | (conv => whnf)))
        | (refine CondG.mk (fun h => ?_) (fun h => ?_) <;> (try simp only [decide_eq_true_eq, decide_eq_false_iff_not, Bool.not_eq_true', Bool.not_eq_false', beq_iff_eq, beq_eq_false_iff_ne, bne_iff_ne, bne_eq_false_iff_eq] at h) <;> (first | (exfalso; first | omega | exact h trivial) | (conv => whnf)))
        | (refine CallX.mk _ _ (by first | exact fFind_pc s hs.rise (by omega) _) ?_; conv => whnf)
        | (refine CallG.mk _ _ (by first | exact fFind_pc s hs.rise (by omega) _) ?_; conv => whnf)
        | (refine Ask.mk (by first | omega | (unfold roomOK; simp [cutRows]; done) | (unfold roomOK; simp [cutRows]; omega) | (simp [cutRows]; done) | (simp [cutRows]; omega)) ?_; conv => whnf)
        | (refine AppG.mk (by first | omega | (unfold roomOK; simp [cutRows]; done) | (unfold roomOK; simp [cutRows]; omega) | (simp [cutRows]; done) | (simp [cutRows]; omega)) ?_; conv => whnf)
        | (refine SliceG.fr ?_; conv => whnf)
        | (refine idx_at _ (by with_reducible rfl) (by first | assumption | omega) ?_; conv => whnf)
        | ((with_reducible refine row_map (by first | assumption | omega) ?_); conv => whnf)
        | ((with_reducible refine row_set (by first | assumption | omega | (simp only [List.length_set]; omega) | (simp; omega)) ?_); conv => whnf)
        | ((rw [h2]; refine idx_map i hi rfl ?_); conv => whnf)
        | fail)
      refine loop_for (s[i].els.length) [] [0, 7, 39, 40, 41, 51, 52, 53] (fun j (_ : Unit) => [(53, .c (.int .i64 (j : Int)))]) (fun j (_ : Unit) => [(0, smO ekB evT (putAll (putAll (putAll SM.nil (elsOf s down) true) (elsOf s (up.take k)) false) (s[i].els.take j) false))]) (fun j (_ : Unit) => True) (()) ?_
      conv => whnf
      refine ⟨(by first | rfl | (simp; done) | (simp; rfl)), (by trivial), ?_, ?_⟩
      · intro j _ hj _
        conv => whnf
        repeat' (first
          | (refine Split.mk (fun h => ?_) (fun h => ?_) <;> (try simp only [decide_eq_true_eq, decide_eq_false_iff_not, Bool.not_eq_true', Bool.not_eq_false', beq_iff_eq, beq_eq_false_iff_ne, bne_iff_ne, bne_eq_false_iff_eq] at h) <;> (first | (exfalso; first | omega | exact h trivial) | (conv => whnf)))
          | (refine CondG.mk (fun h => ?_) (fun h => ?_) <;> (try simp only [decide_eq_true_eq, decide_eq_false_iff_not, Bool.not_eq_true', Bool.not_eq_false', beq_iff_eq, beq_eq_false_iff_ne, bne_iff_ne, bne_eq_false_iff_eq] at h) <;> (first | (exfalso; first | omega | exact h trivial) | (conv => whnf)))
          | (refine Ask.mk (by first | omega | (unfold roomOK; simp [cutRows]; done) | (unfold roomOK; simp [cutRows]; omega) | (simp [cutRows]; done) | (simp [cutRows]; omega)) ?_; conv => whnf)
          | (refine AppG.mk (by first | omega | (unfold roomOK; simp [cutRows]; done) | (unfold roomOK; simp [cutRows]; omega) | (simp [cutRows]; done) | (simp [cutRows]; omega)) ?_; conv => whnf)
          | (refine SliceG.fr ?_; conv => whnf)
          | (refine idx_at _ (by with_reducible rfl) (by first | assumption | omega) ?_; conv => whnf)
          | ((with_reducible refine row_map (by first | assumption | omega) ?_); conv => whnf)
          | ((with_reducible refine row_set (by first | assumption | omega | (simp only [List.length_set]; omega) | (simp; omega)) ?_); conv => whnf)
          | ((with_reducible refine sm_look (ek := ekB) (ev := evT) keyStr _ _ (false) ?_ ?_); exact rfl; conv => whnf)
          | ((with_reducible refine sm_upd (ek := ekB) (ev := evT) keyStr _ _ false ?_); conv => whnf)
          | ((with_reducible refine sm_del (ek := ekB) (ev := evT) keyStr _ _ ?_); conv => whnf)
          | ((with_reducible refine sm_entry (ek := ekB) (ev := evT) keyStr _ _ (false) ?_ ?_); exact rfl; conv => whnf)
          | fail)
        exact count_next () hj (by rw [wrap_succ hj (by omega), putAll_succ _ _ hj]; rfl) trivial
      · intro _ _
        rw [List.take_length]
        conv => whnf
        repeat' (first
          | (refine Split.mk (fun h => ?_) (fun h => ?_) <;> (try simp only [decide_eq_true_eq, decide_eq_false_iff_not, Bool.not_eq_true', Bool.not_eq_false', beq_iff_eq, beq_eq_false_iff_ne, bne_iff_ne, bne_eq_false_iff_eq] at h) <;> (first | (exfalso; first | omega | exact h trivial) | (conv => whnf)))
          | (refine CondG.mk (fun h => ?_) (fun h => ?_) <;> (try simp only [decide_eq_true_eq, decide_eq_false_iff_not, Bool.not_eq_true', Bool.not_eq_false', beq_iff_eq, beq_eq_false_iff_ne, bne_iff_ne, bne_eq_false_iff_eq] at h) <;> (first | (exfalso; first | omega | exact h trivial) | (conv => whnf)))
          | (refine Ask.mk (by first | omega | (unfold roomOK; simp [cutRows]; done) | (unfold roomOK; simp [cutRows]; omega) | (simp [cutRows]; done) | (simp [cutRows]; omega)) ?_; conv => whnf)
          | (refine AppG.mk (by first | omega | (unfold roomOK; simp [cutRows]; done) | (unfold roomOK; simp [cutRows]; omega) | (simp [cutRows]; done) | (simp [cutRows]; omega)) ?_; conv => whnf)
          | (refine SliceG.fr ?_; conv => whnf)
          | (refine idx_at _ (by with_reducible rfl) (by first | assumption | omega) ?_; conv => whnf)
          | ((with_reducible refine row_map (by first | assumption | omega) ?_); conv => whnf)
          | ((with_reducible refine row_set (by first | assumption | omega | (simp only [List.length_set]; omega) | (simp; omega)) ?_); conv => whnf)
          | fail)
        exact count_next () hk (by rw [wrap_succ hk (by omega), elsOf_succ s up hk, putAll_app, ← h3]; rfl) trivial
    · intro _ _
      rw [List.take_length]
      have hml : (susM s down up).es.length ≤ 1000000 := by
        have h1 := putAll_len (b := false) (elsOf s up) (putAll SM.nil (elsOf s down) true)
        have h2 := putAll_len (b := true) (elsOf s down) (SM.nil : MB)
        have h3 := elsOf_len hs hd.has
        have h4 := elsOf_len hs hu.has
        have h5 : (SM.nil : MB).es.length = 0 := rfl
        unfold susM; omega
      conv => whnf
      repeat' (first
        | (refine Split.mk (fun h => ?_) (fun h => ?_) <;> (try simp only [decide_eq_true_eq, decide_eq_false_iff_not, Bool.not_eq_true', Bool.not_eq_false', beq_iff_eq, beq_eq_false_iff_ne, bne_iff_ne, bne_eq_false_iff_eq] at h) <;> (first | (exfalso; first | omega | exact h trivial) | (conv => whnf)))
        | (refine CondG.mk (fun h => ?_) (fun h => ?_) <;> (try simp only [decide_eq_true_eq, decide_eq_false_iff_not, Bool.not_eq_true', Bool.not_eq_false', beq_iff_eq, beq_eq_false_iff_ne, bne_iff_ne, bne_eq_false_iff_eq] at h) <;> (first | (exfalso; first | omega | exact h trivial) | (conv => whnf)))
        | (refine CallX.mk _ _ (by first | exact fRising_pc (susM s down up) (susM_ok ..) hml) ?_; conv => whnf)
        | (refine CallG.mk _ _ (by first | exact fRising_pc (susM s down up) (susM_ok ..) hml) ?_; conv => whnf)
        | (refine Ask.mk (by first | omega | (unfold roomOK; simp [cutRows]; done) | (unfold roomOK; simp [cutRows]; omega) | (simp [cutRows]; done) | (simp [cutRows]; omega)) ?_; conv => whnf)
        | (refine AppG.mk (by first | omega | (unfold roomOK; simp [cutRows]; done) | (unfold roomOK; simp [cutRows]; omega) | (simp [cutRows]; done) | (simp [cutRows]; omega)) ?_; conv => whnf)
        | (refine SliceG.fr ?_; conv => whnf)
        | (refine idx_at _ (by with_reducible rfl) (by first | assumption | omega) ?_; conv => whnf)
        | ((with_reducible refine row_map (by first | assumption | omega) ?_); conv => whnf)
        | ((with_reducible refine row_set (by first | assumption | omega | (simp only [List.length_set]; omega) | (simp; omega)) ?_); conv => whnf)
        | fail)
      first
        | exact .mk ⟨rfl, rfl⟩
        | exact .weak [] (.refl _) rfl (Nat.le_refl _)
        | exact .weak [_] (.refl _) rfl (Nat.le_refl _)
set_option maxRecDepth 100000 in
set_option maxHeartbeats 4000000 in
theorem fHas_pc {l : List ByteArray} (h : Rise id l) (hl : l.length ≤ 1000000) (t : ByteArray) : PCp 39 [.c (.lst 1 (l.map encS)), .c (.str t)] [] (.c (.bool (decide (t ∈ l)))) [] := by
  refine fn_sound (mt := mts) tab_fits tab_mixed Tryz.func39 (by rfl) (by kernel_rfl) (by kernel_rfl) Tryz.results39 (Nat.le_of_ble_eq_true (by kernel_rfl)) ?_
  conv => whnf
  repeat' (first
    | (refine Split.mk (fun h => ?_) (fun h => ?_) <;> (try simp only [decide_eq_true_eq, decide_eq_false_iff_not, Bool.not_eq_true', Bool.not_eq_false', beq_iff_eq, beq_eq_false_iff_ne, bne_iff_ne, bne_eq_false_iff_eq] at h) <;> (first | (exfalso; first | omega | exact h trivial) | (conv => whnf)))
    | (refine CondG.mk (fun h => ?_) (fun h => ?_) <;> (try simp only [decide_eq_true_eq, decide_eq_false_iff_not, Bool.not_eq_true', Bool.not_eq_false', beq_iff_eq, beq_eq_false_iff_ne, bne_iff_ne, bne_eq_false_iff_eq] at h) <;> (first | (exfalso; first | omega | exact h trivial) | (conv => whnf)))
    | (refine CallX.mk _ _ (by first | exact binG_pc h hl t) ?_; conv => whnf)
    | (refine CallG.mk _ _ (by first | exact binG_pc h hl t) ?_; conv => whnf)
    | (refine Ask.mk (by first | omega | (unfold roomOK; simp [cutRows]; done) | (unfold roomOK; simp [cutRows]; omega) | (simp [cutRows]; done) | (simp [cutRows]; omega)) ?_; conv => whnf)
    | (refine AppG.mk (by first | omega | (unfold roomOK; simp [cutRows]; done) | (unfold roomOK; simp [cutRows]; omega) | (simp [cutRows]; done) | (simp [cutRows]; omega)) ?_; conv => whnf)
    | (refine SliceG.fr ?_; conv => whnf)
    | (refine idx_at _ (by with_reducible rfl) (by first | assumption | omega) ?_; conv => whnf)
    | ((with_reducible refine row_map (by first | assumption | omega) ?_); conv => whnf)
    | ((with_reducible refine row_set (by first | assumption | omega | (simp only [List.length_set]; omega) | (simp; omega)) ?_); conv => whnf)
    | fail)
  exact finb rfl
set_option maxRecDepth 100000 in
set_option maxHeartbeats 4000000 in
theorem ixU_pc (cs : List (List V)) (g : Nat) (p : ByteArray → Bool) (l : List ByteArray) (hl : l.length ≤ 1000000) (hg : ∀ x ∈ l, PCp g [.c (.str x), .c (.ptr 0 0)] [.box [.lst 1 cs]] (.c (.bool (p x))) [.box [.lst 1 cs]]) : PCp 68 [.c (.lst 1 (l.map encS)), .c (.fn g [.ptr 0 0])] [.box [.lst 1 cs]] (.c (.int .i64 (idxP p l))) [.box [.lst 1 cs]] := by
  have hlm : (l.map encS).length = l.length := List.length_map ..
  refine fn_sound (mt := mts) tab_fits tab_mixed Tryz.func68 (by rfl) (by kernel_rfl) (by kernel_rfl) Tryz.results68 (Nat.le_of_ble_eq_true (by kernel_rfl)) ?_
  conv => whnf
  refine loop_count (l.length) [] [0, 1, 7, 8] (fun k (_ : Unit) => ⟨[(0, .c (.lst 1 (l.map encS))), (1, .c (.fn g [.ptr 0 0])), (7, .c (.int .i64 (l.map encS).length)), (8, .c (.int .i64 k))], [(0, .box [.lst 1 cs])], 1⟩) (fun k (_ : Unit) => ∀ i (hi : i < l.length), i < k → p l[i] = false) (()) ?_ ?_ ?_
  · conv => whnf
    exact ⟨rfl, by intro i hi h; omega⟩
  · intro k _ hk hi
    conv => whnf
    repeat' (first
      | (refine Split.mk (fun h => ?_) (fun h => ?_) <;> (try simp only [decide_eq_true_eq, decide_eq_false_iff_not, Bool.not_eq_true', Bool.not_eq_false', beq_iff_eq, beq_eq_false_iff_ne, bne_iff_ne, bne_eq_false_iff_eq] at h) <;> (first | (exfalso; first | omega | exact h trivial) | (conv => whnf)))
      | (refine CondG.mk (fun h => ?_) (fun h => ?_) <;> (try simp only [decide_eq_true_eq, decide_eq_false_iff_not, Bool.not_eq_true', Bool.not_eq_false', beq_iff_eq, beq_eq_false_iff_ne, bne_iff_ne, bne_eq_false_iff_eq] at h) <;> (first | (exfalso; first | omega | exact h trivial) | (conv => whnf)))
      | (refine CallX.mk _ _ (by first | exact hg l[k] (List.getElem_mem hk)) ?_; conv => whnf)
      | (refine CallG.mk _ _ (by first | exact hg l[k] (List.getElem_mem hk)) ?_; conv => whnf)
      | (refine Ask.mk (by first | omega | (unfold roomOK; simp [cutRows]; done) | (unfold roomOK; simp [cutRows]; omega) | (simp [cutRows]; done) | (simp [cutRows]; omega)) ?_; conv => whnf)
      | (refine AppG.mk (by first | omega | (unfold roomOK; simp [cutRows]; done) | (unfold roomOK; simp [cutRows]; omega) | (simp [cutRows]; done) | (simp [cutRows]; omega)) ?_; conv => whnf)
      | (refine SliceG.fr ?_; conv => whnf)
      | (refine idx_at _ (by with_reducible rfl) (by first | assumption | omega) ?_; conv => whnf)
      | ((with_reducible refine row_map (by first | assumption | omega) ?_); conv => whnf)
      | ((with_reducible refine row_set (by first | assumption | omega | (simp only [List.length_set]; omega) | (simp; omega)) ?_); conv => whnf)
      | fail)
    · exact .mk ⟨by rw [idxP_hit hk (fun i hi' => hi i (by omega) hi') h]; rfl, rfl⟩
    · refine count_next () hk (by rw [wrap_succ hk (by omega)]; rfl) ?_
      exact all_succ' hi h
  · intro _ hi
    conv => whnf
    repeat' (first
      | (refine Split.mk (fun h => ?_) (fun h => ?_) <;> (try simp only [decide_eq_true_eq, decide_eq_false_iff_not, Bool.not_eq_true', Bool.not_eq_false', beq_iff_eq, beq_eq_false_iff_ne] at h) <;> (first | (exfalso; first | omega | exact h trivial) | (conv => whnf)))
      | (refine CondG.mk (fun h => ?_) (fun h => ?_) <;> (try simp only [decide_eq_true_eq, decide_eq_false_iff_not, Bool.not_eq_true', Bool.not_eq_false', beq_iff_eq, beq_eq_false_iff_ne] at h) <;> (first | (exfalso; first | omega | exact h trivial) | (conv => whnf)))
      | (refine Ask.mk (by first | omega | (unfold roomOK; simp [cutRows]; done) | (unfold roomOK; simp [cutRows]; omega)) ?_; conv => whnf)
      | (refine AppG.mk (by first | omega | (unfold roomOK; simp [cutRows]; done) | (unfold roomOK; simp [cutRows]; omega)) ?_; conv => whnf)
      | (refine SliceG.fr ?_; conv => whnf)
      | fail)
    exact .mk ⟨by rw [idxP_miss (fun i h => hi i h h)]; rfl, rfl⟩
set_option maxRecDepth 100000 in
set_option maxHeartbeats 4000000 in
theorem ixUC_pc (cs : List (List V)) (g : Nat) (p : ByteArray → Bool) (l : List ByteArray) (hl : l.length ≤ 1000000) (hg : ∀ x ∈ l, PCp g [.c (.str x), .c (.ptr 0 0)] [.box [.lst 1 cs]] (.c (.bool (p x))) [.box [.lst 1 cs]]) : PCp 44 [.c (.lst 1 (l.map encS)), .c (.fn g [.ptr 0 0])] [.box [.lst 1 cs]] (.c (.bool (l.any p))) [.box [.lst 1 cs]] := by
  refine fn_sound (mt := mts) tab_fits tab_mixed Tryz.func44 (by rfl) (by kernel_rfl) (by kernel_rfl) Tryz.results44 (Nat.le_of_ble_eq_true (by kernel_rfl)) ?_
  conv => whnf
  repeat' (first
    | (refine Split.mk (fun h => ?_) (fun h => ?_) <;> (try simp only [decide_eq_true_eq, decide_eq_false_iff_not, Bool.not_eq_true', Bool.not_eq_false', beq_iff_eq, beq_eq_false_iff_ne] at h) <;> (first | (exfalso; first | omega | exact h trivial) | (conv => whnf)))
    | (refine CondG.mk (fun h => ?_) (fun h => ?_) <;> (try simp only [decide_eq_true_eq, decide_eq_false_iff_not, Bool.not_eq_true', Bool.not_eq_false', beq_iff_eq, beq_eq_false_iff_ne] at h) <;> (first | (exfalso; first | omega | exact h trivial) | (conv => whnf)))
    | (refine CallX.mk _ _ (by first | exact ixU_pc cs g p l hl hg) ?_; conv => whnf)
    | (refine CallG.mk _ _ (by first | exact ixU_pc cs g p l hl hg) ?_; conv => whnf)
    | (refine Ask.mk (by first | omega | (unfold roomOK; simp [cutRows]; done) | (unfold roomOK; simp [cutRows]; omega)) ?_; conv => whnf)
    | (refine AppG.mk (by first | omega | (unfold roomOK; simp [cutRows]; done) | (unfold roomOK; simp [cutRows]; omega)) ?_; conv => whnf)
    | (refine SliceG.fr ?_; conv => whnf)
    | fail)
  exact .mk ⟨by rw [← idxP_any]; rfl, rfl⟩
set_option maxRecDepth 100000 in
set_option maxHeartbeats 4000000 in
theorem fState1_pc {up : List ByteArray} (h : Rise id up) (hl : up.length ≤ 1000000) (x : ByteArray) : PCp 67 [.c (.str x), .c (.ptr 0 0)] [.box [.lst 1 (up.map encS)]] (.c (.bool (decide (x ∈ up)))) [.box [.lst 1 (up.map encS)]] := by
  refine fn_sound (mt := mts) tab_fits tab_mixed Tryz.func67 (by rfl) (by kernel_rfl) (by kernel_rfl) Tryz.results67 (Nat.le_of_ble_eq_true (by kernel_rfl)) ?_
  conv => whnf
  repeat' (first
    | (refine Split.mk (fun h => ?_) (fun h => ?_) <;> (try simp only [decide_eq_true_eq, decide_eq_false_iff_not, Bool.not_eq_true', Bool.not_eq_false', beq_iff_eq, beq_eq_false_iff_ne, bne_iff_ne, bne_eq_false_iff_eq] at h) <;> (first | (exfalso; first | omega | exact h trivial) | (conv => whnf)))
    | (refine CondG.mk (fun h => ?_) (fun h => ?_) <;> (try simp only [decide_eq_true_eq, decide_eq_false_iff_not, Bool.not_eq_true', Bool.not_eq_false', beq_iff_eq, beq_eq_false_iff_ne, bne_iff_ne, bne_eq_false_iff_eq] at h) <;> (first | (exfalso; first | omega | exact h trivial) | (conv => whnf)))
    | (refine CallX.mk _ _ (by first | exact fHas_pc h hl x) ?_; conv => whnf)
    | (refine CallG.mk _ _ (by first | exact fHas_pc h hl x) ?_; conv => whnf)
    | (refine Ask.mk (by first | omega | (unfold roomOK; simp [cutRows]; done) | (unfold roomOK; simp [cutRows]; omega) | (simp [cutRows]; done) | (simp [cutRows]; omega)) ?_; conv => whnf)
    | (refine AppG.mk (by first | omega | (unfold roomOK; simp [cutRows]; done) | (unfold roomOK; simp [cutRows]; omega) | (simp [cutRows]; done) | (simp [cutRows]; omega)) ?_; conv => whnf)
    | (refine SliceG.fr ?_; conv => whnf)
    | (refine idx_at _ (by with_reducible rfl) (by first | assumption | omega) ?_; conv => whnf)
    | ((with_reducible refine row_map (by first | assumption | omega) ?_); conv => whnf)
    | ((with_reducible refine row_set (by first | assumption | omega | (simp only [List.length_set]; omega) | (simp; omega)) ?_); conv => whnf)
    | fail)
  exact .mk ⟨rfl, rfl⟩
set_option maxRecDepth 100000 in
set_option maxHeartbeats 4000000 in
theorem fState_pc (s : List Sv) (hx : ∀ x ∈ s, x.els.length ≤ 1000000) (down up : List ByteArray) : PCp 29 [.c (.lst 3 (s.map encSv)), .c (.lst 1 (down.map encS)), .c (.lst 1 (up.map encS))] [] (.c (.int .i64 (seenErr s down up))) [] := by
  have hdm : (down.map encS).length = down.length := List.length_map ..
  refine fn_sound (mt := mts) tab_fits tab_mixed Tryz.func29 (by rfl) (by kernel_rfl) (by kernel_rfl) Tryz.results29 (Nat.le_of_ble_eq_true (by kernel_rfl)) ?_
  conv => whnf
  repeat' (first
    | (refine Split.mk (fun h => ?_) (fun h => ?_) <;> (try simp only [decide_eq_true_eq, decide_eq_false_iff_not, Bool.not_eq_true', Bool.not_eq_false', beq_iff_eq, beq_eq_false_iff_ne, bne_iff_ne, bne_eq_false_iff_eq] at h) <;> (first | (exfalso; first | omega | exact h trivial) | (conv => whnf)))
    | (refine CondG.mk (fun h => ?_) (fun h => ?_) <;> (try simp only [decide_eq_true_eq, decide_eq_false_iff_not, Bool.not_eq_true', Bool.not_eq_false', beq_iff_eq, beq_eq_false_iff_ne, bne_iff_ne, bne_eq_false_iff_eq] at h) <;> (first | (exfalso; first | omega | exact h trivial) | (conv => whnf)))
    | (refine CallX.mk _ _ (by first | exact checkServices_pc s hx) ?_; conv => whnf)
    | (refine CallG.mk _ _ (by first | exact checkServices_pc s hx) ?_; conv => whnf)
    | (refine Ask.mk (by first | omega | (unfold roomOK; simp [cutRows]; done) | (unfold roomOK; simp [cutRows]; omega) | (simp [cutRows]; done) | (simp [cutRows]; omega)) ?_; conv => whnf)
    | (refine AppG.mk (by first | omega | (unfold roomOK; simp [cutRows]; done) | (unfold roomOK; simp [cutRows]; omega) | (simp [cutRows]; done) | (simp [cutRows]; omega)) ?_; conv => whnf)
    | (refine SliceG.fr ?_; conv => whnf)
    | (refine idx_at _ (by with_reducible rfl) (by first | assumption | omega) ?_; conv => whnf)
    | ((with_reducible refine row_map (by first | assumption | omega) ?_); conv => whnf)
    | ((with_reducible refine row_set (by first | assumption | omega | (simp only [List.length_set]; omega) | (simp; omega)) ?_); conv => whnf)
    | fail)
  · exact fini (by rw [seenErr, if_pos (by assumption)])
  have hs0 : svFault s = 0 := by simp_all
  have hs := svFault_ok hs0
  repeat' (first
    | (refine Split.mk (fun h => ?_) (fun h => ?_) <;> (try simp only [decide_eq_true_eq, decide_eq_false_iff_not, Bool.not_eq_true', Bool.not_eq_false', beq_iff_eq, beq_eq_false_iff_ne, bne_iff_ne, bne_eq_false_iff_eq] at h) <;> (first | (exfalso; first | omega | exact h trivial) | (conv => whnf)))
    | (refine CondG.mk (fun h => ?_) (fun h => ?_) <;> (try simp only [decide_eq_true_eq, decide_eq_false_iff_not, Bool.not_eq_true', Bool.not_eq_false', beq_iff_eq, beq_eq_false_iff_ne, bne_iff_ne, bne_eq_false_iff_eq] at h) <;> (first | (exfalso; first | omega | exact h trivial) | (conv => whnf)))
    | (refine CallX.mk _ _ (by first | exact listFault_pc s hs _ | exact first_pc [_, _] (by simp)) ?_; conv => whnf)
    | (refine CallG.mk _ _ (by first | exact listFault_pc s hs _ | exact first_pc [_, _] (by simp)) ?_; conv => whnf)
    | (refine Ask.mk (by first | omega | (unfold roomOK; simp [cutRows]; done) | (unfold roomOK; simp [cutRows]; omega) | (simp [cutRows]; done) | (simp [cutRows]; omega)) ?_; conv => whnf)
    | (refine AppG.mk (by first | omega | (unfold roomOK; simp [cutRows]; done) | (unfold roomOK; simp [cutRows]; omega) | (simp [cutRows]; done) | (simp [cutRows]; omega)) ?_; conv => whnf)
    | (refine SliceG.fr ?_; conv => whnf)
    | (refine idx_at _ (by with_reducible rfl) (by first | assumption | omega) ?_; conv => whnf)
    | ((with_reducible refine row_map (by first | assumption | omega) ?_); conv => whnf)
    | ((with_reducible refine row_set (by first | assumption | omega | (simp only [List.length_set]; omega) | (simp; omega)) ?_); conv => whnf)
    | fail)
  · refine fini ?_
    rw [seenErr, if_neg (by simp [hs0])]
    simp only [firstErr] at *
    (repeat' split) <;> first | rfl | omega | (simp_all; done)
  have hf : stErr s down = 0 ∧ stErr s up = 0 := by
    rename_i h
    simp only [firstErr] at h
    by_cases h1 : stErr s down = 0 <;> by_cases h2 : stErr s up = 0 <;> simp_all
  obtain ⟨hd, hu⟩ := hf
  have hdo := stErr_ok hd
  have huo := stErr_ok hu
  have hdl := hdo.len
  have hul := huo.len
  repeat' (first
    | (refine Split.mk (fun h => ?_) (fun h => ?_) <;> (try simp only [decide_eq_true_eq, decide_eq_false_iff_not, Bool.not_eq_true', Bool.not_eq_false', beq_iff_eq, beq_eq_false_iff_ne, bne_iff_ne, bne_eq_false_iff_eq] at h) <;> (first | (exfalso; first | omega | exact h trivial) | (conv => whnf)))
    | (refine CondG.mk (fun h => ?_) (fun h => ?_) <;> (try simp only [decide_eq_true_eq, decide_eq_false_iff_not, Bool.not_eq_true', Bool.not_eq_false', beq_iff_eq, beq_eq_false_iff_ne, bne_iff_ne, bne_eq_false_iff_eq] at h) <;> (first | (exfalso; first | omega | exact h trivial) | (conv => whnf)))
    | (refine CallX.mk _ _ (by first | exact ixUC_pc (up.map encS) 67 (fun x => decide (x ∈ up)) down (by omega) (fun x _ => fState1_pc huo.rise (by omega) x)) ?_; conv => whnf)
    | (refine CallG.mk _ _ (by first | exact ixUC_pc (up.map encS) 67 (fun x => decide (x ∈ up)) down (by omega) (fun x _ => fState1_pc huo.rise (by omega) x)) ?_; conv => whnf)
    | (refine Ask.mk (by first | omega | (unfold roomOK; simp [cutRows]; done) | (unfold roomOK; simp [cutRows]; omega) | (simp [cutRows]; done) | (simp [cutRows]; omega)) ?_; conv => whnf)
    | (refine AppG.mk (by first | omega | (unfold roomOK; simp [cutRows]; done) | (unfold roomOK; simp [cutRows]; omega) | (simp [cutRows]; done) | (simp [cutRows]; omega)) ?_; conv => whnf)
    | (refine SliceG.fr ?_; conv => whnf)
    | (refine idx_at _ (by with_reducible rfl) (by first | assumption | omega) ?_; conv => whnf)
    | ((with_reducible refine row_map (by first | assumption | omega) ?_); conv => whnf)
    | ((with_reducible refine row_set (by first | assumption | omega | (simp only [List.length_set]; omega) | (simp; omega)) ?_); conv => whnf)
    | fail)
  all_goals
    refine fini ?_
    rw [seenErr, if_neg (by simp [hs0]), if_neg (by simp [hd]), if_neg (by simp [hu])]
    simp_all
set_option maxRecDepth 100000 in
set_option maxHeartbeats 4000000 in
theorem suspectsP_pc (s : List Sv) (hx : ∀ x ∈ s, x.els.length ≤ 1000000) (down up : List ByteArray) : PCp 9 [.c (.lst 3 (s.map encSv)), .c (.lst 1 (down.map encS)), .c (.lst 1 (up.map encS))] [] (.tup [.c (.lst 1 ((if seenErr s down up = 0 then susV s down up else []).map encS)), .c (.int .i64 (seenErr s down up))]) [] := by
  refine fn_sound (mt := mts) tab_fits tab_mixed Tryz.func9 (by rfl) (by kernel_rfl) (by kernel_rfl) Tryz.results9 (Nat.le_of_ble_eq_true (by kernel_rfl)) ?_
  conv => whnf
  repeat' (first
    | (refine Split.mk (fun h => ?_) (fun h => ?_) <;> (try simp only [decide_eq_true_eq, decide_eq_false_iff_not, Bool.not_eq_true', Bool.not_eq_false', beq_iff_eq, beq_eq_false_iff_ne, bne_iff_ne, bne_eq_false_iff_eq] at h) <;> (first | (exfalso; first | omega | exact h trivial) | (conv => whnf)))
    | (refine CondG.mk (fun h => ?_) (fun h => ?_) <;> (try simp only [decide_eq_true_eq, decide_eq_false_iff_not, Bool.not_eq_true', Bool.not_eq_false', beq_iff_eq, beq_eq_false_iff_ne, bne_iff_ne, bne_eq_false_iff_eq] at h) <;> (first | (exfalso; first | omega | exact h trivial) | (conv => whnf)))
    | (refine CallX.mk _ _ (by first | exact fState_pc s hx down up) ?_; conv => whnf)
    | (refine CallG.mk _ _ (by first | exact fState_pc s hx down up) ?_; conv => whnf)
    | (refine Ask.mk (by first | omega | (unfold roomOK; simp [cutRows]; done) | (unfold roomOK; simp [cutRows]; omega) | (simp [cutRows]; done) | (simp [cutRows]; omega)) ?_; conv => whnf)
    | (refine AppG.mk (by first | omega | (unfold roomOK; simp [cutRows]; done) | (unfold roomOK; simp [cutRows]; omega) | (simp [cutRows]; done) | (simp [cutRows]; omega)) ?_; conv => whnf)
    | (refine SliceG.fr ?_; conv => whnf)
    | (refine idx_at _ (by with_reducible rfl) (by first | assumption | omega) ?_; conv => whnf)
    | ((with_reducible refine row_map (by first | assumption | omega) ?_); conv => whnf)
    | ((with_reducible refine row_set (by first | assumption | omega | (simp only [List.length_set]; omega) | (simp; omega)) ?_); conv => whnf)
    | fail)
  · rw [if_neg (by assumption)]
    refine .weak [] (.tup _ _ rfl ?_) rfl (Nat.le_refl _)
    intro i a b ha hb
    match i with
    | 0 => cases ha; cases hb; exact .nil 1
    | 1 => cases ha; cases hb; exact .refl _
  · have h0 : seenErr s down up = 0 := by simp_all
    have hs0 : svFault s = 0 := by
      unfold seenErr at h0
      split at h0
      · omega
      · omega
    have hd0 : stErr s down = 0 := by
      unfold seenErr at h0
      rw [if_neg (by omega)] at h0
      split at h0
      · omega
      · omega
    have hu0 : stErr s up = 0 := by
      unfold seenErr at h0
      rw [if_neg (by omega), if_neg (by omega)] at h0
      split at h0
      · omega
      · omega
    rw [if_pos h0]
    repeat' (first
      | (refine Split.mk (fun h => ?_) (fun h => ?_) <;> (try simp only [decide_eq_true_eq, decide_eq_false_iff_not, Bool.not_eq_true', Bool.not_eq_false', beq_iff_eq, beq_eq_false_iff_ne, bne_iff_ne, bne_eq_false_iff_eq] at h) <;> (first | (exfalso; first | omega | exact h trivial) | (conv => whnf)))
      | (refine CondG.mk (fun h => ?_) (fun h => ?_) <;> (try simp only [decide_eq_true_eq, decide_eq_false_iff_not, Bool.not_eq_true', Bool.not_eq_false', beq_iff_eq, beq_eq_false_iff_ne, bne_iff_ne, bne_eq_false_iff_eq] at h) <;> (first | (exfalso; first | omega | exact h trivial) | (conv => whnf)))
      | (refine CallX.mk _ _ (by first | exact fSuspects_pc s (svFault_ok hs0) down up (stErr_ok hd0) (stErr_ok hu0)) ?_; conv => whnf)
      | (refine CallG.mk _ _ (by first | exact fSuspects_pc s (svFault_ok hs0) down up (stErr_ok hd0) (stErr_ok hu0)) ?_; conv => whnf)
      | (refine Ask.mk (by first | omega | (unfold roomOK; simp [cutRows]; done) | (unfold roomOK; simp [cutRows]; omega) | (simp [cutRows]; done) | (simp [cutRows]; omega)) ?_; conv => whnf)
      | (refine AppG.mk (by first | omega | (unfold roomOK; simp [cutRows]; done) | (unfold roomOK; simp [cutRows]; omega) | (simp [cutRows]; done) | (simp [cutRows]; omega)) ?_; conv => whnf)
      | (refine SliceG.fr ?_; conv => whnf)
      | (refine idx_at _ (by with_reducible rfl) (by first | assumption | omega) ?_; conv => whnf)
      | ((with_reducible refine row_map (by first | assumption | omega) ?_); conv => whnf)
      | ((with_reducible refine row_set (by first | assumption | omega | (simp only [List.length_set]; omega) | (simp; omega)) ?_); conv => whnf)
      | fail)
    exact .mk ⟨by rw [h0]; rfl, rfl⟩
end Go.Proofs.YtameoookmgkmfaaGreat

/- Repairs are ordered. -/
namespace Go.Proofs.YtameoookmgkmfaaGreat
set_option linter.unusedVariables false
set_option linter.unusedSimpArgs false
open Abs

abbrev MN := SM ByteArray Int
def fl (left : List ByteArray) (x : Sv) : List ByteArray := left.filter fun k => decide (k ∈ x.els)
def gmS (left : List ByteArray) (m : MN) (x : Sv) : MN := match fl left x with | [e] => m.put e (IntKind.i64.wrap ((m.get e).getD 0 + x.cust)) | _ => m
def gm (s : List Sv) (left : List ByteArray) : MN := s.foldl (gmS left) SM.nil
theorem rise_nd {l : List ByteArray} (h : Rise id l) : l.Nodup := by have := rise_nodup h; simpa using this
end Go.Proofs.YtameoookmgkmfaaGreat

/- Repairs by the document. -/
namespace Go.Proofs.YtameoookmgkmfaaGreat
set_option linter.unusedVariables false
set_option linter.unusedSimpArgs false
open Abs

end Go.Proofs.YtameoookmgkmfaaGreat

/- What is left on drums after a plan, by the abstract walk. -/
namespace Go.Proofs.YtameoookmgkmfaaGreat
set_option linter.unusedVariables false
set_option linter.unusedSimpArgs false
open Abs

theorem toList_inj {a b : ByteArray} (h : a.toList = b.toList) : a = b := by
  rw [ByteArray.toList_eq, ByteArray.toList_eq] at h
  exact ByteArray.ext (Array.toList_inj.1 h)
end Go.Proofs.YtameoookmgkmfaaGreat

/- Waste of plans, and the document's answers, by the abstract walk. -/
namespace Go.Proofs.YtameoookmgkmfaaGreat
set_option linter.unusedVariables false
set_option linter.unusedSimpArgs false
open Abs

/-! the document's answers -/
end Go.Proofs.YtameoookmgkmfaaGreat

/- Rules and plans are made, lists compared. -/
namespace Go.Proofs.YtameoookmgkmfaaGreat
set_option linter.unusedVariables false
set_option linter.unusedSimpArgs false
open Abs

end Go.Proofs.YtameoookmgkmfaaGreat

/- Acts in a store, by the abstract walk. -/
namespace Go.Proofs.YtameoookmgkmfaaGreat
set_option linter.unusedVariables false
set_option linter.unusedSimpArgs false
open Abs

structure Ac where
  mo : Int
  kd : Int
  drum : ByteArray
  ty : ByteArray
  of : ByteArray
  long : Int
end Go.Proofs.YtameoookmgkmfaaGreat

/- A store with one drum, by the abstract walk. -/
namespace Go.Proofs.YtameoookmgkmfaaGreat
set_option linter.unusedVariables false
set_option linter.unusedSimpArgs false
open Abs

end Go.Proofs.YtameoookmgkmfaaGreat

/- A list of one drum is sorted. -/
namespace Go.Proofs.YtameoookmgkmfaaGreat
set_option linter.unusedVariables false
set_option linter.unusedSimpArgs false
open Abs

end Go.Proofs.YtameoookmgkmfaaGreat

/- The law PlansWeighed, by the abstract walk. -/
namespace Go.Proofs.YtameoookmgkmfaaGreat
set_option linter.unusedVariables false
set_option linter.unusedSimpArgs false
open Abs

end Go.Proofs.YtameoookmgkmfaaGreat

/- Lists of acts are sorted. -/
namespace Go.Proofs.YtameoookmgkmfaaGreat
set_option linter.unusedVariables false
set_option linter.unusedSimpArgs false
open Abs

/-! the length of a small number -/
deriving instance DecidableEq for Ac
end Go.Proofs.YtameoookmgkmfaaGreat

/- Acts are made. -/
namespace Go.Proofs.YtameoookmgkmfaaGreat
set_option linter.unusedVariables false
set_option linter.unusedSimpArgs false
open Abs

end Go.Proofs.YtameoookmgkmfaaGreat

/- A store, as the program follows it. -/
namespace Go.Proofs.YtameoookmgkmfaaGreat
set_option linter.unusedVariables false
set_option linter.unusedSimpArgs false
open Abs

structure Sto where
  d : SM ByteArray (ByteArray × Int)
  k : SM ByteArray ByteArray
structure Sto.ok (s : Sto) : Prop where
  d : s.d.ok
  k : s.k.ok
end Go.Proofs.YtameoookmgkmfaaGreat

/- What was used, as the program counts it. -/
namespace Go.Proofs.YtameoookmgkmfaaGreat
set_option linter.unusedVariables false
set_option linter.unusedSimpArgs false
open Abs

end Go.Proofs.YtameoookmgkmfaaGreat

/- The least stock, as the program finds it. -/
namespace Go.Proofs.YtameoookmgkmfaaGreat
set_option linter.unusedVariables false
set_option linter.unusedSimpArgs false
open Abs

end Go.Proofs.YtameoookmgkmfaaGreat

/- The least stock, as the program finds it: all acts. -/
namespace Go.Proofs.YtameoookmgkmfaaGreat
set_option linter.unusedVariables false
set_option linter.unusedSimpArgs false
open Abs

end Go.Proofs.YtameoookmgkmfaaGreat

/- The document's store. -/
namespace Go.Proofs.YtameoookmgkmfaaGreat
set_option linter.unusedVariables false
set_option linter.unusedSimpArgs false
open Abs

structure Rto where
  l : SM ByteArray Int
  k : SM ByteArray ByteArray
structure Rto.ok (s : Rto) : Prop where
  l : s.l.ok
  k : s.k.ok
end Go.Proofs.YtameoookmgkmfaaGreat

/- What was used, by the document. -/
namespace Go.Proofs.YtameoookmgkmfaaGreat
set_option linter.unusedVariables false
set_option linter.unusedSimpArgs false
open Abs

end Go.Proofs.YtameoookmgkmfaaGreat

/- Stock at a moment, by the document. -/
namespace Go.Proofs.YtameoookmgkmfaaGreat
set_option linter.unusedVariables false
set_option linter.unusedSimpArgs false
open Abs

end Go.Proofs.YtameoookmgkmfaaGreat

/- Stock at a moment, by the document: the list. -/
namespace Go.Proofs.YtameoookmgkmfaaGreat
set_option linter.unusedVariables false
set_option linter.unusedSimpArgs false
open Abs

end Go.Proofs.YtameoookmgkmfaaGreat

/- Errors of acts and windows, by the document. -/
namespace Go.Proofs.YtameoookmgkmfaaGreat
set_option linter.unusedVariables false
set_option linter.unusedSimpArgs false
open Abs
end Go.Proofs.YtameoookmgkmfaaGreat

/- Comparisons, one behind another; sorting by insertion keeps the order of equal ones. -/
namespace Go.Proofs.YtameoookmgkmfaaGreat
set_option linter.unusedVariables false
set_option linter.unusedSimpArgs false
open Abs

/-- a comparison -/
structure Cmp {α : Type} (c : α → α → Int) : Prop where
  anti : ∀ a b, c b a = - c a b
  trans : ∀ a b d, c a b ≤ 0 → c b d ≤ 0 → c a d ≤ 0
theorem Cmp.lt {α : Type} {c : α → α → Int} (h : Cmp c) {a b d : α} (h1 : c a b ≤ 0) (h2 : c b d ≤ 0) (h3 : c a b < 0 ∨ c b d < 0) : c a d < 0 := by
  have h4 := h.trans a b d h1 h2
  rcases Int.lt_or_le (c a d) 0 with h5 | h5
  · exact h5
  · have a1 := h.anti a d
    have a2 := h.anti a b
    have a3 := h.anti b d
    rcases h3 with h3 | h3
    · have := h.trans b d a h2 (by omega); omega
    · have := h.trans d a b (by omega) h1; omega
theorem Cmp.swo {α : Type} {c : α → α → Int} (h : Cmp c) : SWOc c where
  irrefl x := by have := h.anti x x; omega
  trans x y z h1 h2 := h.lt (by omega) (by omega) (.inl h1)
  ntrans x y z h1 h2 := by
    have a1 := h.anti x y
    have a2 := h.anti y z
    have a3 := h.anti x z
    have := h.trans z y x (by omega) (by omega)
    omega
end Go.Proofs.YtameoookmgkmfaaGreat

/- Strings sorted (a few), and what numbers look like: Itoa by the kit's contract. -/
namespace Go.Proofs.YtameoookmgkmfaaGreat
set_option linter.unusedVariables false
set_option linter.unusedSimpArgs false
open Abs

/-! what a function of the library gives that makes new memory of its own -/
theorem Nx.grown {F : Nat → Prop} {φ : Nat → Option Value} {w : World} {N : Nat → Prop} {h : Nat → Option Ob} (k : Nat) (os : Array Obj) : Nx F φ w h N [] F φ (Sort.grow (w.drewN k) os) where
  hF _ h := h
  hφ _ _ h := h
  nφ _ _ h := .inl h
  os := rfl
  tape := rfl
  output := rfl
  drawn := Nat.le_add_right _ _
  size := by simp [Sort.grow, World.drewN]
  keep b hb hne := (hne (by simp only [Sort.grow, World.drewN]; rw [Array.getElem?_append_left hb])).elim
  nF b h := .inl h
  objs l o h := by simp [chGet] at h
  own l o b h := by simp [chGet] at h
  inj l l' o o' b h := by simp [chGet] at h
end Go.Proofs.YtameoookmgkmfaaGreat

/- What each element affects by itself: the plain part, and sorts. -/
namespace Go.Proofs.YtameoookmgkmfaaGreat
set_option linter.unusedVariables false
set_option linter.unusedSimpArgs false
open Abs

/-! elements and customers, one behind another -/
/-! how they are ordered -/
def elsAll (s : List Sv) (p : ByteArray → Bool) : List ByteArray := (s.filter fun x => p x.key).flatMap Sv.els
def elsV (s : List Sv) (p : ByteArray → Bool) : List ByteArray := cpt (insSort cmpS (elsAll s p))
end Go.Proofs.YtameoookmgkmfaaGreat

/- What each element affects by itself: walked. -/
namespace Go.Proofs.YtameoookmgkmfaaGreat
set_option linter.unusedVariables false
set_option linter.unusedSimpArgs false
open Abs

theorem cptA_rise : ∀ (l : List ByteArray) (d : ByteArray), (d :: l).Pairwise (fun x y => ¬ cmpS y x < 0) → Rise id (d :: cptA d l) ∧ ∀ x, x ∈ d :: cptA d l ↔ x ∈ d :: l
  | [], d, _ => by simp [cptA, Rise]
  | a :: r, d, h => by
    obtain ⟨h1, h2⟩ := List.pairwise_cons.1 h
    obtain ⟨h3, h4⟩ := List.pairwise_cons.1 h2
    by_cases e : a = d
    · subst e
      have ih := cptA_rise r a h2
      rw [cptA, if_pos rfl]
      refine ⟨ih.1, fun x => ?_⟩
      rw [ih.2 x]; simp
    · have ih := cptA_rise r a h2
      rw [cptA, if_neg e]
      have hlt : ltB d a = true := by
        have := h1 a (by simp)
        rw [cmp_lt] at this
        rcases ltB_tri d a with q | q | q
        · exact q
        · exact absurd q.symm e
        · exact absurd q this
      refine ⟨List.pairwise_cons.2 ⟨fun y hy => ?_, ih.1⟩, fun x => ?_⟩
      · rcases List.mem_cons.1 hy with rfl | hy
        · exact hlt
        · exact ltB_trans hlt ((List.pairwise_cons.1 ih.1).1 y hy)
      · have := ih.2 x
        rw [List.mem_cons, this]; simp
theorem cpt_rise {l : List ByteArray} (h : l.Pairwise fun x y => ¬ cmpS y x < 0) : Rise id (cpt l) ∧ ∀ x, x ∈ cpt l ↔ x ∈ l := by
  cases l with
  | nil => simp [cpt, Rise]
  | cons a r => exact cptA_rise r a h
theorem elsV_rise (s : List Sv) (p : ByteArray → Bool) : Rise id (elsV s p) := (cpt_rise (insSort_srt (swo_key id) _)).1
theorem elsV_mem (s : List Sv) (p : ByteArray → Bool) (x : ByteArray) : x ∈ elsV s p ↔ x ∈ elsAll s p := by
  unfold elsV
  rw [(cpt_rise (l := insSort cmpS (elsAll s p)) (insSort_srt (swo_key id) _)).2, (insSort_perm ..).mem_iff]
theorem elsAll_succ (s : List Sv) (p : ByteArray → Bool) {k : Nat} (h : k < s.length) : elsAll (s.take (k + 1)) p = elsAll (s.take k) p ++ (if p s[k].key then s[k].els else []) := by
  unfold elsAll; rw [List.take_succ_eq_append_getElem h, List.filter_append, List.flatMap_append, List.filter_cons, List.filter_nil]
  split <;> simp
theorem elsAll_len {p : ByteArray → Bool} : ∀ {s : List Sv}, (∀ x ∈ s, x.els.length ≤ 1000) → (elsAll s p).length ≤ 1000 * s.length
  | [], _ => by simp [elsAll]
  | x :: r, h => by
    have ih := elsAll_len (p := p) (s := r) (fun y hy => h y (by simp [hy]))
    have h1 := h x (by simp)
    unfold elsAll at ih ⊢
    rw [List.filter_cons]
    split
    · rw [List.flatMap_cons, List.length_append]; simp only [List.length_cons]; omega
    · simp only [List.length_cons]; omega
/-! the program's -/
end Go.Proofs.YtameoookmgkmfaaGreat

/- What each element affects by itself, by the document; the law. -/
namespace Go.Proofs.YtameoookmgkmfaaGreat
set_option linter.unusedVariables false
set_option linter.unusedSimpArgs false
open Abs

end Go.Proofs.YtameoookmgkmfaaGreat

/- Sets as bits: sizes, orders, lists. -/
namespace Go.Proofs.YtameoookmgkmfaaGreat
set_option linter.unusedVariables false
set_option linter.unusedSimpArgs false
open Abs

theorem u64N {n : Nat} (h : n < 18446744073709551616) : IntKind.u64.wrap (n : Int) = (n : Int) := IntWalk.u64_in _ ⟨by omega, by omega⟩
theorem ofInt_nat (n : Nat) : BitVec.ofInt 64 (n : Int) = BitVec.ofNat 64 n := by
  apply BitVec.eq_of_toNat_eq
  rw [BitVec.toNat_ofInt, BitVec.toNat_ofNat]
  omega
theorem bits_and {a b : Nat} (ha : a < 18446744073709551616) (hb : b < 18446744073709551616) : bitsV .and .u64 (a : Int) (b : Int) = ((a &&& b : Nat) : Int) := by
  have h1 : (BitVec.ofInt 64 (a : Int) &&& BitVec.ofInt 64 (b : Int)).toNat = a &&& b := by
    rw [ofInt_nat, ofInt_nat, BitVec.toNat_and, BitVec.toNat_ofNat, BitVec.toNat_ofNat, Nat.mod_eq_of_lt (by simpa using ha), Nat.mod_eq_of_lt (by simpa using hb)]
  have h2 : a &&& b ≤ a := Nat.and_le_left
  show IntKind.u64.wrap (((BitVec.ofInt 64 (a : Int) &&& BitVec.ofInt 64 (b : Int)).toNat : Nat) : Int) = _
  rw [h1, u64N (by omega)]
theorem bits_or {a b : Nat} (ha : a < 18446744073709551616) (hb : b < 18446744073709551616) : bitsV .or .u64 (a : Int) (b : Int) = ((a ||| b : Nat) : Int) := by
  have h1 : (BitVec.ofInt 64 (a : Int) ||| BitVec.ofInt 64 (b : Int)).toNat = a ||| b := by
    rw [ofInt_nat, ofInt_nat, BitVec.toNat_or, BitVec.toNat_ofNat, BitVec.toNat_ofNat, Nat.mod_eq_of_lt (by simpa using ha), Nat.mod_eq_of_lt (by simpa using hb)]
  have h2 : a ||| b < 18446744073709551616 := by
    have := Nat.or_lt_two_pow (n := 64) (x := a) (y := b) (by simpa using ha) (by simpa using hb)
    simpa using this
  show IntKind.u64.wrap (((BitVec.ofInt 64 (a : Int) ||| BitVec.ofInt 64 (b : Int)).toNat : Nat) : Int) = _
  rw [h1, u64N h2]
theorem bits_xor {a b : Nat} (ha : a < 18446744073709551616) (hb : b < 18446744073709551616) : bitsV .xor .u64 (a : Int) (b : Int) = ((a ^^^ b : Nat) : Int) := by
  have h1 : (BitVec.ofInt 64 (a : Int) ^^^ BitVec.ofInt 64 (b : Int)).toNat = a ^^^ b := by
    rw [ofInt_nat, ofInt_nat, BitVec.toNat_xor, BitVec.toNat_ofNat, BitVec.toNat_ofNat, Nat.mod_eq_of_lt (by simpa using ha), Nat.mod_eq_of_lt (by simpa using hb)]
  have h2 : a ^^^ b < 18446744073709551616 := by
    have := Nat.xor_lt_two_pow (n := 64) (x := a) (y := b) (by simpa using ha) (by simpa using hb)
    simpa using this
  show IntKind.u64.wrap (((BitVec.ofInt 64 (a : Int) ^^^ BitVec.ofInt 64 (b : Int)).toNat : Nat) : Int) = _
  rw [h1, u64N h2]
/-! how many -/
def popF : Nat → Nat → Nat
  | 0, _ => 0
  | n + 1, m => m % 2 + popF n (m / 2)
def popc (m : Nat) : Nat := popF 14 m
/-- for all small numbers, by trying -/
def allB (p : Nat → Bool) : Bool := (List.range 128).all fun a => (List.range 128).all fun b => p (a * 128 + b)
theorem allB_at {p : Nat → Bool} (h : allB p = true) {m : Nat} (hm : m < 16384) : p m = true := by
  have h1 := List.all_eq_true.1 h (m / 128) (by rw [List.mem_range]; omega)
  have h2 := List.all_eq_true.1 h1 (m % 128) (by rw [List.mem_range]; omega)
  have : m / 128 * 128 + m % 128 = m := by omega
  rwa [this] at h2
theorem pop_less {m : Nat} (h : m < 16384) (h0 : m ≠ 0) : popc (m &&& (m - 1)) + 1 = popc m := by
  have := allB_at (p := fun m => decide (m = 0) || decide (popc (m &&& (m - 1)) + 1 = popc m)) (by decide +kernel) h
  simpa [h0] using this
/-- the lowest bit -/
def lowF : Nat → Nat → Nat
  | 0, _ => 0
  | n + 1, m => if m % 2 = 1 then 0 else lowF n (m / 2) + 1
def low (m : Nat) : Nat := lowF 14 m
theorem low_bit {d : Nat} (h : d < 16384) (h0 : d ≠ 0) : d &&& (18446744073709551616 - d) = 2 ^ low d := by
  have := allB_at (p := fun d => decide (d = 0) || decide (d &&& (18446744073709551616 - d) = 2 ^ low d)) (by decide +kernel) h
  simpa [h0] using this
theorem lowF_spec : ∀ (n m : Nat), m < 2 ^ n → m ≠ 0 → m.testBit (lowF n m) = true ∧ ∀ j, j < lowF n m → m.testBit j = false
  | 0, m, h, h0 => by simp at h; omega
  | n + 1, m, h, h0 => by
    rw [lowF]
    by_cases q : m % 2 = 1
    · rw [if_pos q]
      refine ⟨by rw [Nat.testBit_zero]; simpa using q, fun j hj => by omega⟩
    · rw [if_neg q]
      obtain ⟨h1, h2⟩ := lowF_spec n (m / 2) (by rw [Nat.pow_succ] at h; omega) (by omega)
      refine ⟨by rw [Nat.testBit_succ]; exact h1, fun j hj => ?_⟩
      cases j with
      | zero => rw [Nat.testBit_zero]; simpa using q
      | succ j => rw [Nat.testBit_succ]; exact h2 j (by omega)
theorem low_spec {m : Nat} (h : m < 16384) (h0 : m ≠ 0) : m.testBit (low m) = true ∧ ∀ j, j < low m → m.testBit j = false := lowF_spec 14 m (by simpa using h) h0
/-- which of two sets has the first index that is not in both -/
def befB (a b : Nat) : Bool := a.testBit (low (a ^^^ b))
def LowLt (a b : Nat) : Prop := ∃ i, a.testBit i = true ∧ b.testBit i = false ∧ ∀ j, j < i → a.testBit j = b.testBit j
theorem LowLt.trans {a b c : Nat} (h1 : LowLt a b) (h2 : LowLt b c) : LowLt a c := by
  obtain ⟨i, a1, a2, a3⟩ := h1
  obtain ⟨k, b1, b2, b3⟩ := h2
  rcases Nat.lt_trichotomy i k with h | h | h
  · exact ⟨i, a1, by rw [← b3 i h]; exact a2, fun j hj => by rw [a3 j hj, b3 j (by omega)]⟩
  · subst h; rw [a2] at b1; cases b1
  · exact ⟨k, by rw [a3 k h]; exact b1, b2, fun j hj => by rw [a3 j (by omega), b3 j hj]⟩
theorem LowLt.asym {a b : Nat} (h1 : LowLt a b) (h2 : LowLt b a) : False := by
  obtain ⟨i, a1, a2, a3⟩ := h1
  obtain ⟨k, b1, b2, b3⟩ := h2
  rcases Nat.lt_trichotomy i k with h | h | h
  · rw [b3 i h, a1] at a2; cases a2
  · subst h; rw [a1] at b2; cases b2
  · rw [a3 k h, b1] at b2; cases b2
theorem befB_iff {a b : Nat} (ha : a < 16384) (hb : b < 16384) (hne : a ≠ b) : (befB a b = true ↔ LowLt a b) ∧ (befB a b = false ↔ LowLt b a) := by
  have hx : a ^^^ b < 16384 := by
    have := Nat.xor_lt_two_pow (n := 14) (x := a) (y := b) (by simpa using ha) (by simpa using hb)
    simpa using this
  have h0 : a ^^^ b ≠ 0 := fun e => hne (by
    apply Nat.eq_of_testBit_eq
    intro j
    have h := congrArg (fun m : Nat => m.testBit j) e
    simp only [Nat.testBit_xor, Nat.zero_testBit] at h
    cases ha : a.testBit j <;> cases hb : b.testBit j <;> simp_all)
  obtain ⟨h1, h2⟩ := low_spec hx h0
  unfold befB
  generalize low (a ^^^ b) = i at *
  rw [Nat.testBit_xor] at h1
  have h3 : ∀ j, j < i → a.testBit j = b.testBit j := by
    intro j hj
    have := h2 j hj
    rw [Nat.testBit_xor] at this
    simpa using this
  cases hA : a.testBit i with
  | true =>
    have hB : b.testBit i = false := by rw [hA] at h1; simpa using h1
    have hl : LowLt a b := ⟨i, hA, hB, h3⟩
    exact ⟨⟨fun _ => hl, fun _ => rfl⟩, ⟨fun h => (by cases h), fun h => (hl.asym h).elim⟩⟩
  | false =>
    have hB : b.testBit i = true := by rw [hA] at h1; simpa using h1
    have hl : LowLt b a := ⟨i, hB, hA, fun j hj => (h3 j hj).symm⟩
    exact ⟨⟨fun h => (by cases h), fun h => (hl.asym h).elim⟩, ⟨fun _ => hl, fun _ => rfl⟩⟩
end Go.Proofs.YtameoookmgkmfaaGreat

/- Sets as bits: what the program counts and compares. -/
namespace Go.Proofs.YtameoookmgkmfaaGreat
set_option linter.unusedVariables false
set_option linter.unusedSimpArgs false
open Abs

theorem shN (x d : Nat) (si : Int) (h : (2 : Int) ^ (min si.toNat IntKind.u64.bits) = (d : Int)) : shV .shr .u64 (x : Int) si = ((x / d : Nat) : Int) := by
  show (x : Int).fdiv _ = _
  rw [h, Int.ofNat_fdiv]
def o1 (x : Nat) : Nat := (x / 2 &&& 6148914691236517205) + (x &&& 6148914691236517205)
def o2 (x : Nat) : Nat := (x / 4 &&& 3689348814741910323) + (x &&& 3689348814741910323)
def o3 (x : Nat) : Nat := (x / 16 + x) &&& 1085102592571150095
def o4 (x : Nat) : Nat := x + x / 256
def o5 (x : Nat) : Nat := x + x / 65536
def o6 (x : Nat) : Nat := x + x / 4294967296
theorem o1_lt (x : Nat) : o1 x ≤ 2 * x := by
  have h1 : x / 2 &&& 6148914691236517205 ≤ x / 2 := Nat.and_le_left
  have h2 : x &&& 6148914691236517205 ≤ x := Nat.and_le_left
  unfold o1; omega
theorem o2_lt (x : Nat) : o2 x ≤ 2 * x := by
  have h1 : x / 4 &&& 3689348814741910323 ≤ x / 4 := Nat.and_le_left
  have h2 : x &&& 3689348814741910323 ≤ x := Nat.and_le_left
  unfold o2; omega
theorem o3_lt (x : Nat) : o3 x ≤ 2 * x := by
  have h1 : (x / 16 + x) &&& 1085102592571150095 ≤ x / 16 + x := Nat.and_le_left
  unfold o3; omega
theorem i1 (x : Nat) (h : x < 1099511627776) : IntKind.u64.wrap (bitsV .and .u64 (shV .shr .u64 (x : Int) 1) 6148914691236517205 + bitsV .and .u64 (x : Int) 6148914691236517205) = ((o1 x : Nat) : Int) := by
  have h1 := bits_and (a := x / 2) (b := 6148914691236517205) (by omega) (by decide)
  have h2 := bits_and (a := x) (b := 6148914691236517205) (by omega) (by decide)
  have h3 := o1_lt x
  rw [shN x 2 1 (by decide)]
  exact (congr (congrArg (fun a b : Int => IntKind.u64.wrap (a + b)) h1) h2).trans (u64N (n := o1 x) (by omega))
theorem i2 (x : Nat) (h : x < 1099511627776) : IntKind.u64.wrap (bitsV .and .u64 (shV .shr .u64 (x : Int) 2) 3689348814741910323 + bitsV .and .u64 (x : Int) 3689348814741910323) = ((o2 x : Nat) : Int) := by
  have h1 := bits_and (a := x / 4) (b := 3689348814741910323) (by omega) (by decide)
  have h2 := bits_and (a := x) (b := 3689348814741910323) (by omega) (by decide)
  have h3 := o2_lt x
  rw [shN x 4 2 (by decide)]
  exact (congr (congrArg (fun a b : Int => IntKind.u64.wrap (a + b)) h1) h2).trans (u64N (n := o2 x) (by omega))
theorem i3 (x : Nat) (h : x < 1099511627776) : bitsV .and .u64 (IntKind.u64.wrap (shV .shr .u64 (x : Int) 4 + (x : Int))) 1085102592571150095 = ((o3 x : Nat) : Int) := by
  have h1 := bits_and (a := x / 16 + x) (b := 1085102592571150095) (by omega) (by decide)
  rw [shN x 16 4 (by decide), show IntKind.u64.wrap (((x / 16 : Nat) : Int) + (x : Int)) = ((x / 16 + x : Nat) : Int) from u64N (by omega)]
  exact h1
theorem i4 (x : Nat) (h : x < 1099511627776) : IntKind.u64.wrap ((x : Int) + shV .shr .u64 (x : Int) 8) = ((o4 x : Nat) : Int) := by
  rw [shN x 256 8 (by decide)]
  exact u64N (n := o4 x) (by unfold o4; omega)
theorem i5 (x : Nat) (h : x < 1099511627776) : IntKind.u64.wrap ((x : Int) + shV .shr .u64 (x : Int) 16) = ((o5 x : Nat) : Int) := by
  rw [shN x 65536 16 (by decide)]
  exact u64N (n := o5 x) (by unfold o5; omega)
theorem i6 (x : Nat) (h : x < 1099511627776) : IntKind.u64.wrap ((x : Int) + shV .shr .u64 (x : Int) 32) = ((o6 x : Nat) : Int) := by
  rw [shN x 4294967296 32 (by decide)]
  exact u64N (n := o6 x) (by unfold o6; omega)
theorem i7 (x : Nat) (h : x < 1099511627776) : bitsV .and .i64 (IntKind.i64.wrap (x : Int)) 127 = ((x &&& 127 : Nat) : Int) := by
  have h0 : x &&& 127 ≤ x := Nat.and_le_left
  rw [wrap_in (by omega) (by omega)]
  have h1 : (BitVec.ofInt 64 (x : Int) &&& BitVec.ofInt 64 ((127 : Nat) : Int)).toNat = x &&& 127 := by
    rw [ofInt_nat, ofInt_nat, BitVec.toNat_and, BitVec.toNat_ofNat, BitVec.toNat_ofNat, Nat.mod_eq_of_lt (by omega)]
  show IntKind.i64.wrap (((BitVec.ofInt 64 (x : Int) &&& BitVec.ofInt 64 ((127 : Nat) : Int)).toNat : Nat) : Int) = _
  rw [h1, wrap_in (by omega) (by omega)]
theorem ones_all {m : Nat} (h : m < 16384) : o6 (o5 (o4 (o3 (o2 (o1 m))))) &&& 127 = popc m := by
  have := allB_at (p := fun m => decide (o6 (o5 (o4 (o3 (o2 (o1 m))))) &&& 127 = popc m)) (by decide +kernel) h
  simpa using this
theorem popF_le : ∀ (n m : Nat), popF n m ≤ n
  | 0, _ => Nat.le_refl _
  | n + 1, m => by have := popF_le n (m / 2); rw [popF]; omega
theorem popc_le (m : Nat) : popc m ≤ 14 := popF_le 14 m
theorem low_test {a b : Nat} (ha : a < 16384) (hb : b < 16384) (hne : a ≠ b) :
    (bitsV .and .u64 (a : Int) (bitsV .and .u64 (bitsV .xor .u64 (a : Int) (b : Int)) (IntKind.u64.wrap (0 - (bitsV .xor .u64 (a : Int) (b : Int))))) != 0) = befB a b := by
  have hx : a ^^^ b < 16384 := by
    have := Nat.xor_lt_two_pow (n := 14) (x := a) (y := b) (by simpa using ha) (by simpa using hb)
    simpa using this
  have h0 : a ^^^ b ≠ 0 := fun e => hne (by
    apply Nat.eq_of_testBit_eq
    intro j
    have h := congrArg (fun m : Nat => m.testBit j) e
    simp only [Nat.testBit_xor, Nat.zero_testBit] at h
    cases ha : a.testBit j <;> cases hb : b.testBit j <;> simp_all)
  have hlow := low_bit hx h0
  rw [bits_xor (by omega) (by omega)]
  unfold befB
  generalize a ^^^ b = d at *
  have hn : IntKind.u64.wrap (0 - (d : Int)) = ((18446744073709551616 - d : Nat) : Int) := by
    show (0 - (d : Int)) % 18446744073709551616 = _
    omega
  have hp : 2 ^ low d < 18446744073709551616 := by rw [← hlow]; exact Nat.lt_of_le_of_lt Nat.and_le_left (by omega)
  rw [hn, bits_and (by omega) (by omega), hlow, bits_and (by omega) hp]
  cases hT : a.testBit (low d) with
  | true =>
    have : a &&& 2 ^ low d ≠ 0 := fun e => by
      have h := congrArg (fun m : Nat => m.testBit (low d)) e
      simp [Nat.testBit_and, hT, Nat.testBit_two_pow] at h
    simp; omega
  | false =>
    have : a &&& 2 ^ low d = 0 := by
      apply Nat.eq_of_testBit_eq
      intro j
      rw [Nat.testBit_and, Nat.testBit_two_pow, Nat.zero_testBit]
      by_cases q : low d = j
      · subst q; rw [hT]; rfl
      · simp [q]
    rw [this]; rfl
set_option maxRecDepth 100000 in
set_option maxHeartbeats 4000000 in
theorem ones64_pc (n : Nat) (hn : n < 16384) : PCp 91 [.c (.int .u64 n)] [] (.c (.int .i64 (popc n))) [] := by
  refine fn_sound (mt := mts) tab_fits tab_mixed Tryz.func91 (by rfl) (by kernel_rfl) (by kernel_rfl) Tryz.results91 (Nat.le_of_ble_eq_true (by kernel_rfl)) ?_
  conv => whnf
  repeat' (first
    | (refine Split.mk (fun h => ?_) (fun h => ?_) <;> (try simp only [decide_eq_true_eq, decide_eq_false_iff_not, Bool.not_eq_true', Bool.not_eq_false', beq_iff_eq, beq_eq_false_iff_ne, bne_iff_ne, bne_eq_false_iff_eq] at h) <;> (first | (exfalso; first | omega | exact h trivial) | (conv => whnf)))
    | (refine CondG.mk (fun h => ?_) (fun h => ?_) <;> (try simp only [decide_eq_true_eq, decide_eq_false_iff_not, Bool.not_eq_true', Bool.not_eq_false', beq_iff_eq, beq_eq_false_iff_ne, bne_iff_ne, bne_eq_false_iff_eq] at h) <;> (first | (exfalso; first | omega | exact h trivial) | (conv => whnf)))
    | (refine Ask.mk (by first | omega | (unfold roomOK; simp [cutRows]; done) | (unfold roomOK; simp [cutRows]; omega) | (simp [cutRows]; done) | (simp [cutRows]; omega)) ?_; conv => whnf)
    | (refine AppG.mk (by first | omega | (unfold roomOK; simp [cutRows]; done) | (unfold roomOK; simp [cutRows]; omega) | (simp [cutRows]; done) | (simp [cutRows]; omega)) ?_; conv => whnf)
    | (refine SliceG.fr ?_; conv => whnf)
    | (refine idx_at _ (by with_reducible rfl) (by first | assumption | omega) ?_; conv => whnf)
    | ((with_reducible refine row_map (by first | assumption | omega) ?_); conv => whnf)
    | ((with_reducible refine row_set (by first | assumption | omega | (simp only [List.length_set]; omega) | (simp; omega)) ?_); conv => whnf)
    | fail)
  all_goals
    have e1 := o1_lt n
    have e2 := o2_lt (o1 n)
    have e3 := o3_lt (o2 (o1 n))
    refine fini ?_
    rw [i1 n (by omega), i2 (o1 n) (by omega), i3 (o2 (o1 n)) (by omega), i4 (o3 (o2 (o1 n))) (by omega), i5 (o4 (o3 (o2 (o1 n)))) (by unfold o4; omega), i6 (o5 (o4 (o3 (o2 (o1 n))))) (by unfold o5 o4; omega), i7 (o6 (o5 (o4 (o3 (o2 (o1 n)))))) (by unfold o6 o5 o4; omega), ones_all hn]
set_option maxRecDepth 100000 in
set_option maxHeartbeats 4000000 in
theorem ones_pc (n : Nat) (hn : n < 16384) : PCp 53 [.c (.int .u64 n)] [] (.c (.int .i64 (popc n))) [] := by
  refine fn_sound (mt := mts) tab_fits tab_mixed Tryz.func53 (by rfl) (by kernel_rfl) (by kernel_rfl) Tryz.results53 (Nat.le_of_ble_eq_true (by kernel_rfl)) ?_
  conv => whnf
  repeat' (first
    | (refine Split.mk (fun h => ?_) (fun h => ?_) <;> (try simp only [decide_eq_true_eq, decide_eq_false_iff_not, Bool.not_eq_true', Bool.not_eq_false', beq_iff_eq, beq_eq_false_iff_ne, bne_iff_ne, bne_eq_false_iff_eq] at h) <;> (first | (exfalso; first | omega | exact h trivial) | (conv => whnf)))
    | (refine CondG.mk (fun h => ?_) (fun h => ?_) <;> (try simp only [decide_eq_true_eq, decide_eq_false_iff_not, Bool.not_eq_true', Bool.not_eq_false', beq_iff_eq, beq_eq_false_iff_ne, bne_iff_ne, bne_eq_false_iff_eq] at h) <;> (first | (exfalso; first | omega | exact h trivial) | (conv => whnf)))
    | (refine CallX.mk _ _ (by first | exact ones64_pc n hn) ?_; conv => whnf)
    | (refine CallG.mk _ _ (by first | exact ones64_pc n hn) ?_; conv => whnf)
    | (refine Ask.mk (by first | omega | (unfold roomOK; simp [cutRows]; done) | (unfold roomOK; simp [cutRows]; omega) | (simp [cutRows]; done) | (simp [cutRows]; omega)) ?_; conv => whnf)
    | (refine AppG.mk (by first | omega | (unfold roomOK; simp [cutRows]; done) | (unfold roomOK; simp [cutRows]; omega) | (simp [cutRows]; done) | (simp [cutRows]; omega)) ?_; conv => whnf)
    | (refine SliceG.fr ?_; conv => whnf)
    | (refine idx_at _ (by with_reducible rfl) (by first | assumption | omega) ?_; conv => whnf)
    | ((with_reducible refine row_map (by first | assumption | omega) ?_); conv => whnf)
    | ((with_reducible refine row_set (by first | assumption | omega | (simp only [List.length_set]; omega) | (simp; omega)) ?_); conv => whnf)
    | fail)
  exact fini rfl
set_option maxRecDepth 100000 in
set_option maxHeartbeats 4000000 in
theorem setBefore_pc (a b : Nat) (ha : a < 16384) (hb : b < 16384) (hne : a ≠ b) : PCp 78 [.c (.int .u64 a), .c (.int .u64 b)] [] (.c (.bool (decide (popc a < popc b ∨ popc a = popc b ∧ befB a b = true)))) [] := by
  refine fn_sound (mt := mts) tab_fits tab_mixed Tryz.func78 (by rfl) (by kernel_rfl) (by kernel_rfl) Tryz.results78 (Nat.le_of_ble_eq_true (by kernel_rfl)) ?_
  conv => whnf
  have p1 := popc_le a
  have p2 := popc_le b
  have hw : IntKind.i64.wrap ((popc a : Int) - (popc b : Int)) = (popc a : Int) - (popc b : Int) := wrap_in (by omega) (by omega)
  have hlt := low_test ha hb hne
  repeat' (first
    | (refine Split.mk (fun h => ?_) (fun h => ?_) <;> (try simp only [decide_eq_true_eq, decide_eq_false_iff_not, Bool.not_eq_true', Bool.not_eq_false', beq_iff_eq, beq_eq_false_iff_ne, bne_iff_ne, bne_eq_false_iff_eq] at h) <;> (first | (exfalso; first | omega | exact h trivial) | (conv => whnf)))
    | (refine CondG.mk (fun h => ?_) (fun h => ?_) <;> (try simp only [decide_eq_true_eq, decide_eq_false_iff_not, Bool.not_eq_true', Bool.not_eq_false', beq_iff_eq, beq_eq_false_iff_ne, bne_iff_ne, bne_eq_false_iff_eq] at h) <;> (first | (exfalso; first | omega | exact h trivial) | (conv => whnf)))
    | (refine CallX.mk _ _ (by first | exact ones_pc a ha | exact ones_pc b hb) ?_; conv => whnf)
    | (refine CallG.mk _ _ (by first | exact ones_pc a ha | exact ones_pc b hb) ?_; conv => whnf)
    | (refine Ask.mk (by first | omega | (unfold roomOK; simp [cutRows]; done) | (unfold roomOK; simp [cutRows]; omega) | (simp [cutRows]; done) | (simp [cutRows]; omega)) ?_; conv => whnf)
    | (refine AppG.mk (by first | omega | (unfold roomOK; simp [cutRows]; done) | (unfold roomOK; simp [cutRows]; omega) | (simp [cutRows]; done) | (simp [cutRows]; omega)) ?_; conv => whnf)
    | (refine SliceG.fr ?_; conv => whnf)
    | (refine idx_at _ (by with_reducible rfl) (by first | assumption | omega) ?_; conv => whnf)
    | ((with_reducible refine row_map (by first | assumption | omega) ?_); conv => whnf)
    | ((with_reducible refine row_set (by first | assumption | omega | (simp only [List.length_set]; omega) | (simp; omega)) ?_); conv => whnf)
    | fail)
  all_goals simp only [hw] at *
  · exact finb (by simp; omega)
  · refine finb ?_
    rw [hlt]
    have : popc a = popc b := by omega
    simp [this]
  · exact finb (by simp; omega)
set_option maxRecDepth 100000 in
set_option maxHeartbeats 4000000 in
theorem fsize_pc (n : Nat) (hn : n < 16384) : PCp 75 [.c (.int .u64 n)] [] (.c (.int .i64 (popc n))) [] := by
  refine fn_sound (mt := mts) tab_fits tab_mixed Tryz.func75 (by rfl) (by kernel_rfl) (by kernel_rfl) Tryz.results75 (Nat.le_of_ble_eq_true (by kernel_rfl)) ?_
  conv => whnf
  refine loop_while2 (fun (m : Nat) (c : Nat) => m) [] [0, 3] (fun (m : Nat) (c : Nat) => [(0, .c (.int .u64 m)), (3, .c (.int .i64 c))]) (fun (m : Nat) (c : Nat) => []) (fun (m : Nat) (c : Nat) => m < 16384 ∧ c + popc m = popc n) (n) (0) ?_
  conv => whnf
  refine ⟨(by first | rfl | (simp; done) | (simp; rfl)), ?_, ?_⟩
  · exact ⟨hn, by omega⟩
  · intro m c ⟨g1, g2⟩
    conv => whnf
    repeat' (first
      | (refine Split.mk (fun h => ?_) (fun h => ?_) <;> (try simp only [decide_eq_true_eq, decide_eq_false_iff_not, Bool.not_eq_true', Bool.not_eq_false', beq_iff_eq, beq_eq_false_iff_ne, bne_iff_ne, bne_eq_false_iff_eq] at h) <;> (first | (exfalso; first | omega | exact h trivial) | (conv => whnf)))
      | (refine CondG.mk (fun h => ?_) (fun h => ?_) <;> (try simp only [decide_eq_true_eq, decide_eq_false_iff_not, Bool.not_eq_true', Bool.not_eq_false', beq_iff_eq, beq_eq_false_iff_ne, bne_iff_ne, bne_eq_false_iff_eq] at h) <;> (first | (exfalso; first | omega | exact h trivial) | (conv => whnf)))
      | (refine Ask.mk (by first | omega | (unfold roomOK; simp [cutRows]; done) | (unfold roomOK; simp [cutRows]; omega) | (simp [cutRows]; done) | (simp [cutRows]; omega)) ?_; conv => whnf)
      | (refine AppG.mk (by first | omega | (unfold roomOK; simp [cutRows]; done) | (unfold roomOK; simp [cutRows]; omega) | (simp [cutRows]; done) | (simp [cutRows]; omega)) ?_; conv => whnf)
      | (refine SliceG.fr ?_; conv => whnf)
      | (refine idx_at _ (by with_reducible rfl) (by first | assumption | omega) ?_; conv => whnf)
      | ((with_reducible refine row_map (by first | assumption | omega) ?_); conv => whnf)
      | ((with_reducible refine row_set (by first | assumption | omega | (simp only [List.length_set]; omega) | (simp; omega)) ?_); conv => whnf)
      | fail)
    · have hm : m ≠ 0 := by intro e; subst e; contradiction
      have q1 := pop_less g1 hm
      have q2 : m &&& (m - 1) ≤ m - 1 := Nat.and_le_right
      have q3 := popc_le n
      refine meas_next (m &&& (m - 1), c + 1) (by simp only; omega) (by
        rw [show IntKind.u64.wrap ((m : Int) - 1) = ((m - 1 : Nat) : Int) by rw [show (m : Int) - 1 = ((m - 1 : Nat) : Int) by omega]; exact u64N (by omega), bits_and (by omega) (by omega), show IntKind.i64.wrap ((c : Int) + 1) = ((c + 1 : Nat) : Int) by rw [wrap_in (by omega) (by omega)]; rfl]; rfl) ⟨by simp only; omega, by simp only; omega⟩
    · have hm : m = 0 := by omega
      subst hm
      have : popc 0 = 0 := by decide
      exact fini (by omega)
set_option maxRecDepth 100000 in
set_option maxHeartbeats 4000000 in
theorem fMeets1_pc {b : List ByteArray} (h : Rise id b) (hl : b.length ≤ 1000000) (x : ByteArray) : PCp 69 [.c (.str x), .c (.ptr 0 0)] [.box [.lst 1 (b.map encS)]] (.c (.bool (decide (x ∈ b)))) [.box [.lst 1 (b.map encS)]] := by
  refine fn_sound (mt := mts) tab_fits tab_mixed Tryz.func69 (by rfl) (by kernel_rfl) (by kernel_rfl) Tryz.results69 (Nat.le_of_ble_eq_true (by kernel_rfl)) ?_
  conv => whnf
  repeat' (first
    | (refine Split.mk (fun h => ?_) (fun h => ?_) <;> (try simp only [decide_eq_true_eq, decide_eq_false_iff_not, Bool.not_eq_true', Bool.not_eq_false', beq_iff_eq, beq_eq_false_iff_ne, bne_iff_ne, bne_eq_false_iff_eq] at h) <;> (first | (exfalso; first | omega | exact h trivial) | (conv => whnf)))
    | (refine CondG.mk (fun h => ?_) (fun h => ?_) <;> (try simp only [decide_eq_true_eq, decide_eq_false_iff_not, Bool.not_eq_true', Bool.not_eq_false', beq_iff_eq, beq_eq_false_iff_ne, bne_iff_ne, bne_eq_false_iff_eq] at h) <;> (first | (exfalso; first | omega | exact h trivial) | (conv => whnf)))
    | (refine CallX.mk _ _ (by first | exact fHas_pc h hl x) ?_; conv => whnf)
    | (refine CallG.mk _ _ (by first | exact fHas_pc h hl x) ?_; conv => whnf)
    | (refine Ask.mk (by first | omega | (unfold roomOK; simp [cutRows]; done) | (unfold roomOK; simp [cutRows]; omega) | (simp [cutRows]; done) | (simp [cutRows]; omega)) ?_; conv => whnf)
    | (refine AppG.mk (by first | omega | (unfold roomOK; simp [cutRows]; done) | (unfold roomOK; simp [cutRows]; omega) | (simp [cutRows]; done) | (simp [cutRows]; omega)) ?_; conv => whnf)
    | (refine SliceG.fr ?_; conv => whnf)
    | (refine idx_at _ (by with_reducible rfl) (by first | assumption | omega) ?_; conv => whnf)
    | ((with_reducible refine row_map (by first | assumption | omega) ?_); conv => whnf)
    | ((with_reducible refine row_set (by first | assumption | omega | (simp only [List.length_set]; omega) | (simp; omega)) ?_); conv => whnf)
    | fail)
  exact .mk ⟨rfl, rfl⟩
set_option maxRecDepth 100000 in
set_option maxHeartbeats 4000000 in
theorem fMeets_pc (a : List ByteArray) (ha : a.length ≤ 1000000) {b : List ByteArray} (h : Rise id b) (hl : b.length ≤ 1000000) : PCp 33 [.c (.lst 1 (a.map encS)), .c (.lst 1 (b.map encS))] [] (.c (.bool (a.any fun x => decide (x ∈ b)))) [] := by
  refine fn_sound (mt := mts) tab_fits tab_mixed Tryz.func33 (by rfl) (by kernel_rfl) (by kernel_rfl) Tryz.results33 (Nat.le_of_ble_eq_true (by kernel_rfl)) ?_
  conv => whnf
  repeat' (first
    | (refine Split.mk (fun h => ?_) (fun h => ?_) <;> (try simp only [decide_eq_true_eq, decide_eq_false_iff_not, Bool.not_eq_true', Bool.not_eq_false', beq_iff_eq, beq_eq_false_iff_ne, bne_iff_ne, bne_eq_false_iff_eq] at h) <;> (first | (exfalso; first | omega | exact h trivial) | (conv => whnf)))
    | (refine CondG.mk (fun h => ?_) (fun h => ?_) <;> (try simp only [decide_eq_true_eq, decide_eq_false_iff_not, Bool.not_eq_true', Bool.not_eq_false', beq_iff_eq, beq_eq_false_iff_ne, bne_iff_ne, bne_eq_false_iff_eq] at h) <;> (first | (exfalso; first | omega | exact h trivial) | (conv => whnf)))
    | (refine CallX.mk _ _ (by first | exact ixUC_pc (b.map encS) 69 (fun x => decide (x ∈ b)) a ha (fun x _ => fMeets1_pc h hl x)) ?_; conv => whnf)
    | (refine CallG.mk _ _ (by first | exact ixUC_pc (b.map encS) 69 (fun x => decide (x ∈ b)) a ha (fun x _ => fMeets1_pc h hl x)) ?_; conv => whnf)
    | (refine Ask.mk (by first | omega | (unfold roomOK; simp [cutRows]; done) | (unfold roomOK; simp [cutRows]; omega) | (simp [cutRows]; done) | (simp [cutRows]; omega)) ?_; conv => whnf)
    | (refine AppG.mk (by first | omega | (unfold roomOK; simp [cutRows]; done) | (unfold roomOK; simp [cutRows]; omega) | (simp [cutRows]; done) | (simp [cutRows]; omega)) ?_; conv => whnf)
    | (refine SliceG.fr ?_; conv => whnf)
    | (refine idx_at _ (by with_reducible rfl) (by first | assumption | omega) ?_; conv => whnf)
    | ((with_reducible refine row_map (by first | assumption | omega) ?_); conv => whnf)
    | ((with_reducible refine row_set (by first | assumption | omega | (simp only [List.length_set]; omega) | (simp; omega)) ?_); conv => whnf)
    | fail)
  all_goals exact finb (by simp_all)
end Go.Proofs.YtameoookmgkmfaaGreat

/- Explanations in plain Lean: needs, good sets, the best ones, sorted; what is unexplained. -/
namespace Go.Proofs.YtameoookmgkmfaaGreat
set_option linter.unusedVariables false
set_option linter.unusedSimpArgs false
open Abs

/-- which elements of a list, as bits -/
def bitN (p : ByteArray → Bool) (l : List ByteArray) : Nat → Nat
  | 0 => 0
  | k + 1 => if p (l.getD k ⟨#[]⟩) then bitN p l k ||| 2 ^ k else bitN p l k
theorem bitN_lt (p : ByteArray → Bool) (l : List ByteArray) : ∀ k, bitN p l k < 2 ^ k
  | 0 => by simp [bitN]
  | k + 1 => by
    have ih := bitN_lt p l k
    have h1 : 2 ^ k < 2 ^ (k + 1) := by rw [Nat.pow_succ]; have := Nat.two_pow_pos k; omega
    rw [bitN]; split
    · exact Nat.or_lt_two_pow (by omega) h1
    · omega
theorem bitN_test (p : ByteArray → Bool) (l : List ByteArray) : ∀ k j, (bitN p l k).testBit j = (decide (j < k) && p (l.getD j ⟨#[]⟩))
  | 0, j => by simp [bitN]
  | k + 1, j => by
    have ih := bitN_test p l k j
    rw [bitN]
    by_cases hj : j = k
    · subst hj
      split
      · rename_i h
        rw [Nat.testBit_or, Nat.testBit_two_pow, h]; simp
      · rename_i h
        have hp : p (l.getD j ⟨#[]⟩) = false := Bool.eq_false_iff.2 h
        rw [ih, hp]; simp
    · have h2 : decide (j < k + 1) = decide (j < k) := by rw [decide_eq_decide]; omega
      rw [h2, ← ih]
      split
      · rw [Nat.testBit_or, Nat.testBit_two_pow]; simp [Ne.symm hj]
      · rfl
theorem pow14 {k : Nat} (h : k ≤ 14) : 2 ^ k ≤ 16384 := Nat.pow_le_pow_right (n := 2) (by decide) h
theorem shl1 {k : Nat} (h : k ≤ 14) : shV .shl .u64 1 (k : Int) = ((2 ^ k : Nat) : Int) := by
  have := pow14 h
  show IntKind.u64.wrap (1 * 2 ^ (min (k : Int).toNat IntKind.u64.bits)) = _
  rw [Int.one_mul, Int.toNat_natCast, Nat.min_eq_left (by show k ≤ 64; omega)]
  have h2 : ((2 : Int) ^ k) = ((2 ^ k : Nat) : Int) := by simp
  rw [h2, u64N (by omega)]
/-- the needs of what is down -/
def needO (s : List Sv) (l : List ByteArray) (k : ByteArray) : Nat := bitN (fun x => decide (x ∈ (svG s k).els)) l l.length
def needL (s : List Sv) (l down : List ByteArray) : List Nat := (down.map (needO s l)).filter fun n => decide (n ≠ 0)
theorem needL_succ (s : List Sv) (l down : List ByteArray) {k : Nat} (h : k < down.length) : needL s l (down.take (k + 1)) = needL s l (down.take k) ++ (if needO s l down[k] ≠ 0 then [needO s l down[k]] else []) := by
  unfold needL; rw [List.take_succ_eq_append_getElem h, List.map_append, List.filter_append, List.map_cons, List.map_nil, List.filter_cons, List.filter_nil]
  simp
theorem needL_len (s : List Sv) (l down : List ByteArray) : (needL s l down).length ≤ down.length := by
  refine Nat.le_trans (List.length_filter_le ..) ?_; simp
theorem needL_lt {s : List Sv} {l down : List ByteArray} (hl : l.length ≤ 14) : ∀ n ∈ needL s l down, n < 16384 := by
  intro n hn
  obtain ⟨k, _, rfl⟩ := List.mem_map.1 (List.mem_filter.1 hn).1
  have := bitN_lt (fun x => decide (x ∈ (svG s k).els)) l l.length
  have := pow14 hl
  unfold needO; omega
def goodM (ns : List Nat) (m : Nat) : Bool := !(ns.any fun n => decide (n &&& m = 0))
def beforeB (b : List Nat) (k : Nat) : List Nat := match b with | x :: _ => if popc k < popc x then [] else b | [] => []
def withB (b : List Nat) (k : Nat) : List Nat := match b with | x :: _ => if popc k = popc x then b ++ [k] else b | [] => [k]
def bestK (ns : List Nat) : Nat → List Nat
  | 0 => []
  | k + 1 => if goodM ns k then withB (beforeB (bestK ns k) k) k else bestK ns k
theorem bestK_lt (ns : List Nat) : ∀ k, (∀ x ∈ bestK ns k, x < k) ∧ (bestK ns k).length ≤ k
  | 0 => by simp [bestK]
  | k + 1 => by
    obtain ⟨h1, h2⟩ := bestK_lt ns k
    rw [bestK]
    split
    · have h3 : ∀ x ∈ beforeB (bestK ns k) k, x < k := by
        unfold beforeB
        split
        · split
          · simp
          · exact h1
        · simp
      have h4 : (beforeB (bestK ns k) k).length ≤ k := by
        unfold beforeB
        split
        · split
          · simp
          · exact h2
        · simp
      generalize beforeB (bestK ns k) k = b at *
      unfold withB
      split
      · split
        · refine ⟨fun x hx => ?_, by simp at h4 ⊢; omega⟩
          rcases List.mem_append.1 hx with h | h
          · have := h3 x h; omega
          · simp at h; omega
        · exact ⟨fun x hx => by have := h3 x hx; omega, by omega⟩
      · exact ⟨fun x hx => by simp at hx; omega, by simp⟩
    · exact ⟨fun x hx => by have := h1 x hx; omega, by omega⟩
abbrev encU (n : Nat) : List V := [.int .u64 (n : Int)]
abbrev M14 := { m : Nat // m < 16384 }
def befP (a b : M14) : Bool := decide (popc a.1 < popc b.1 ∨ popc a.1 = popc b.1 ∧ befB a.1 b.1 = true)
def cmpM (a b : M14) : Int := if a = b then 0 else if befP a b then -1 else 1
theorem cmpM_neg {a b : M14} : cmpM a b < 0 ↔ popc a.1 < popc b.1 ∨ popc a.1 = popc b.1 ∧ LowLt a.1 b.1 := by
  unfold cmpM
  by_cases h : a = b
  · subst h
    rw [if_pos rfl]
    constructor
    · intro h; omega
    · rintro (h | ⟨_, h⟩)
      · omega
      · exact (h.asym h).elim
  · have hne : a.1 ≠ b.1 := fun e => h (Subtype.ext e)
    have hb := (befB_iff a.2 b.2 hne).1
    rw [if_neg h, ← hb]
    unfold befP
    by_cases q : popc a.1 < popc b.1 ∨ popc a.1 = popc b.1 ∧ befB a.1 b.1 = true <;> simp [q]
theorem low_tri {a b : M14} (h : a ≠ b) : LowLt a.1 b.1 ∨ LowLt b.1 a.1 := by
  have hne : a.1 ≠ b.1 := fun e => h (Subtype.ext e)
  obtain ⟨h1, h2⟩ := befB_iff a.2 b.2 hne
  cases q : befB a.1 b.1 with
  | true => exact .inl (h1.1 q)
  | false => exact .inr (h2.1 q)
theorem cmpM_swo : SWOc cmpM where
  irrefl x := by
    rw [cmpM_neg]
    rintro (h | ⟨_, h⟩)
    · omega
    · exact h.asym h
  trans x y z h1 h2 := by
    rw [cmpM_neg] at *
    rcases h1 with h1 | ⟨h1, h3⟩ <;> rcases h2 with h2 | ⟨h2, h4⟩
    · left; omega
    · left; omega
    · left; omega
    · right; exact ⟨by omega, h3.trans h4⟩
  ntrans x y z h1 h2 := by
    rw [cmpM_neg] at *
    rintro (h | ⟨h, h3⟩)
    · by_cases q : popc x.1 < popc y.1
      · exact h1 (.inl q)
      · exact h2 (.inl (by omega))
    · by_cases q : popc x.1 < popc y.1
      · exact h1 (.inl q)
      · by_cases q2 : popc y.1 < popc z.1
        · exact h2 (.inl q2)
        · by_cases e : x = y
          · subst e; exact h2 (.inr ⟨by omega, h3⟩)
          · by_cases e2 : y = z
            · subst e2; exact h1 (.inr ⟨by omega, h3⟩)
            · rcases low_tri e with g | g
              · exact h1 (.inr ⟨by omega, g⟩)
              · rcases low_tri e2 with g2 | g2
                · exact h2 (.inr ⟨by omega, g2⟩)
                · exact h3.asym (g2.trans g)
theorem cmpM_one {a b : M14} (h1 : ¬ cmpM a b < 0) (h2 : ¬ cmpM b a < 0) : a = b := by
  rw [cmpM_neg] at h1 h2
  by_cases e : a = b
  · exact e
  · have q1 : popc a.1 = popc b.1 := by
      rcases Nat.lt_trichotomy (popc a.1) (popc b.1) with h | h | h
      · exact (h1 (.inl h)).elim
      · exact h
      · exact (h2 (.inl h)).elim
    rcases low_tri e with g | g
    · exact (h1 (.inr ⟨q1, g⟩)).elim
    · exact (h2 (.inr ⟨q1.symm, g⟩)).elim
def toM (l : List Nat) : List M14 := l.filterMap fun m => if h : m < 16384 then some ⟨m, h⟩ else none
theorem toM_val : ∀ {l : List Nat}, (∀ m ∈ l, m < 16384) → (toM l).map (·.1) = l
  | [], _ => rfl
  | a :: r, h => by
    have ih := toM_val (l := r) (fun m hm => h m (by simp [hm]))
    unfold toM at ih ⊢
    rw [List.filterMap_cons, dif_pos (h a (by simp)), List.map_cons, ih]
/-- the best sets in their order -/
def sortM (l : List Nat) : List Nat := (insSort cmpM (toM l)).map (·.1)
theorem sortM_len {l : List Nat} (h : ∀ m ∈ l, m < 16384) : (sortM l).length = l.length := by
  unfold sortM; rw [List.length_map, insSort_len, ← List.length_map (f := fun x : M14 => x.1), toM_val h]
theorem sortM_perm {l : List Nat} (h : ∀ m ∈ l, m < 16384) : (sortM l).Perm l := by
  have h1 := (insSort_perm cmpM (toM l)).map (fun x : M14 => x.1)
  have h2 : (toM l).map (fun x : M14 => x.1) = l := toM_val h
  rw [h2] at h1; exact h1
set_option maxRecDepth 100000 in
set_option maxHeartbeats 4000000 in
theorem fCmpM_pc (a b : M14) : PCp 77 [.c (.int .u64 (a.1 : Int)), .c (.int .u64 (b.1 : Int))] [] (.c (.int .i64 (cmpM a b))) [] := by
  by_cases e : a = b
  · subst e
    refine fn_sound (mt := mts) tab_fits tab_mixed Tryz.func77 (by rfl) (by kernel_rfl) (by kernel_rfl) Tryz.results77 (Nat.le_of_ble_eq_true (by kernel_rfl)) ?_
    conv => whnf
    repeat' (first
      | (refine Split.mk (fun h => ?_) (fun h => ?_) <;> (try simp only [decide_eq_true_eq, decide_eq_false_iff_not, Bool.not_eq_true', Bool.not_eq_false', beq_iff_eq, beq_eq_false_iff_ne, bne_iff_ne, bne_eq_false_iff_eq] at h) <;> (first | (exfalso; first | omega | exact h trivial) | (conv => whnf)))
      | (refine CondG.mk (fun h => ?_) (fun h => ?_) <;> (try simp only [decide_eq_true_eq, decide_eq_false_iff_not, Bool.not_eq_true', Bool.not_eq_false', beq_iff_eq, beq_eq_false_iff_ne, bne_iff_ne, bne_eq_false_iff_eq] at h) <;> (first | (exfalso; first | omega | exact h trivial) | (conv => whnf)))
      | (refine Ask.mk (by first | omega | (unfold roomOK; simp [cutRows]; done) | (unfold roomOK; simp [cutRows]; omega) | (simp [cutRows]; done) | (simp [cutRows]; omega)) ?_; conv => whnf)
      | (refine AppG.mk (by first | omega | (unfold roomOK; simp [cutRows]; done) | (unfold roomOK; simp [cutRows]; omega) | (simp [cutRows]; done) | (simp [cutRows]; omega)) ?_; conv => whnf)
      | (refine SliceG.fr ?_; conv => whnf)
      | (refine idx_at _ (by with_reducible rfl) (by first | assumption | omega) ?_; conv => whnf)
      | ((with_reducible refine row_map (by first | assumption | omega) ?_); conv => whnf)
      | ((with_reducible refine row_set (by first | assumption | omega | (simp only [List.length_set]; omega) | (simp; omega)) ?_); conv => whnf)
      | fail)
    all_goals first | exact fini (by unfold cmpM; rw [if_pos rfl]) | contradiction | (rename_i h; simp at h; done)
  · have hne : a.1 ≠ b.1 := fun q => e (Subtype.ext q)
    have hi : ((a.1 : Int) = (b.1 : Int)) ↔ False := ⟨fun h => hne (by omega), False.elim⟩
    refine fn_sound (mt := mts) tab_fits tab_mixed Tryz.func77 (by rfl) (by kernel_rfl) (by kernel_rfl) Tryz.results77 (Nat.le_of_ble_eq_true (by kernel_rfl)) ?_
    conv => whnf
    repeat' (first
      | (refine Split.mk (fun h => ?_) (fun h => ?_) <;> (try simp only [decide_eq_true_eq, decide_eq_false_iff_not, Bool.not_eq_true', Bool.not_eq_false', beq_iff_eq, beq_eq_false_iff_ne, bne_iff_ne, bne_eq_false_iff_eq] at h) <;> (first | (exfalso; first | omega | exact h trivial) | (conv => whnf)))
      | (refine CondG.mk (fun h => ?_) (fun h => ?_) <;> (try simp only [decide_eq_true_eq, decide_eq_false_iff_not, Bool.not_eq_true', Bool.not_eq_false', beq_iff_eq, beq_eq_false_iff_ne, bne_iff_ne, bne_eq_false_iff_eq] at h) <;> (first | (exfalso; first | omega | exact h trivial) | (conv => whnf)))
      | (refine CallX.mk _ _ (by first | exact setBefore_pc a.1 b.1 a.2 b.2 hne) ?_; conv => whnf)
      | (refine CallG.mk _ _ (by first | exact setBefore_pc a.1 b.1 a.2 b.2 hne) ?_; conv => whnf)
      | (refine Ask.mk (by first | omega | (unfold roomOK; simp [cutRows]; done) | (unfold roomOK; simp [cutRows]; omega) | (simp [cutRows]; done) | (simp [cutRows]; omega)) ?_; conv => whnf)
      | (refine AppG.mk (by first | omega | (unfold roomOK; simp [cutRows]; done) | (unfold roomOK; simp [cutRows]; omega) | (simp [cutRows]; done) | (simp [cutRows]; omega)) ?_; conv => whnf)
      | (refine SliceG.fr ?_; conv => whnf)
      | (refine idx_at _ (by with_reducible rfl) (by first | assumption | omega) ?_; conv => whnf)
      | ((with_reducible refine row_map (by first | assumption | omega) ?_); conv => whnf)
      | ((with_reducible refine row_set (by first | assumption | omega | (simp only [List.length_set]; omega) | (simp; omega)) ?_); conv => whnf)
      | fail)
    all_goals first | exact fini (by unfold cmpM befP; rw [if_neg e]; simp_all) | contradiction | (rename_i h; simp at h; omega)
theorem sortU_pc (l : List Nat) (h : ∀ m ∈ l, m < 16384) (hl : l.length ≤ 1000000) :
    PCp 76 [.c (.row 0), .c (.fn 77 [])] [.row 72 1 (l.map encU)] (.tup []) [.row 72 1 ((sortM l).map encU)] := by
  have hs := sort1_pcx layOneUint layOneNUint (encA := fun x : M14 => V.int .u64 (x.1 : Int)) cmpM_swo fCmpM_pc 72 (toM l) (by rw [← List.length_map (f := fun x : M14 => x.1), toM_val h]; omega)
  have hm : ∀ q : List M14, q.map (fun x => [V.int .u64 (x.1 : Int)]) = (q.map (·.1)).map encU := by intro q; rw [List.map_map]; rfl
  rw [hm, toM_val h] at hs
  have ht : PCq 76 [.c (.row 0), .c (.fn 77 [])] [.row 72 1 (l.map encU)] fun r os => r = .tup [] ∧ os = [.row 72 1 ((sortM l).map encU)] := by
    refine ⟨hs.fn, fun F φ w cs a b c => (hs.calls F φ w cs a b c).mono ?_⟩
    rintro e w' ⟨c, F', φ', r, os, ⟨l', hS, h1, h2⟩, rest⟩
    refine ⟨c, F', φ', r, os, ⟨h1, ?_⟩, rest⟩
    have : l' = insSort cmpM (toM l) := sorted_one cmpM_swo (fun _ _ => cmpM_one) (hS.1.trans (insSort_perm cmpM (toM l)).symm) hS.2 (insSort_srt cmpM_swo (toM l))
    rw [h2, this, hm]; rfl
  exact ht
end Go.Proofs.YtameoookmgkmfaaGreat

/- The explanations of the program. -/
namespace Go.Proofs.YtameoookmgkmfaaGreat
set_option linter.unusedVariables false
set_option linter.unusedSimpArgs false
open Abs

def setL (l : List ByteArray) (m : Nat) : Nat → List ByteArray
  | 0 => []
  | k + 1 => if m.testBit k then setL l m k ++ [l.getD k ⟨#[]⟩] else setL l m k
def pickM (l : List ByteArray) (m : Nat) : List ByteArray := setL l m l.length
theorem shbit {m j : Nat} (hm : m < 16384) (hj : j ≤ 14) : (bitsV .and .u64 (shV .shr .u64 (m : Int) (j : Int)) 1 = 1) ↔ m.testBit j = true := by
  have h1 : m / 2 ^ j ≤ m := Nat.div_le_self ..
  have h2 := bits_and (a := m / 2 ^ j) (b := 1) (by omega) (by decide)
  rw [shN m (2 ^ j) j (by rw [Int.toNat_natCast, Nat.min_eq_left (by show j ≤ 64; omega)]; simp)]
  refine ((by rw [← h2]; rfl : (bitsV .and .u64 ((m / 2 ^ j : Nat) : Int) 1 = 1) ↔ ((((m / 2 ^ j) &&& 1 : Nat) : Int) = 1))).trans ?_
  rw [Nat.and_one_is_mod, Nat.testBit_eq_decide_div_mod_eq, decide_eq_true_eq]
  omega
theorem setL_len (l : List ByteArray) (m : Nat) : ∀ k, (setL l m k).length ≤ k
  | 0 => by simp [setL]
  | k + 1 => by
    have := setL_len l m k
    rw [setL]; split
    · simp; omega
    · omega
abbrev encLs (x : List ByteArray) : List V := [.lst 1 (x.map encS)]
def bestL (s : List Sv) (l down : List ByteArray) : List Nat := bestK (needL s l down) (2 ^ l.length)
def explE (s : List Sv) (l down : List ByteArray) : Int := if 14 < l.length then 12 else if 1000 < (bestL s l down).length then 2 else 0
def explV (s : List Sv) (l down : List ByteArray) : List (List ByteArray) := if explE s l down = 0 then (sortM (bestL s l down)).map (pickM l) else []
/-- a row that is frozen from the second round on -/
def ndO (k : Nat) (rows : List (List V)) : Ob := match k with | 0 => .row 72 1 rows | _ + 1 => .frow 1 rows
theorem ndO_pos {k : Nat} (h : k ≠ 0) (rows : List (List V)) : ndO k rows = .frow 1 rows := by cases k with | zero => exact (h rfl).elim | succ k => rfl
set_option maxRecDepth 100000 in
set_option maxHeartbeats 4000000 in
theorem fExp1_pc (m : Nat) (hm : m < 16384) (n : Nat) (hn : n < 16384) : PCp 74 [.c (.int .u64 (n : Int)), .c (.ptr 0 0)] [.box [.int .u64 (m : Int)]] (.c (.bool (decide (n &&& m = 0)))) [.box [.int .u64 (m : Int)]] := by
  refine fn_sound (mt := mts) tab_fits tab_mixed Tryz.func74 (by rfl) (by kernel_rfl) (by kernel_rfl) Tryz.results74 (Nat.le_of_ble_eq_true (by kernel_rfl)) ?_
  conv => whnf
  rw [bits_and (by omega) (by omega)]
  repeat' (first
    | (refine Split.mk (fun h => ?_) (fun h => ?_) <;> (try simp only [decide_eq_true_eq, decide_eq_false_iff_not, Bool.not_eq_true', Bool.not_eq_false', beq_iff_eq, beq_eq_false_iff_ne, bne_iff_ne, bne_eq_false_iff_eq] at h) <;> (first | (exfalso; first | omega | exact h trivial) | (conv => whnf)))
    | (refine CondG.mk (fun h => ?_) (fun h => ?_) <;> (try simp only [decide_eq_true_eq, decide_eq_false_iff_not, Bool.not_eq_true', Bool.not_eq_false', beq_iff_eq, beq_eq_false_iff_ne, bne_iff_ne, bne_eq_false_iff_eq] at h) <;> (first | (exfalso; first | omega | exact h trivial) | (conv => whnf)))
    | (refine Ask.mk (by first | omega | (unfold roomOK; simp [cutRows]; done) | (unfold roomOK; simp [cutRows]; omega) | (simp [cutRows]; done) | (simp [cutRows]; omega)) ?_; conv => whnf)
    | (refine AppG.mk (by first | omega | (unfold roomOK; simp [cutRows]; done) | (unfold roomOK; simp [cutRows]; omega) | (simp [cutRows]; done) | (simp [cutRows]; omega)) ?_; conv => whnf)
    | (refine SliceG.fr ?_; conv => whnf)
    | (refine idx_at _ (by with_reducible rfl) (by first | assumption | omega) ?_; conv => whnf)
    | ((with_reducible refine row_map (by first | assumption | omega) ?_); conv => whnf)
    | ((with_reducible refine row_set (by first | assumption | omega | (simp only [List.length_set]; omega) | (simp; omega)) ?_); conv => whnf)
    | fail)
  have h1 : (((n &&& m : Nat) : Int) == 0) = decide (n &&& m = 0) := by
    rw [Bool.eq_iff_iff, beq_iff_eq, decide_eq_true_eq]; omega
  rw [h1]
  exact .mk ⟨rfl, rfl⟩
set_option maxRecDepth 100000 in
set_option maxHeartbeats 4000000 in
theorem ixUm_pc (m : Nat) (g : Nat) (p : Nat → Bool) (l : List Nat) (hl : l.length ≤ 1000000) (hg : ∀ x ∈ l, PCp g [.c (.int .u64 (x : Nat)), .c (.ptr 0 0)] [.box [.int .u64 (m : Int)]] (.c (.bool (p x))) [.box [.int .u64 (m : Int)]]) : PCp 99 [.c (.lst 1 (l.map encU)), .c (.fn g [.ptr 0 0])] [.box [.int .u64 (m : Int)]] (.c (.int .i64 (idxP p l))) [.box [.int .u64 (m : Int)]] := by
  have hlm : (l.map encU).length = l.length := List.length_map ..
  refine fn_sound (mt := mts) tab_fits tab_mixed Tryz.func99 (by rfl) (by kernel_rfl) (by kernel_rfl) Tryz.results99 (Nat.le_of_ble_eq_true (by kernel_rfl)) ?_
  conv => whnf
  refine loop_count (l.length) [] [0, 1, 7, 8] (fun k (_ : Unit) => ⟨[(0, .c (.lst 1 (l.map encU))), (1, .c (.fn g [.ptr 0 0])), (7, .c (.int .i64 (l.map encU).length)), (8, .c (.int .i64 k))], [(0, .box [.int .u64 (m : Int)])], 1⟩) (fun k (_ : Unit) => ∀ i (hi : i < l.length), i < k → p l[i] = false) (()) ?_ ?_ ?_
  · conv => whnf
    exact ⟨rfl, by intro i hi h; omega⟩
  · intro k _ hk hi
    conv => whnf
    repeat' (first
      | (refine Split.mk (fun h => ?_) (fun h => ?_) <;> (try simp only [decide_eq_true_eq, decide_eq_false_iff_not, Bool.not_eq_true', Bool.not_eq_false', beq_iff_eq, beq_eq_false_iff_ne, bne_iff_ne, bne_eq_false_iff_eq] at h) <;> (first | (exfalso; first | omega | exact h trivial) | (conv => whnf)))
      | (refine CondG.mk (fun h => ?_) (fun h => ?_) <;> (try simp only [decide_eq_true_eq, decide_eq_false_iff_not, Bool.not_eq_true', Bool.not_eq_false', beq_iff_eq, beq_eq_false_iff_ne, bne_iff_ne, bne_eq_false_iff_eq] at h) <;> (first | (exfalso; first | omega | exact h trivial) | (conv => whnf)))
      | (refine CallX.mk _ _ (by first | exact hg l[k] (List.getElem_mem hk)) ?_; conv => whnf)
      | (refine CallG.mk _ _ (by first | exact hg l[k] (List.getElem_mem hk)) ?_; conv => whnf)
      | (refine Ask.mk (by first | omega | (unfold roomOK; simp [cutRows]; done) | (unfold roomOK; simp [cutRows]; omega) | (simp [cutRows]; done) | (simp [cutRows]; omega)) ?_; conv => whnf)
      | (refine AppG.mk (by first | omega | (unfold roomOK; simp [cutRows]; done) | (unfold roomOK; simp [cutRows]; omega) | (simp [cutRows]; done) | (simp [cutRows]; omega)) ?_; conv => whnf)
      | (refine SliceG.fr ?_; conv => whnf)
      | (refine idx_at _ (by with_reducible rfl) (by first | assumption | omega) ?_; conv => whnf)
      | ((with_reducible refine row_map (by first | assumption | omega) ?_); conv => whnf)
      | ((with_reducible refine row_set (by first | assumption | omega | (simp only [List.length_set]; omega) | (simp; omega)) ?_); conv => whnf)
      | fail)
    · exact .mk ⟨by rw [idxP_hit hk (fun i hi' => hi i (by omega) hi') h]; rfl, rfl⟩
    · refine count_next () hk (by rw [wrap_succ hk (by omega)]; rfl) ?_
      exact all_succ' hi h
  · intro _ hi
    conv => whnf
    repeat' (first
      | (refine Split.mk (fun h => ?_) (fun h => ?_) <;> (try simp only [decide_eq_true_eq, decide_eq_false_iff_not, Bool.not_eq_true', Bool.not_eq_false', beq_iff_eq, beq_eq_false_iff_ne] at h) <;> (first | (exfalso; first | omega | exact h trivial) | (conv => whnf)))
      | (refine CondG.mk (fun h => ?_) (fun h => ?_) <;> (try simp only [decide_eq_true_eq, decide_eq_false_iff_not, Bool.not_eq_true', Bool.not_eq_false', beq_iff_eq, beq_eq_false_iff_ne] at h) <;> (first | (exfalso; first | omega | exact h trivial) | (conv => whnf)))
      | (refine Ask.mk (by first | omega | (unfold roomOK; simp [cutRows]; done) | (unfold roomOK; simp [cutRows]; omega)) ?_; conv => whnf)
      | (refine AppG.mk (by first | omega | (unfold roomOK; simp [cutRows]; done) | (unfold roomOK; simp [cutRows]; omega)) ?_; conv => whnf)
      | (refine SliceG.fr ?_; conv => whnf)
      | fail)
    exact .mk ⟨by rw [idxP_miss (fun i h => hi i h h)]; rfl, rfl⟩
set_option maxRecDepth 100000 in
set_option maxHeartbeats 4000000 in
theorem ixUmC_pc (m : Nat) (g : Nat) (p : Nat → Bool) (l : List Nat) (hl : l.length ≤ 1000000) (hg : ∀ x ∈ l, PCp g [.c (.int .u64 (x : Nat)), .c (.ptr 0 0)] [.box [.int .u64 (m : Int)]] (.c (.bool (p x))) [.box [.int .u64 (m : Int)]]) : PCp 73 [.c (.lst 1 (l.map encU)), .c (.fn g [.ptr 0 0])] [.box [.int .u64 (m : Int)]] (.c (.bool (l.any p))) [.box [.int .u64 (m : Int)]] := by
  refine fn_sound (mt := mts) tab_fits tab_mixed Tryz.func73 (by rfl) (by kernel_rfl) (by kernel_rfl) Tryz.results73 (Nat.le_of_ble_eq_true (by kernel_rfl)) ?_
  conv => whnf
  repeat' (first
    | (refine Split.mk (fun h => ?_) (fun h => ?_) <;> (try simp only [decide_eq_true_eq, decide_eq_false_iff_not, Bool.not_eq_true', Bool.not_eq_false', beq_iff_eq, beq_eq_false_iff_ne] at h) <;> (first | (exfalso; first | omega | exact h trivial) | (conv => whnf)))
    | (refine CondG.mk (fun h => ?_) (fun h => ?_) <;> (try simp only [decide_eq_true_eq, decide_eq_false_iff_not, Bool.not_eq_true', Bool.not_eq_false', beq_iff_eq, beq_eq_false_iff_ne] at h) <;> (first | (exfalso; first | omega | exact h trivial) | (conv => whnf)))
    | (refine CallX.mk _ _ (by first | exact ixUm_pc m g p l hl hg) ?_; conv => whnf)
    | (refine CallG.mk _ _ (by first | exact ixUm_pc m g p l hl hg) ?_; conv => whnf)
    | (refine Ask.mk (by first | omega | (unfold roomOK; simp [cutRows]; done) | (unfold roomOK; simp [cutRows]; omega)) ?_; conv => whnf)
    | (refine AppG.mk (by first | omega | (unfold roomOK; simp [cutRows]; done) | (unfold roomOK; simp [cutRows]; omega)) ?_; conv => whnf)
    | (refine SliceG.fr ?_; conv => whnf)
    | fail)
  exact .mk ⟨by rw [← idxP_any]; rfl, rfl⟩
set_option maxRecDepth 100000 in
set_option maxHeartbeats 4000000 in
theorem fExplain_pc (s : List Sv) (hs : SvOk s) (down up : List ByteArray) (hd : StOkL s down) (hu : StOkL s up) :
    PCp 35 [.c (.lst 3 (s.map encSv)), .c (.lst 1 (down.map encS)), .c (.lst 1 (up.map encS))] [] (.tup [.c (.lst 1 ((explV s (susV s down up) down).map encLs)), .c (.int .i64 (explE s (susV s down up) down))]) [] := by
  have hsl := hs.len
  have hdl := hd.len
  have hdm : (down.map encS).length = down.length := List.length_map ..
  have hat : ∀ k, hasSv s k = true → ∃ i, ∃ hi : i < s.length, svIx s k = ((i : Nat) : Int) ∧ s[i] = svG s k ∧ s[i].els.length ≤ 100 ∧ Rise id s[i].els := by
    intro k hk
    rcases svIx_or hs.rise k with ⟨h1, _⟩ | ⟨_, i, hi, h2, h3⟩
    · rw [h1] at hk; cases hk
    · have := hs.each _ (List.getElem_mem hi)
      exact ⟨i, hi, h2, h3, this.len, this.rise⟩
  have hsus := fSuspects_pc s hs down up hd hu
  generalize hl : susV s down up = l at hsus
  have hlm : (l.map encS).length = l.length := List.length_map ..
  refine fn_sound (mt := mts) tab_fits tab_mixed Tryz.func35 (by rfl) (by kernel_rfl) (by kernel_rfl) Tryz.results35 (Nat.le_of_ble_eq_true (by kernel_rfl)) ?_
  conv => whnf
  repeat' (first
    | (refine Split.mk (fun h => ?_) (fun h => ?_) <;> (try simp only [decide_eq_true_eq, decide_eq_false_iff_not, Bool.not_eq_true', Bool.not_eq_false', beq_iff_eq, beq_eq_false_iff_ne, bne_iff_ne, bne_eq_false_iff_eq] at h) <;> (first | (exfalso; first | omega | exact h trivial) | (conv => whnf)))
    | (refine CondG.mk (fun h => ?_) (fun h => ?_) <;> (try simp only [decide_eq_true_eq, decide_eq_false_iff_not, Bool.not_eq_true', Bool.not_eq_false', beq_iff_eq, beq_eq_false_iff_ne, bne_iff_ne, bne_eq_false_iff_eq] at h) <;> (first | (exfalso; first | omega | exact h trivial) | (conv => whnf)))
    | (refine CallX.mk _ _ (by first | exact hsus) ?_; conv => whnf)
    | (refine CallG.mk _ _ (by first | exact hsus) ?_; conv => whnf)
    | (refine Ask.mk (by first | omega | (unfold roomOK; simp [cutRows]; done) | (unfold roomOK; simp [cutRows]; omega) | (simp [cutRows]; done) | (simp [cutRows]; omega)) ?_; conv => whnf)
    | (refine AppG.mk (by first | omega | (unfold roomOK; simp [cutRows]; done) | (unfold roomOK; simp [cutRows]; omega) | (simp [cutRows]; done) | (simp [cutRows]; omega)) ?_; conv => whnf)
    | (refine SliceG.fr ?_; conv => whnf)
    | (refine idx_at _ (by with_reducible rfl) (by first | assumption | omega) ?_; conv => whnf)
    | ((with_reducible refine row_map (by first | assumption | omega) ?_); conv => whnf)
    | ((with_reducible refine row_set (by first | assumption | omega | (simp only [List.length_set]; omega) | (simp; omega)) ?_); conv => whnf)
    | fail)
  · have h14 : 14 < l.length := by omega
    have he : explE s l down = 12 := by unfold explE; rw [if_pos h14]
    have hv : explV s l down = [] := by unfold explV; rw [he, if_neg (by decide)]
    rw [he, hv]
    refine .weak [] (.tup _ _ rfl ?_) rfl (Nat.le_refl _)
    intro i a b ha hb
    match i with
    | 0 => cases ha; cases hb; exact .nil 1
    | 1 => cases ha; cases hb; exact .refl _
  have h14 : l.length ≤ 14 := by omega
  refine loop_for (down.length) [.sl 9 72 1] [0, 8, 9, 30, 31, 32] (fun k (_ : Unit) => [(32, .c (.int .i64 (k : Int)))]) (fun k (_ : Unit) => [(0, .row 72 1 ((needL s l (down.take k)).map encU))]) (fun k (_ : Unit) => True) (()) ?_
  conv => whnf
  refine ⟨(by first | rfl | (simp; done) | (simp; rfl)), (by trivial), ?_, ?_⟩
  · intro k _ hk _
    obtain ⟨i, hi, h2, h3, h4, h5⟩ := hat _ (hd.has _ (List.getElem_mem hk))
    have hN := needL_len s l (down.take k)
    have htl : (down.take k).length = k := by rw [List.length_take]; omega
    have hNm : ((needL s l (down.take k)).map encU).length = (needL s l (down.take k)).length := List.length_map ..
    conv => whnf
    repeat' (first
      | (refine Split.mk (fun h => ?_) (fun h => ?_) <;> (try simp only [decide_eq_true_eq, decide_eq_false_iff_not, Bool.not_eq_true', Bool.not_eq_false', beq_iff_eq, beq_eq_false_iff_ne, bne_iff_ne, bne_eq_false_iff_eq] at h) <;> (first | (exfalso; first | omega | exact h trivial) | (conv => whnf)))
      | (refine CondG.mk (fun h => ?_) (fun h => ?_) <;> (try simp only [decide_eq_true_eq, decide_eq_false_iff_not, Bool.not_eq_true', Bool.not_eq_false', beq_iff_eq, beq_eq_false_iff_ne, bne_iff_ne, bne_eq_false_iff_eq] at h) <;> (first | (exfalso; first | omega | exact h trivial) | (conv => whnf)))
      | (refine Ask.mk (by first | omega | (unfold roomOK; simp [cutRows]; done) | (unfold roomOK; simp [cutRows]; omega) | (simp [cutRows]; done) | (simp [cutRows]; omega)) ?_; conv => whnf)
      | (refine AppG.mk (by first | omega | (unfold roomOK; simp [cutRows]; done) | (unfold roomOK; simp [cutRows]; omega) | (simp [cutRows]; done) | (simp [cutRows]; omega)) ?_; conv => whnf)
      | (refine SliceG.fr ?_; conv => whnf)
      | (refine idx_at _ (by with_reducible rfl) (by first | assumption | omega) ?_; conv => whnf)
      | ((with_reducible refine row_map (by first | assumption | omega) ?_); conv => whnf)
      | ((with_reducible refine row_set (by first | assumption | omega | (simp only [List.length_set]; omega) | (simp; omega)) ?_); conv => whnf)
      | fail)
    refine loop_for (l.length) [] [0, 8, 9, 11, 12, 30, 31, 32, 36, 37, 38] (fun j (_ : Unit) => [(12, .c (.int .u64 ((bitN (fun x => decide (x ∈ (svG s down[k]).els)) l j : Nat) : Int))), (38, .c (.int .i64 (j : Int)))]) (fun j (_ : Unit) => []) (fun j (_ : Unit) => True) (()) ?_
    conv => whnf
    refine ⟨(by first | rfl | (simp; done) | (simp; rfl)), (by trivial), ?_, ?_⟩
    · intro j _ hj _
      have b1 := bitN_lt (fun x => decide (x ∈ (svG s down[k]).els)) l j
      have b2 := pow14 (k := j) (by omega)
      have e1 : bitN (fun x => decide (x ∈ (svG s down[k]).els)) l (j + 1) = if l[j] ∈ s[i].els then bitN (fun x => decide (x ∈ (svG s down[k]).els)) l j ||| 2 ^ j else bitN (fun x => decide (x ∈ (svG s down[k]).els)) l j := by
        rw [bitN, List.getD_eq_getElem?_getD, List.getElem?_eq_getElem hj, ← h3]; simp
      conv => whnf
      repeat' (first
        | (refine Split.mk (fun h => ?_) (fun h => ?_) <;> (try simp only [decide_eq_true_eq, decide_eq_false_iff_not, Bool.not_eq_true', Bool.not_eq_false', beq_iff_eq, beq_eq_false_iff_ne, bne_iff_ne, bne_eq_false_iff_eq] at h) <;> (first | (exfalso; first | omega | exact h trivial) | (conv => whnf)))
        | (refine CondG.mk (fun h => ?_) (fun h => ?_) <;> (try simp only [decide_eq_true_eq, decide_eq_false_iff_not, Bool.not_eq_true', Bool.not_eq_false', beq_iff_eq, beq_eq_false_iff_ne, bne_iff_ne, bne_eq_false_iff_eq] at h) <;> (first | (exfalso; first | omega | exact h trivial) | (conv => whnf)))
        | (refine CallX.mk _ _ (by first | exact fFind_pc s hs.rise (by omega) _ | exact fHas_pc h5 (by omega) _) ?_; conv => whnf)
        | (refine CallG.mk _ _ (by first | exact fFind_pc s hs.rise (by omega) _ | exact fHas_pc h5 (by omega) _) ?_; conv => whnf)
        | (refine Ask.mk (by first | omega | (unfold roomOK; simp [cutRows]; done) | (unfold roomOK; simp [cutRows]; omega) | (simp [cutRows]; done) | (simp [cutRows]; omega)) ?_; conv => whnf)
        | (refine AppG.mk (by first | omega | (unfold roomOK; simp [cutRows]; done) | (unfold roomOK; simp [cutRows]; omega) | (simp [cutRows]; done) | (simp [cutRows]; omega)) ?_; conv => whnf)
        | (refine SliceG.fr ?_; conv => whnf)
        | (refine idx_at _ (by with_reducible rfl) (by first | assumption | omega) ?_; conv => whnf)
        | ((with_reducible refine row_map (by first | assumption | omega) ?_); conv => whnf)
        | ((with_reducible refine row_set (by first | assumption | omega | (simp only [List.length_set]; omega) | (simp; omega)) ?_); conv => whnf)
        | ((rw [h2]; refine idx_map i hi rfl ?_); conv => whnf)
        | fail)
      all_goals rename_i h
      · exact count_next () hj (by rw [wrap_succ hj (by omega), shl1 (by omega), bits_or (by omega) (by omega), e1, if_pos h]; rfl) trivial
      · exact count_next () hj (by rw [wrap_succ hj (by omega), e1, if_neg h]; rfl) trivial
    · intro _ _
      have hT := needL_succ s l down hk
      have hO : bitN (fun x => decide (x ∈ (svG s down[k]).els)) l l.length = needO s l down[k] := rfl
      rw [hO]
      conv => whnf
      repeat' (first
        | (refine Split.mk (fun h => ?_) (fun h => ?_) <;> (try simp only [decide_eq_true_eq, decide_eq_false_iff_not, Bool.not_eq_true', Bool.not_eq_false', beq_iff_eq, beq_eq_false_iff_ne, bne_iff_ne, bne_eq_false_iff_eq] at h) <;> (first | (exfalso; first | omega | exact h trivial) | (conv => whnf)))
        | (refine CondG.mk (fun h => ?_) (fun h => ?_) <;> (try simp only [decide_eq_true_eq, decide_eq_false_iff_not, Bool.not_eq_true', Bool.not_eq_false', beq_iff_eq, beq_eq_false_iff_ne, bne_iff_ne, bne_eq_false_iff_eq] at h) <;> (first | (exfalso; first | omega | exact h trivial) | (conv => whnf)))
        | (refine Ask.mk (by first | omega | (unfold roomOK; simp [cutRows]; done) | (unfold roomOK; simp [cutRows]; omega) | (simp [cutRows]; done) | (simp [cutRows]; omega)) ?_; conv => whnf)
        | (refine AppG.mk (by first | omega | (unfold roomOK; simp [cutRows]; done) | (unfold roomOK; simp [cutRows]; omega) | (simp [cutRows]; done) | (simp [cutRows]; omega)) ?_; conv => whnf)
        | (refine SliceG.fr ?_; conv => whnf)
        | (refine idx_at _ (by with_reducible rfl) (by first | assumption | omega) ?_; conv => whnf)
        | ((with_reducible refine row_map (by first | assumption | omega) ?_); conv => whnf)
        | ((with_reducible refine row_set (by first | assumption | omega | (simp only [List.length_set]; omega) | (simp; omega)) ?_); conv => whnf)
        | fail)
      all_goals rename_i h
      · exact count_next () hk (by rw [wrap_succ hk (by omega), hT, if_pos (by omega), List.map_append]; rfl) trivial
      · exact count_next () hk (by rw [wrap_succ hk (by omega), hT, if_neg (by omega), List.append_nil]; rfl) trivial
  · intro _ _
    rw [List.take_length]
    have hnl := needL_lt (s := s) (down := down) h14
    have hnn := needL_len s l down
    have hV : bestL s l down = bestK (needL s l down) (2 ^ l.length) := rfl
    generalize needL s l down = ns at hnl hnn hV
    have hp := pow14 h14
    have hnm : (ns.map encU).length = ns.length := List.length_map ..
    conv => whnf
    repeat' (first
      | (refine Split.mk (fun h => ?_) (fun h => ?_) <;> (try simp only [decide_eq_true_eq, decide_eq_false_iff_not, Bool.not_eq_true', Bool.not_eq_false', beq_iff_eq, beq_eq_false_iff_ne, bne_iff_ne, bne_eq_false_iff_eq] at h) <;> (first | (exfalso; first | omega | exact h trivial) | (conv => whnf)))
      | (refine CondG.mk (fun h => ?_) (fun h => ?_) <;> (try simp only [decide_eq_true_eq, decide_eq_false_iff_not, Bool.not_eq_true', Bool.not_eq_false', beq_iff_eq, beq_eq_false_iff_ne, bne_iff_ne, bne_eq_false_iff_eq] at h) <;> (first | (exfalso; first | omega | exact h trivial) | (conv => whnf)))
      | (refine Ask.mk (by first | omega | (unfold roomOK; simp [cutRows]; done) | (unfold roomOK; simp [cutRows]; omega) | (simp [cutRows]; done) | (simp [cutRows]; omega)) ?_; conv => whnf)
      | (refine AppG.mk (by first | omega | (unfold roomOK; simp [cutRows]; done) | (unfold roomOK; simp [cutRows]; omega) | (simp [cutRows]; done) | (simp [cutRows]; omega)) ?_; conv => whnf)
      | (refine SliceG.fr ?_; conv => whnf)
      | (refine idx_at _ (by with_reducible rfl) (by first | assumption | omega) ?_; conv => whnf)
      | ((with_reducible refine row_map (by first | assumption | omega) ?_); conv => whnf)
      | ((with_reducible refine row_set (by first | assumption | omega | (simp only [List.length_set]; omega) | (simp; omega)) ?_); conv => whnf)
      | fail)
    rw [hlm, shl1 h14]
    refine loop_count (2 ^ l.length) [.sl 15 72 1] [8, 9, 15, 66, 67] (fun k (_ : Unit) => ⟨[(8, .c (.lst 1 (l.map encS))), (9, .c (.row 0)), (15, .c (.row 1)), (66, .c (.int .u64 ((2 ^ l.length : Nat) : Int))), (67, .c (.int .u64 ((k : Nat) : Int)))], [(0, ndO k (ns.map encU)), (1, .row 72 1 ((bestK ns k).map encU))], 2⟩) (fun k (_ : Unit) => True) (()) ?_ ?_ ?_
    · conv => whnf
      exact ⟨rfl, trivial⟩
    · intro k _ hk _
      obtain ⟨c1, c2⟩ := bestK_lt ns k
      have hbs : bestK ns (k + 1) = if goodM ns k then withB (beforeB (bestK ns k) k) k else bestK ns k := rfl
      have hg : goodM ns k = !(ns.any fun n => decide (n &&& k = 0)) := rfl
      have hbm : ((bestK ns k).map encU).length = (bestK ns k).length := List.length_map ..
      have hw : IntKind.u64.wrap ((k : Int) + 1) = ((k + 1 : Nat) : Int) := u64N (n := k + 1) (by omega)
      rcases Nat.eq_zero_or_pos k with hk0 | hk0
      · have hb : bestK ns k = [] := by rw [hk0]; rfl
        have hn0 : ndO k (ns.map encU) = .row 72 1 (ns.map encU) := by rw [hk0]; rfl
        rw [hb] at hbs hbm
        rw [hn0, hb]
        conv => whnf
        repeat' (first
          | (refine Split.mk (fun h => ?_) (fun h => ?_) <;> (try simp only [decide_eq_true_eq, decide_eq_false_iff_not, Bool.not_eq_true', Bool.not_eq_false', beq_iff_eq, beq_eq_false_iff_ne, bne_iff_ne, bne_eq_false_iff_eq] at h) <;> (first | (exfalso; first | omega | exact h trivial) | (conv => whnf)))
          | (refine CondG.mk (fun h => ?_) (fun h => ?_) <;> (try simp only [decide_eq_true_eq, decide_eq_false_iff_not, Bool.not_eq_true', Bool.not_eq_false', beq_iff_eq, beq_eq_false_iff_ne, bne_iff_ne, bne_eq_false_iff_eq] at h) <;> (first | (exfalso; first | omega | exact h trivial) | (conv => whnf)))
          | (refine CallX.mk _ _ (by first | exact ixUmC_pc k 74 (fun n => decide (n &&& k = 0)) ns (by omega) (fun n hn => fExp1_pc k (by omega) n (hnl n hn)) | exact fsize_pc k (by omega)) ?_; conv => whnf)
          | (refine CallG.mk _ _ (by first | exact ixUmC_pc k 74 (fun n => decide (n &&& k = 0)) ns (by omega) (fun n hn => fExp1_pc k (by omega) n (hnl n hn)) | exact fsize_pc k (by omega)) ?_; conv => whnf)
          | (refine Ask.mk (by first | omega | (unfold roomOK; simp [cutRows]; done) | (unfold roomOK; simp [cutRows]; omega) | (simp [cutRows]; done) | (simp [cutRows]; omega)) ?_; conv => whnf)
          | (refine AppG.mk (by first | omega | (unfold roomOK; simp [cutRows]; done) | (unfold roomOK; simp [cutRows]; omega) | (simp [cutRows]; done) | (simp [cutRows]; omega)) ?_; conv => whnf)
          | (refine SliceG.fr ?_; conv => whnf)
          | (refine idx_at _ (by with_reducible rfl) (by first | assumption | omega) ?_; conv => whnf)
          | ((with_reducible refine row_map (by first | assumption | omega) ?_); conv => whnf)
          | ((with_reducible refine row_set (by first | assumption | omega | (simp only [List.length_set]; omega) | (simp; omega)) ?_); conv => whnf)
          | fail)
        all_goals first | (exfalso; rename_i h; simp at h; done) | skip
        · exact count_next () hk (by rw [hw, hbs, hg, if_neg (by simp_all)]; rfl) trivial
        · exact count_next () hk (by rw [hw, hbs, hg, if_pos (by simp_all)]; rfl) trivial
      rw [ndO_pos (by omega)]
      rcases hb : bestK ns k with _ | ⟨x, r⟩
      · rw [hb] at hbs hbm
        conv => whnf
        repeat' (first
          | (refine Split.mk (fun h => ?_) (fun h => ?_) <;> (try simp only [decide_eq_true_eq, decide_eq_false_iff_not, Bool.not_eq_true', Bool.not_eq_false', beq_iff_eq, beq_eq_false_iff_ne, bne_iff_ne, bne_eq_false_iff_eq] at h) <;> (first | (exfalso; first | omega | exact h trivial) | (conv => whnf)))
          | (refine CondG.mk (fun h => ?_) (fun h => ?_) <;> (try simp only [decide_eq_true_eq, decide_eq_false_iff_not, Bool.not_eq_true', Bool.not_eq_false', beq_iff_eq, beq_eq_false_iff_ne, bne_iff_ne, bne_eq_false_iff_eq] at h) <;> (first | (exfalso; first | omega | exact h trivial) | (conv => whnf)))
          | (refine CallX.mk _ _ (by first | exact ixUmC_pc k 74 (fun n => decide (n &&& k = 0)) ns (by omega) (fun n hn => fExp1_pc k (by omega) n (hnl n hn)) | exact fsize_pc k (by omega)) ?_; conv => whnf)
          | (refine CallG.mk _ _ (by first | exact ixUmC_pc k 74 (fun n => decide (n &&& k = 0)) ns (by omega) (fun n hn => fExp1_pc k (by omega) n (hnl n hn)) | exact fsize_pc k (by omega)) ?_; conv => whnf)
          | (refine Ask.mk (by first | omega | (unfold roomOK; simp [cutRows]; done) | (unfold roomOK; simp [cutRows]; omega) | (simp [cutRows]; done) | (simp [cutRows]; omega)) ?_; conv => whnf)
          | (refine AppG.mk (by first | omega | (unfold roomOK; simp [cutRows]; done) | (unfold roomOK; simp [cutRows]; omega) | (simp [cutRows]; done) | (simp [cutRows]; omega)) ?_; conv => whnf)
          | (refine SliceG.fr ?_; conv => whnf)
          | (refine idx_at _ (by with_reducible rfl) (by first | assumption | omega) ?_; conv => whnf)
          | ((with_reducible refine row_map (by first | assumption | omega) ?_); conv => whnf)
          | ((with_reducible refine row_set (by first | assumption | omega | (simp only [List.length_set]; omega) | (simp; omega)) ?_); conv => whnf)
          | fail)
        all_goals first | (exfalso; rename_i h; simp at h; done) | skip
        · exact count_next () hk (by rw [hw, hbs, hg, if_neg (by simp_all)]; rfl) trivial
        · exact count_next () hk (by rw [hw, hbs, hg, if_pos (by simp_all)]; rfl) trivial
      · rw [hb] at hbs hbm c1 c2
        have hx := c1 x (by simp)
        have hr : r.length + 1 ≤ 16384 := by simp only [List.length_cons] at c2; omega
        have hX : goodM ns k = true → bestK ns (k + 1) = if popc k < popc x then [k] else if popc k = popc x then (x :: r) ++ [k] else x :: r := by
          intro hgd
          rw [hbs, if_pos hgd]
          unfold beforeB
          by_cases q : popc k < popc x <;> simp [q, withB]
        have hbm2 : ((x :: r).map encU).length = r.length + 1 := by simp
        conv => whnf
        repeat' (first
          | (refine Split.mk (fun h => ?_) (fun h => ?_) <;> (try simp only [decide_eq_true_eq, decide_eq_false_iff_not, Bool.not_eq_true', Bool.not_eq_false', beq_iff_eq, beq_eq_false_iff_ne, bne_iff_ne, bne_eq_false_iff_eq] at h) <;> (first | (exfalso; first | omega | exact h trivial) | (conv => whnf)))
          | (refine CondG.mk (fun h => ?_) (fun h => ?_) <;> (try simp only [decide_eq_true_eq, decide_eq_false_iff_not, Bool.not_eq_true', Bool.not_eq_false', beq_iff_eq, beq_eq_false_iff_ne, bne_iff_ne, bne_eq_false_iff_eq] at h) <;> (first | (exfalso; first | omega | exact h trivial) | (conv => whnf)))
          | (refine CallX.mk _ _ (by first | exact ixUmC_pc k 74 (fun n => decide (n &&& k = 0)) ns (by omega) (fun n hn => fExp1_pc k (by omega) n (hnl n hn)) | exact fsize_pc k (by omega) | exact fsize_pc x (by omega)) ?_; conv => whnf)
          | (refine CallG.mk _ _ (by first | exact ixUmC_pc k 74 (fun n => decide (n &&& k = 0)) ns (by omega) (fun n hn => fExp1_pc k (by omega) n (hnl n hn)) | exact fsize_pc k (by omega) | exact fsize_pc x (by omega)) ?_; conv => whnf)
          | (refine Ask.mk (by first | omega | (unfold roomOK; simp [cutRows]; done) | (unfold roomOK; simp [cutRows]; omega) | (simp [cutRows]; done) | (simp [cutRows]; omega)) ?_; conv => whnf)
          | (refine AppG.mk (by first | omega | (unfold roomOK; simp [cutRows]; done) | (unfold roomOK; simp [cutRows]; omega) | (simp [cutRows]; done) | (simp [cutRows]; omega)) ?_; conv => whnf)
          | (refine SliceG.fr ?_; conv => whnf)
          | (refine idx_at _ (by with_reducible rfl) (by first | assumption | omega) ?_; conv => whnf)
          | ((with_reducible refine row_map (by first | assumption | omega) ?_); conv => whnf)
          | ((with_reducible refine row_set (by first | assumption | omega | (simp only [List.length_set]; omega) | (simp; omega)) ?_); conv => whnf)
          | ((refine row_at 0 rfl (by simp) ?_); conv => whnf)
          | ((refine .mk (room_small (Nat.le_trans (Nat.add_le_add (show _ ≤ 16384 by rw [hbm2]; exact hr) (show _ ≤ 1 from Nat.le_refl _)) (by decide)) (by decide)) ?_); conv => whnf)
          | fail)
        · have ha : (ns.any fun n => decide (n &&& k = 0)) = true := by assumption
          have hgd : ¬ goodM ns k = true := by rw [hg, ha]; decide
          exact count_next () hk (by rw [hw, hbs, if_neg hgd]; rfl) trivial
        all_goals
          have ha : (ns.any fun n => decide (n &&& k = 0)) = false := by assumption
          have hgd : goodM ns k = true := by rw [hg, ha]; rfl
          have hX := hX hgd
        · have q : popc k < popc x := by omega
          rw [if_pos q] at hX
          exact count_next () hk (by rw [hw, hX]; rfl) trivial
        · have q : popc k = popc x := by omega
          rw [if_neg (by omega), if_pos q] at hX
          exact count_next () hk (by rw [hw, hX, List.map_append]; rfl) trivial
        · have q : popc k ≠ popc x := by omega
          rw [if_neg (by omega), if_neg q] at hX
          exact count_next () hk (by rw [hw, hX]; rfl) trivial
    · intro _ _
      rw [ndO_pos (by have := Nat.two_pow_pos l.length; omega), ← hV]
      have hbl : ∀ m ∈ bestL s l down, m < 16384 := by
        intro m hm
        have := (bestK_lt ns (2 ^ l.length)).1 m (by rw [← hV]; exact hm)
        omega
      have hbn : (bestL s l down).length ≤ 16384 := by
        have := (bestK_lt ns (2 ^ l.length)).2
        rw [hV]; omega
      have hbm : ((bestL s l down).map encU).length = (bestL s l down).length := List.length_map ..
      have hE : explE s l down = if 1000 < (bestL s l down).length then 2 else 0 := by unfold explE; rw [if_neg (by omega)]
      have hVV : explV s l down = if explE s l down = 0 then (sortM (bestL s l down)).map (pickM l) else [] := rfl
      have hsl2 := sortM_len hbl
      conv => whnf
      repeat' (first
        | (refine Split.mk (fun h => ?_) (fun h => ?_) <;> (try simp only [decide_eq_true_eq, decide_eq_false_iff_not, Bool.not_eq_true', Bool.not_eq_false', beq_iff_eq, beq_eq_false_iff_ne, bne_iff_ne, bne_eq_false_iff_eq] at h) <;> (first | (exfalso; first | omega | exact h trivial) | (conv => whnf)))
        | (refine CondG.mk (fun h => ?_) (fun h => ?_) <;> (try simp only [decide_eq_true_eq, decide_eq_false_iff_not, Bool.not_eq_true', Bool.not_eq_false', beq_iff_eq, beq_eq_false_iff_ne, bne_iff_ne, bne_eq_false_iff_eq] at h) <;> (first | (exfalso; first | omega | exact h trivial) | (conv => whnf)))
        | (refine CallX.mk _ _ (by first | exact sortU_pc _ hbl (by omega)) ?_; conv => whnf)
        | (refine CallG.mk _ _ (by first | exact sortU_pc _ hbl (by omega)) ?_; conv => whnf)
        | (refine Ask.mk (by first | omega | (unfold roomOK; simp [cutRows]; done) | (unfold roomOK; simp [cutRows]; omega) | (simp [cutRows]; done) | (simp [cutRows]; omega)) ?_; conv => whnf)
        | (refine AppG.mk (by first | omega | (unfold roomOK; simp [cutRows]; done) | (unfold roomOK; simp [cutRows]; omega) | (simp [cutRows]; done) | (simp [cutRows]; omega)) ?_; conv => whnf)
        | (refine SliceG.fr ?_; conv => whnf)
        | (refine idx_at _ (by with_reducible rfl) (by first | assumption | omega) ?_; conv => whnf)
        | ((with_reducible refine row_map (by first | assumption | omega) ?_); conv => whnf)
        | ((with_reducible refine row_set (by first | assumption | omega | (simp only [List.length_set]; omega) | (simp; omega)) ?_); conv => whnf)
        | fail)
      · have h5 : 1000 < (bestL s l down).length := by omega
        rw [if_pos h5] at hE
        rw [hE, if_neg (by decide)] at hVV
        rw [hE, hVV]
        refine .weak [] (.tup _ _ rfl ?_) rfl (Nat.le_refl _)
        intro i a b ha hb
        match i with
        | 0 => cases ha; cases hb; exact .nil 1
        | 1 => cases ha; cases hb; exact .refl _
      · have h5 : ¬ 1000 < (bestL s l down).length := by omega
        rw [if_neg h5] at hE
        rw [hE, if_pos rfl] at hVV
        rw [hE, hVV]
        have hms2 : ∀ m ∈ sortM (bestL s l down), m < 16384 := fun m hm => hbl m ((sortM_perm hbl).mem_iff.1 hm)
        generalize sortM (bestL s l down) = ms at hsl2 hms2
        have hms : (ms.map encU).length = ms.length := List.length_map ..
        have hml : ∀ m ∈ ms, m < 16384 := hms2
        refine loop_for (ms.length) [.sl 17 28 1] [8, 17, 107, 108, 109] (fun k (_ : Unit) => [(109, .c (.int .i64 (k : Int)))]) (fun k (_ : Unit) => [(0, .row 28 1 (((ms.take k).map (pickM l)).map encLs))]) (fun k (_ : Unit) => True) (()) ?_
        conv => whnf
        refine ⟨(by first | rfl | (simp; done) | (simp; rfl)), (by trivial), ?_, ?_⟩
        · intro k _ hk _
          have hm := hml _ (List.getElem_mem hk)
          have hol : (((ms.take k).map (pickM l)).map encLs).length = k := by simp; omega
          conv => whnf
          repeat' (first
            | (refine Split.mk (fun h => ?_) (fun h => ?_) <;> (try simp only [decide_eq_true_eq, decide_eq_false_iff_not, Bool.not_eq_true', Bool.not_eq_false', beq_iff_eq, beq_eq_false_iff_ne, bne_iff_ne, bne_eq_false_iff_eq] at h) <;> (first | (exfalso; first | omega | exact h trivial) | (conv => whnf)))
            | (refine CondG.mk (fun h => ?_) (fun h => ?_) <;> (try simp only [decide_eq_true_eq, decide_eq_false_iff_not, Bool.not_eq_true', Bool.not_eq_false', beq_iff_eq, beq_eq_false_iff_ne, bne_iff_ne, bne_eq_false_iff_eq] at h) <;> (first | (exfalso; first | omega | exact h trivial) | (conv => whnf)))
            | (refine Ask.mk (by first | omega | (unfold roomOK; simp [cutRows]; done) | (unfold roomOK; simp [cutRows]; omega) | (simp [cutRows]; done) | (simp [cutRows]; omega)) ?_; conv => whnf)
            | (refine AppG.mk (by first | omega | (unfold roomOK; simp [cutRows]; done) | (unfold roomOK; simp [cutRows]; omega) | (simp [cutRows]; done) | (simp [cutRows]; omega)) ?_; conv => whnf)
            | (refine SliceG.fr ?_; conv => whnf)
            | (refine idx_at _ (by with_reducible rfl) (by first | assumption | omega) ?_; conv => whnf)
            | ((with_reducible refine row_map (by first | assumption | omega) ?_); conv => whnf)
            | ((with_reducible refine row_set (by first | assumption | omega | (simp only [List.length_set]; omega) | (simp; omega)) ?_); conv => whnf)
            | ((refine row_at k toN (by omega) ?_); conv => whnf)
            | fail)
          refine loop_for (l.length) [.sl 20 9 1] [8, 17, 19, 20, 107, 108, 109, 113, 114, 115] (fun j (_ : Unit) => [(115, .c (.int .i64 (j : Int)))]) (fun j (_ : Unit) => [(1, .row 9 1 ((setL l ms[k] j).map encS))]) (fun j (_ : Unit) => True) (()) ?_
          conv => whnf
          refine ⟨(by first | rfl | (simp; done) | (simp; rfl)), (by trivial), ?_, ?_⟩
          · intro j _ hj _
            have hs1 := setL_len l ms[k] j
            have hsm1 : ((setL l ms[k] j).map encS).length = (setL l ms[k] j).length := List.length_map ..
            have hgd : l.getD j ⟨#[]⟩ = l[j] := by simp [List.getD_eq_getElem?_getD, List.getElem?_eq_getElem hj]
            have e1 : setL l ms[k] (j + 1) = if ms[k].testBit j = true then setL l ms[k] j ++ [l[j]] else setL l ms[k] j := by rw [setL, hgd]
            conv => whnf
            repeat' (first
              | (refine Split.mk (fun h => ?_) (fun h => ?_) <;> (try simp only [decide_eq_true_eq, decide_eq_false_iff_not, Bool.not_eq_true', Bool.not_eq_false', beq_iff_eq, beq_eq_false_iff_ne, bne_iff_ne, bne_eq_false_iff_eq] at h) <;> (first | (exfalso; first | omega | exact h trivial) | (conv => whnf)))
              | (refine CondG.mk (fun h => ?_) (fun h => ?_) <;> (try simp only [decide_eq_true_eq, decide_eq_false_iff_not, Bool.not_eq_true', Bool.not_eq_false', beq_iff_eq, beq_eq_false_iff_ne, bne_iff_ne, bne_eq_false_iff_eq] at h) <;> (first | (exfalso; first | omega | exact h trivial) | (conv => whnf)))
              | (refine Ask.mk (by first | omega | (unfold roomOK; simp [cutRows]; done) | (unfold roomOK; simp [cutRows]; omega) | (simp [cutRows]; done) | (simp [cutRows]; omega)) ?_; conv => whnf)
              | (refine AppG.mk (by first | omega | (unfold roomOK; simp [cutRows]; done) | (unfold roomOK; simp [cutRows]; omega) | (simp [cutRows]; done) | (simp [cutRows]; omega)) ?_; conv => whnf)
              | (refine SliceG.fr ?_; conv => whnf)
              | (refine idx_at _ (by with_reducible rfl) (by first | assumption | omega) ?_; conv => whnf)
              | ((with_reducible refine row_map (by first | assumption | omega) ?_); conv => whnf)
              | ((with_reducible refine row_set (by first | assumption | omega | (simp only [List.length_set]; omega) | (simp; omega)) ?_); conv => whnf)
              | fail)
            · have q := (shbit hm (by omega : j ≤ 14)).1 (by assumption)
              exact count_next () hj (by rw [wrap_succ hj (by omega), e1, if_pos q, List.map_append]; rfl) trivial
            · have q : ¬ ms[k].testBit j = true := fun q => absurd ((shbit hm (by omega : j ≤ 14)).2 q) (by assumption)
              exact count_next () hj (by rw [wrap_succ hj (by omega), e1, if_neg q]; rfl) trivial
          · intro _ _
            conv => whnf
            repeat' (first
              | (refine Split.mk (fun h => ?_) (fun h => ?_) <;> (try simp only [decide_eq_true_eq, decide_eq_false_iff_not, Bool.not_eq_true', Bool.not_eq_false', beq_iff_eq, beq_eq_false_iff_ne, bne_iff_ne, bne_eq_false_iff_eq] at h) <;> (first | (exfalso; first | omega | exact h trivial) | (conv => whnf)))
              | (refine CondG.mk (fun h => ?_) (fun h => ?_) <;> (try simp only [decide_eq_true_eq, decide_eq_false_iff_not, Bool.not_eq_true', Bool.not_eq_false', beq_iff_eq, beq_eq_false_iff_ne, bne_iff_ne, bne_eq_false_iff_eq] at h) <;> (first | (exfalso; first | omega | exact h trivial) | (conv => whnf)))
              | (refine Ask.mk (by first | omega | (unfold roomOK; simp [cutRows]; done) | (unfold roomOK; simp [cutRows]; omega) | (simp [cutRows]; done) | (simp [cutRows]; omega)) ?_; conv => whnf)
              | (refine AppG.mk (by first | omega | (unfold roomOK; simp [cutRows]; done) | (unfold roomOK; simp [cutRows]; omega) | (simp [cutRows]; done) | (simp [cutRows]; omega)) ?_; conv => whnf)
              | (refine SliceG.fr ?_; conv => whnf)
              | (refine idx_at _ (by with_reducible rfl) (by first | assumption | omega) ?_; conv => whnf)
              | ((with_reducible refine row_map (by first | assumption | omega) ?_); conv => whnf)
              | ((with_reducible refine row_set (by first | assumption | omega | (simp only [List.length_set]; omega) | (simp; omega)) ?_); conv => whnf)
              | fail)
            exact count_next () hk (by rw [wrap_succ hk (by omega), List.take_succ_eq_append_getElem hk, List.map_append, List.map_append]; rfl) trivial
        · intro _ _
          rw [List.take_length]
          conv => whnf
          repeat' (first
            | (refine Split.mk (fun h => ?_) (fun h => ?_) <;> (try simp only [decide_eq_true_eq, decide_eq_false_iff_not, Bool.not_eq_true', Bool.not_eq_false', beq_iff_eq, beq_eq_false_iff_ne, bne_iff_ne, bne_eq_false_iff_eq] at h) <;> (first | (exfalso; first | omega | exact h trivial) | (conv => whnf)))
            | (refine CondG.mk (fun h => ?_) (fun h => ?_) <;> (try simp only [decide_eq_true_eq, decide_eq_false_iff_not, Bool.not_eq_true', Bool.not_eq_false', beq_iff_eq, beq_eq_false_iff_ne, bne_iff_ne, bne_eq_false_iff_eq] at h) <;> (first | (exfalso; first | omega | exact h trivial) | (conv => whnf)))
            | (refine Ask.mk (by first | omega | (unfold roomOK; simp [cutRows]; done) | (unfold roomOK; simp [cutRows]; omega) | (simp [cutRows]; done) | (simp [cutRows]; omega)) ?_; conv => whnf)
            | (refine AppG.mk (by first | omega | (unfold roomOK; simp [cutRows]; done) | (unfold roomOK; simp [cutRows]; omega) | (simp [cutRows]; done) | (simp [cutRows]; omega)) ?_; conv => whnf)
            | (refine SliceG.fr ?_; conv => whnf)
            | (refine idx_at _ (by with_reducible rfl) (by first | assumption | omega) ?_; conv => whnf)
            | ((with_reducible refine row_map (by first | assumption | omega) ?_); conv => whnf)
            | ((with_reducible refine row_set (by first | assumption | omega | (simp only [List.length_set]; omega) | (simp; omega)) ?_); conv => whnf)
            | fail)
          refine .frz 0 _ _ _ rfl (.weak [_] (.tup _ _ rfl ?_) rfl (Nat.le_refl _))
          intro i a b ha hb
          match i with
          | 0 => cases ha; cases hb; exact .fro 0 _ _ rfl
          | 1 => cases ha; cases hb; exact .refl _
end Go.Proofs.YtameoookmgkmfaaGreat

/- What is unexplained, by the program; elements by captured lists. -/
namespace Go.Proofs.YtameoookmgkmfaaGreat
set_option linter.unusedVariables false
set_option linter.unusedSimpArgs false
open Abs

theorem seen_ok {s : List Sv} {down up : List ByteArray} (h0 : seenErr s down up = 0) : SvOk s ∧ StOkL s down ∧ StOkL s up := by
  have hs0 : svFault s = 0 := by
    unfold seenErr at h0
    split at h0
    · omega
    · omega
  have hd0 : stErr s down = 0 := by
    unfold seenErr at h0
    rw [if_neg (by omega)] at h0
    split at h0
    · omega
    · omega
  have hu0 : stErr s up = 0 := by
    unfold seenErr at h0
    rw [if_neg (by omega), if_neg (by omega)] at h0
    split at h0
    · omega
    · omega
  exact ⟨svFault_ok hs0, stErr_ok hd0, stErr_ok hu0⟩
def needsB (s : List Sv) (l : List ByteArray) (k : ByteArray) : Bool := l.any fun x => decide (x ∈ (svG s k).els)
def unexV (s : List Sv) (l down : List ByteArray) : List ByteArray := down.filter fun k => !needsB s l k
theorem nd_len : ∀ {l m : List ByteArray}, l.Nodup → (∀ x ∈ l, x ∈ m) → l.length ≤ m.length
  | [], _, _, _ => Nat.zero_le _
  | a :: r, m, h, hs => by
    rw [List.nodup_cons] at h
    have ha := hs a (by simp)
    have h1 := nd_len (l := r) (m := m.erase a) h.2 (fun x hx => by
      have hne : x ≠ a := fun e => by subst e; exact h.1 hx
      exact (List.mem_erase_of_ne hne).2 (hs x (by simp [hx])))
    have h2 := List.length_erase_of_mem ha
    have h3 := List.length_pos_of_mem ha
    simp only [List.length_cons]; omega
set_option maxRecDepth 100000 in
set_option maxHeartbeats 4000000 in
theorem fExpls_pc (s : List Sv) (hx : ∀ x ∈ s, x.els.length ≤ 1000000) (down up : List ByteArray) : PCp 11 [.c (.lst 3 (s.map encSv)), .c (.lst 1 (down.map encS)), .c (.lst 1 (up.map encS))] [] (.tup [.c (.lst 1 ((if seenErr s down up = 0 then explV s (susV s down up) down else []).map encLs)), .c (.int .i64 (if seenErr s down up = 0 then explE s (susV s down up) down else seenErr s down up))]) [] := by
  by_cases h0 : seenErr s down up = 0
  · obtain ⟨hs, hd, hu⟩ := seen_ok h0
    have hst := fState_pc s hx down up
    rw [h0] at hst
    rw [if_pos h0, if_pos h0]
    refine fn_sound (mt := mts) tab_fits tab_mixed Tryz.func11 (by rfl) (by kernel_rfl) (by kernel_rfl) Tryz.results11 (Nat.le_of_ble_eq_true (by kernel_rfl)) ?_
    conv => whnf
    repeat' (first
      | (refine Split.mk (fun h => ?_) (fun h => ?_) <;> (try simp only [decide_eq_true_eq, decide_eq_false_iff_not, Bool.not_eq_true', Bool.not_eq_false', beq_iff_eq, beq_eq_false_iff_ne, bne_iff_ne, bne_eq_false_iff_eq] at h) <;> (first | (exfalso; first | omega | exact h trivial) | (conv => whnf)))
      | (refine CondG.mk (fun h => ?_) (fun h => ?_) <;> (try simp only [decide_eq_true_eq, decide_eq_false_iff_not, Bool.not_eq_true', Bool.not_eq_false', beq_iff_eq, beq_eq_false_iff_ne, bne_iff_ne, bne_eq_false_iff_eq] at h) <;> (first | (exfalso; first | omega | exact h trivial) | (conv => whnf)))
      | (refine CallX.mk _ _ (by first | exact hst | exact fExplain_pc s hs down up hd hu) ?_; conv => whnf)
      | (refine CallG.mk _ _ (by first | exact hst | exact fExplain_pc s hs down up hd hu) ?_; conv => whnf)
      | (refine Ask.mk (by first | omega | (unfold roomOK; simp [cutRows]; done) | (unfold roomOK; simp [cutRows]; omega) | (simp [cutRows]; done) | (simp [cutRows]; omega)) ?_; conv => whnf)
      | (refine AppG.mk (by first | omega | (unfold roomOK; simp [cutRows]; done) | (unfold roomOK; simp [cutRows]; omega) | (simp [cutRows]; done) | (simp [cutRows]; omega)) ?_; conv => whnf)
      | (refine SliceG.fr ?_; conv => whnf)
      | (refine idx_at _ (by with_reducible rfl) (by first | assumption | omega) ?_; conv => whnf)
      | ((with_reducible refine row_map (by first | assumption | omega) ?_); conv => whnf)
      | ((with_reducible refine row_set (by first | assumption | omega | (simp only [List.length_set]; omega) | (simp; omega)) ?_); conv => whnf)
      | fail)
    exact .mk ⟨rfl, rfl⟩
  · rw [if_neg h0, if_neg h0]
    refine fn_sound (mt := mts) tab_fits tab_mixed Tryz.func11 (by rfl) (by kernel_rfl) (by kernel_rfl) Tryz.results11 (Nat.le_of_ble_eq_true (by kernel_rfl)) ?_
    conv => whnf
    repeat' (first
      | (refine Split.mk (fun h => ?_) (fun h => ?_) <;> (try simp only [decide_eq_true_eq, decide_eq_false_iff_not, Bool.not_eq_true', Bool.not_eq_false', beq_iff_eq, beq_eq_false_iff_ne, bne_iff_ne, bne_eq_false_iff_eq] at h) <;> (first | (exfalso; first | omega | exact h trivial) | (conv => whnf)))
      | (refine CondG.mk (fun h => ?_) (fun h => ?_) <;> (try simp only [decide_eq_true_eq, decide_eq_false_iff_not, Bool.not_eq_true', Bool.not_eq_false', beq_iff_eq, beq_eq_false_iff_ne, bne_iff_ne, bne_eq_false_iff_eq] at h) <;> (first | (exfalso; first | omega | exact h trivial) | (conv => whnf)))
      | (refine CallX.mk _ _ (by first | exact fState_pc s hx down up) ?_; conv => whnf)
      | (refine CallG.mk _ _ (by first | exact fState_pc s hx down up) ?_; conv => whnf)
      | (refine Ask.mk (by first | omega | (unfold roomOK; simp [cutRows]; done) | (unfold roomOK; simp [cutRows]; omega) | (simp [cutRows]; done) | (simp [cutRows]; omega)) ?_; conv => whnf)
      | (refine AppG.mk (by first | omega | (unfold roomOK; simp [cutRows]; done) | (unfold roomOK; simp [cutRows]; omega) | (simp [cutRows]; done) | (simp [cutRows]; omega)) ?_; conv => whnf)
      | (refine SliceG.fr ?_; conv => whnf)
      | (refine idx_at _ (by with_reducible rfl) (by first | assumption | omega) ?_; conv => whnf)
      | ((with_reducible refine row_map (by first | assumption | omega) ?_); conv => whnf)
      | ((with_reducible refine row_set (by first | assumption | omega | (simp only [List.length_set]; omega) | (simp; omega)) ?_); conv => whnf)
      | fail)
    · refine .weak [] (.tup _ _ rfl ?_) rfl (Nat.le_refl _)
      intro i a b ha hb
      match i with
      | 0 => cases ha; cases hb; exact .nil 1
      | 1 => cases ha; cases hb; exact .refl _
    all_goals (exfalso; rename_i h; simp at h; omega)
end Go.Proofs.YtameoookmgkmfaaGreat

/- Plain: the best sets are there, and they rise. -/
namespace Go.Proofs.YtameoookmgkmfaaGreat
set_option linter.unusedVariables false
set_option linter.unusedSimpArgs false
open Abs

theorem bestK_good (ns : List Nat) (k : Nat) (h : goodM ns k = true) : bestK ns (k + 1) ≠ [] := by
  rw [bestK, if_pos h]
  cases hb : beforeB (bestK ns k) k with
  | nil => simp [withB]
  | cons x r => unfold withB; simp only; split <;> simp
theorem bestL_some (s : List Sv) (l down : List ByteArray) : bestL s l down ≠ [] := by
  have h2 := Nat.two_pow_pos l.length
  obtain ⟨n, hn⟩ : ∃ n, 2 ^ l.length = n + 1 := ⟨2 ^ l.length - 1, by omega⟩
  unfold bestL
  rw [hn]
  refine bestK_good _ _ ?_
  unfold goodM
  rw [Bool.not_eq_true', List.any_eq_false]
  intro x hx
  obtain ⟨hx1, hx2⟩ := List.mem_filter.1 hx
  obtain ⟨k, _, rfl⟩ := List.mem_map.1 hx1
  have hlt : needO s l k < 2 ^ l.length := bitN_lt _ l l.length
  have h0 : needO s l k ≠ 0 := by simpa using hx2
  have hm : n = 2 ^ l.length - 1 := by omega
  rw [hm, Nat.and_two_pow_sub_one_eq_mod, Nat.mod_eq_of_lt hlt]
  simpa using h0
theorem setL_sub (l : List ByteArray) (m : Nat) : ∀ k, k ≤ l.length → (setL l m k).Sublist (l.take k)
  | 0, _ => by simp [setL]
  | k + 1, h => by
    have ih := setL_sub l m k (by omega)
    have hg : l.getD k ⟨#[]⟩ = l[k] := by simp [List.getD_eq_getElem?_getD, List.getElem?_eq_getElem (by omega : k < l.length)]
    rw [setL, List.take_succ_eq_append_getElem (by omega : k < l.length), hg]
    split
    · exact ih.append (List.Sublist.refl _)
    · exact ih.trans (List.sublist_append_left ..)
theorem pickM_rise {l : List ByteArray} (h : Rise id l) (m : Nat) : Rise id (pickM l m) := by
  have h1 := setL_sub l m l.length (Nat.le_refl _)
  rw [List.take_length] at h1
  exact List.Pairwise.sublist h1 h
theorem pickM_len (l : List ByteArray) (m : Nat) : (pickM l m).length ≤ l.length := setL_len l m l.length
theorem setL_mem (l : List ByteArray) (m : Nat) : ∀ k, k ≤ l.length → ∀ x, x ∈ setL l m k ↔ ∃ i, ∃ h : i < l.length, i < k ∧ m.testBit i = true ∧ l[i] = x
  | 0, _, x => by simp [setL]
  | k + 1, h, x => by
    have ih := setL_mem l m k (by omega) x
    have hg : l.getD k ⟨#[]⟩ = l[k] := by simp [List.getD_eq_getElem?_getD, List.getElem?_eq_getElem (by omega : k < l.length)]
    rw [setL, hg]
    constructor
    · intro hx
      split at hx
      · rename_i hb
        rcases List.mem_append.1 hx with h1 | h1
        · obtain ⟨i, hi, h3, h4, h5⟩ := ih.1 h1; exact ⟨i, hi, by omega, h4, h5⟩
        · rw [List.mem_singleton] at h1; exact ⟨k, by omega, by omega, hb, h1.symm⟩
      · obtain ⟨i, hi, h3, h4, h5⟩ := ih.1 hx; exact ⟨i, hi, by omega, h4, h5⟩
    · rintro ⟨i, hi, h3, h4, h5⟩
      by_cases e : i = k
      · subst e; rw [if_pos h4]; exact List.mem_append.2 (.inr (by simp [h5]))
      · have := ih.2 ⟨i, hi, by omega, h4, h5⟩
        split
        · exact List.mem_append.2 (.inl this)
        · exact this
end Go.Proofs.YtameoookmgkmfaaGreat

/- What is in all sets, by the program. -/
namespace Go.Proofs.YtameoookmgkmfaaGreat
set_option linter.unusedVariables false
set_option linter.unusedSimpArgs false
open Abs

set_option maxRecDepth 100000 in
set_option maxHeartbeats 4000000 in
theorem ixS1_pc (xs : List (List V)) (g : Nat) (p : ByteArray → Bool) (l : List ByteArray) (hl : l.length ≤ 1000000) (hg : ∀ x ∈ l, PCp g [.c (.str x), .c (.ptr 0 0)] [.box [.lst 1 xs]] (.c (.bool (p x))) [.box [.lst 1 xs]]) : PCp 68 [.c (.row 0), .c (.fn g [.ptr 1 0])] [.row 9 1 (l.map encS), .box [.lst 1 xs]] (.c (.int .i64 (idxP p l))) [.row 9 1 (l.map encS), .box [.lst 1 xs]] := by
  have hlm : (l.map encS).length = l.length := List.length_map ..
  refine fn_sound (mt := mts) tab_fits tab_mixed Tryz.func68 (by rfl) (by kernel_rfl) (by kernel_rfl) Tryz.results68 (Nat.le_of_ble_eq_true (by kernel_rfl)) ?_
  conv => whnf
  refine loop_for (l.length) [] [0, 1, 7, 8] (fun k (_ : Unit) => [(8, .c (.int .i64 (k : Int)))]) (fun k (_ : Unit) => []) (fun k (_ : Unit) => ∀ i (hi : i < l.length), i < k → p l[i] = false) (()) ?_
  conv => whnf
  refine ⟨(by first | rfl | (simp; done) | (simp; rfl)), ?_, ?_, ?_⟩
  · intro i hi h; omega
  · intro k _ hk hi
    conv => whnf
    repeat' (first
      | (refine Split.mk (fun h => ?_) (fun h => ?_) <;> (try simp only [decide_eq_true_eq, decide_eq_false_iff_not, Bool.not_eq_true', Bool.not_eq_false', beq_iff_eq, beq_eq_false_iff_ne, bne_iff_ne, bne_eq_false_iff_eq] at h) <;> (first | (exfalso; first | omega | exact h trivial) | (conv => whnf)))
      | (refine CondG.mk (fun h => ?_) (fun h => ?_) <;> (try simp only [decide_eq_true_eq, decide_eq_false_iff_not, Bool.not_eq_true', Bool.not_eq_false', beq_iff_eq, beq_eq_false_iff_ne, bne_iff_ne, bne_eq_false_iff_eq] at h) <;> (first | (exfalso; first | omega | exact h trivial) | (conv => whnf)))
      | (refine CallX.mk _ _ (by first | exact hg l[k] (List.getElem_mem hk)) ?_; conv => whnf)
      | (refine CallG.mk _ _ (by first | exact hg l[k] (List.getElem_mem hk)) ?_; conv => whnf)
      | (refine Ask.mk (by first | omega | (unfold roomOK; simp [cutRows]; done) | (unfold roomOK; simp [cutRows]; omega) | (simp [cutRows]; done) | (simp [cutRows]; omega)) ?_; conv => whnf)
      | (refine AppG.mk (by first | omega | (unfold roomOK; simp [cutRows]; done) | (unfold roomOK; simp [cutRows]; omega) | (simp [cutRows]; done) | (simp [cutRows]; omega)) ?_; conv => whnf)
      | (refine SliceG.fr ?_; conv => whnf)
      | (refine idx_at _ (by with_reducible rfl) (by first | assumption | omega) ?_; conv => whnf)
      | ((with_reducible refine row_map (by first | assumption | omega) ?_); conv => whnf)
      | ((with_reducible refine row_set (by first | assumption | omega | (simp only [List.length_set]; omega) | (simp; omega)) ?_); conv => whnf)
      | fail)
    · exact .mk ⟨by rw [idxP_hit hk (fun i hi' => hi i (by omega) hi') h]; rfl, rfl⟩
    · refine count_next () hk (by rw [wrap_succ hk (by omega)]; rfl) ?_
      exact all_succ' hi h
  · intro _ hi
    conv => whnf
    repeat' (first
      | (refine Split.mk (fun h => ?_) (fun h => ?_) <;> (try simp only [decide_eq_true_eq, decide_eq_false_iff_not, Bool.not_eq_true', Bool.not_eq_false', beq_iff_eq, beq_eq_false_iff_ne] at h) <;> (first | (exfalso; first | omega | exact h trivial) | (conv => whnf)))
      | (refine CondG.mk (fun h => ?_) (fun h => ?_) <;> (try simp only [decide_eq_true_eq, decide_eq_false_iff_not, Bool.not_eq_true', Bool.not_eq_false', beq_iff_eq, beq_eq_false_iff_ne] at h) <;> (first | (exfalso; first | omega | exact h trivial) | (conv => whnf)))
      | (refine Ask.mk (by first | omega | (unfold roomOK; simp [cutRows]; done) | (unfold roomOK; simp [cutRows]; omega)) ?_; conv => whnf)
      | (refine AppG.mk (by first | omega | (unfold roomOK; simp [cutRows]; done) | (unfold roomOK; simp [cutRows]; omega)) ?_; conv => whnf)
      | (refine SliceG.fr ?_; conv => whnf)
      | fail)
    exact .mk ⟨by rw [idxP_miss (fun i h => hi i h h)]; rfl, rfl⟩
set_option maxRecDepth 100000 in
set_option maxHeartbeats 4000000 in
theorem delfS1_pc (xs : List (List V)) (g : Nat) (p : ByteArray → Bool) (l : List ByteArray) (hl : l.length ≤ 1000000) (hg : ∀ x ∈ l, PCp g [.c (.str x), .c (.ptr 0 0)] [.box [.lst 1 xs]] (.c (.bool (p x))) [.box [.lst 1 xs]]) : PCp 31 [.c (.row 0), .c (.fn g [.ptr 1 0])] [.row 9 1 (l.map encS), .box [.lst 1 xs]] (.c (.row 2)) [.dead, .box [.lst 1 xs], .row 9 1 ((l.filter fun x => !p x).map encS)] := by
  have hlm : (l.map encS).length = l.length := List.length_map ..
  rcases idxP_or p l with ⟨hix, hno⟩ | ⟨i0, h0, hix, hp, hbef⟩
  · have hf : l.filter (fun x => !p x) = l := List.filter_eq_self.2 (fun x hx => by simp [hno x hx])
    refine fn_sound (mt := mts) tab_fits tab_mixed Tryz.func31 (by rfl) (by kernel_rfl) (by kernel_rfl) Tryz.results31 (Nat.le_of_ble_eq_true (by kernel_rfl)) ?_
    conv => whnf
    repeat' (first
      | (refine Split.mk (fun h => ?_) (fun h => ?_) <;> (try simp only [decide_eq_true_eq, decide_eq_false_iff_not, Bool.not_eq_true', Bool.not_eq_false', beq_iff_eq, beq_eq_false_iff_ne] at h) <;> (first | (exfalso; first | omega | exact h trivial) | (conv => whnf)))
      | (refine CondG.mk (fun h => ?_) (fun h => ?_) <;> (try simp only [decide_eq_true_eq, decide_eq_false_iff_not, Bool.not_eq_true', Bool.not_eq_false', beq_iff_eq, beq_eq_false_iff_ne] at h) <;> (first | (exfalso; first | omega | exact h trivial) | (conv => whnf)))
      | (refine CallX.mk _ _ (by first | exact ixS1_pc xs g p l hl hg) ?_; conv => whnf)
      | (refine CallG.mk _ _ (by first | exact ixS1_pc xs g p l hl hg) ?_; conv => whnf)
      | (refine Ask.mk (by first | omega | (unfold roomOK; simp [cutRows]; done) | (unfold roomOK; simp [cutRows]; omega)) ?_; conv => whnf)
      | (refine AppG.mk (by first | omega | (unfold roomOK; simp [cutRows]; done) | (unfold roomOK; simp [cutRows]; omega)) ?_; conv => whnf)
      | (refine SliceG.fr ?_; conv => whnf)
      | fail)
    · refine .cutv 0 _ _ l.length _ (.inr ⟨rfl, hlm.symm⟩) rfl (by omega) (.mk ⟨rfl, ?_⟩)
      rw [hf, show List.take l.length (l.map encS) = l.map encS from List.take_of_length_le (by omega)]; rfl
  · refine fn_sound (mt := mts) tab_fits tab_mixed Tryz.func31 (by rfl) (by kernel_rfl) (by kernel_rfl) Tryz.results31 (Nat.le_of_ble_eq_true (by kernel_rfl)) ?_
    conv => whnf
    refine .mk _ _ (ixS1_pc xs g p l hl hg) ?_
    rw [hix]
    conv => whnf
    refine .mk (fun h => ?_) (fun h => ?_)
    · first | omega | (simp at h; done) | (simp at h; omega)
    conv => whnf
    rw [wrap_succ h0 (by omega)]
    refine loop_for2 (l.length - (i0 + 1)) [] [0, 1, 5, 6] (fun m (i : Nat) (q : List ByteArray) => [(5, .c (.int .i64 ((i : Nat) : Int))), (6, .c (.int .i64 ((i0 + 1 + m : Nat) : Int)))]) (fun m (i : Nat) (q : List ByteArray) => [(0, .row 9 1 (q.map encS))]) (fun m (i : Nat) (q : List ByteArray) => q.length = l.length ∧ i < i0 + 1 + m ∧ q.drop (i0 + 1 + m) = l.drop (i0 + 1 + m) ∧ q.take i ++ (l.drop (i0 + 1 + m)).filter (fun x => !p x) = l.filter (fun x => !p x)) (i0) (l) ?_
    conv => whnf
    refine ⟨(by first | rfl | (simp; done) | (simp; rfl)), ?_, ?_, ?_⟩
    · exact ⟨rfl, by omega, rfl, delf_start h0 hp hbef⟩
    · intro m i q hm ⟨g1, g2, g3, g4⟩
      have hqm : (q.map encS).length = q.length := List.length_map ..
      have hj : i0 + 1 + m < l.length := by omega
      have q1 : q[i0 + 1 + m]'(by omega) = l[i0 + 1 + m] := getElem_of_drop g3 (by omega) (by omega) (by omega)
      rw [List.drop_eq_getElem_cons hj, List.filter_cons] at g4
      conv => whnf
      refine .mk (fun h => ?_) (fun h => ?_)
      rotate_left
      · first | omega | (simp at h; done) | (simp at h; omega)
      conv => whnf
      refine .mk (by omega) ?_
      conv => whnf
      refine row_at (i0 + 1 + m) toN (by omega) ?_
      conv => whnf
      rw [q1]
      refine .mk _ _ (hg _ (List.getElem_mem hj)) ?_
      conv => whnf
      refine .mk (fun h => ?_) (fun h => ?_)
      · conv => whnf
        refine .mk (by omega) ?_
        conv => whnf
        refine row_at i toN (by omega) ?_
        conv => whnf
        rw [if_pos h] at g4
        refine count_next (i + 1, q.set i (l[i0 + 1 + m]'(by omega))) hm (by rw [wrap_succ (n := l.length) (by omega) (by omega), wrap_succ (n := l.length) (by omega) (by omega), toN, List.map_set]; rfl) ⟨by simp [g1], by simp only; omega, ?_, ?_⟩
        · rw [List.drop_set_of_lt (by omega), show i0 + 1 + (m + 1) = i0 + 1 + m + 1 by omega, ← List.drop_drop, g3, List.drop_drop]
        · rw [delf_set (by omega), show i0 + 1 + (m + 1) = i0 + 1 + m + 1 by omega, List.append_assoc]; exact g4
      · conv => whnf
        rw [if_neg (by rw [h]; decide)] at g4
        refine count_next (i, q) hm (by rw [wrap_succ (n := l.length) (by omega) (by omega)]; rfl) ⟨g1, by simp only; omega, ?_, ?_⟩
        · rw [show i0 + 1 + (m + 1) = i0 + 1 + m + 1 by omega, ← List.drop_drop, g3, List.drop_drop]
        · rw [show i0 + 1 + (m + 1) = i0 + 1 + m + 1 by omega]; exact g4
    · intro i q ⟨g1, g2, g3, g4⟩
      have hqm : (q.map encS).length = q.length := List.length_map ..
      rw [List.drop_of_length_le (by omega), List.filter_nil, List.append_nil] at g4
      conv => whnf
      refine .mk (fun h => ?_) (fun h => ?_)
      · first | omega | (simp at h; done) | (simp at h; omega)
      conv => whnf
      refine .mk (by omega) ?_
      conv => whnf
      refine .vw ?_
      conv => whnf
      refine .mk (by rw [overR]; simp; omega) ?_
      conv => whnf
      refine .cut ⟨rfl, ?_⟩
      conv => whnf
      rw [toN]
      have hrow : ∀ z : List V, (overR (q.map encS) (List.replicate ((q.map encS).length - i) z) i).take i = (l.filter fun x => !p x).map encS := by
        intro z
        rw [← g4, List.map_take]; unfold overR
        rw [List.append_assoc, List.take_append_of_le_length (by simp; omega), List.take_take, Nat.min_self]
      rw [hrow]
      exact .mk ⟨rfl, rfl⟩
theorem explV_ok {s : List Sv} {l down : List ByteArray} (hl : Rise id l) (h0 : explE s l down = 0) : explV s l down ≠ [] ∧ (explV s l down).length ≤ 1000 ∧ l.length ≤ 14 ∧ ∀ q ∈ explV s l down, Rise id q ∧ q.length ≤ 1000000 := by
  have h14 : l.length ≤ 14 := by
    unfold explE at h0
    split at h0 <;> omega
  have hb : (bestL s l down).length ≤ 1000 := by
    unfold explE at h0
    rw [if_neg (by omega)] at h0
    split at h0 <;> omega
  have hlt : ∀ m ∈ bestL s l down, m < 16384 := by
    intro m hm
    have := (bestK_lt (needL s l down) (2 ^ l.length)).1 m hm
    have := pow14 h14
    omega
  have hsl := sortM_len hlt
  unfold explV
  rw [if_pos h0]
  refine ⟨?_, by rw [List.length_map]; omega, h14, ?_⟩
  · intro e
    have h1 : (sortM (bestL s l down)).length = 0 := by
      have := congrArg List.length e
      simpa using this
    exact bestL_some s l down (List.eq_nil_of_length_eq_zero (by omega))
  · intro q hq
    obtain ⟨m, _, rfl⟩ := List.mem_map.1 hq
    have := pickM_len l m
    exact ⟨pickM_rise hl m, by omega⟩
end Go.Proofs.YtameoookmgkmfaaGreat

/- What to ask, by the program. -/
namespace Go.Proofs.YtameoookmgkmfaaGreat
set_option linter.unusedVariables false
set_option linter.unusedSimpArgs false
open Abs

def hitN (L : List (List ByteArray)) (x : Sv) : Nat := (L.filter fun q => q.any fun z => decide (z ∈ x.els)).length
theorem hitN_succ (L : List (List ByteArray)) (x : Sv) {j : Nat} (h : j < L.length) : hitN (L.take (j + 1)) x = hitN (L.take j) x + if (L[j].any fun z => decide (z ∈ x.els)) then 1 else 0 := by
  unfold hitN
  rw [List.take_succ_eq_append_getElem h, List.filter_append, List.length_append, List.filter_cons, List.filter_nil]
  split <;> simp
theorem hitN_le (L : List (List ByteArray)) (x : Sv) : hitN L x ≤ L.length := List.length_filter_le ..
def worstN (L : List (List ByteArray)) (x : Sv) : Nat := max (hitN L x) (L.length - hitN L x)
theorem worst_if {L : List (List ByteArray)} (h : L.length ≤ 1000) (x : Sv) : (if ((hitN L x : Nat) : Int) < IntKind.i64.wrap (((L.map encLs).length : Int) - ((hitN L x : Nat) : Int)) then IntKind.i64.wrap (((L.map encLs).length : Int) - ((hitN L x : Nat) : Int)) else ((hitN L x : Nat) : Int)) = ((worstN L x : Nat) : Int) := by
  have hn := hitN_le L x
  have hwI : IntKind.i64.wrap ((L.length : Int) - (hitN L x : Int)) = ((L.length - hitN L x : Nat) : Int) := by rw [wrap_in (by omega) (by omega)]; omega
  have hwd : worstN L x = max (hitN L x) (L.length - hitN L x) := rfl
  rw [List.length_map, hwI, hwd]
  split <;> omega
def askIf (s : List Sv) (L : List (List ByteArray)) (x : Sv) : Option (Nat × Nat) → Bool
  | none => decide (worstN L x < L.length)
  | some (b, le) => decide (worstN L x < L.length) && (decide (worstN L x < le) || (decide (worstN L x = le) && decide (((s[b]?).map Sv.cust).getD 0 < x.cust)))
def askK (s : List Sv) (L : List (List ByteArray)) (p : Sv → Bool) : Nat → Option (Nat × Nat)
  | 0 => none
  | k + 1 => match s[k]? with
    | none => askK s L p k
    | some x => if p x then askK s L p k else if askIf s L x (askK s L p k) then some (k, worstN L x) else askK s L p k
theorem askK_succ (s : List Sv) (L : List (List ByteArray)) (p : Sv → Bool) {k : Nat} (h : k < s.length) : askK s L p (k + 1) = if p s[k] then askK s L p k else if askIf s L s[k] (askK s L p k) then some (k, worstN L s[k]) else askK s L p k := by
  rw [askK, List.getElem?_eq_getElem h]
theorem askK_lt (s : List Sv) (L : List (List ByteArray)) (p : Sv → Bool) : ∀ (k : Nat) (b w : Nat), askK s L p k = some (b, w) → b < k ∧ b < s.length ∧ w ≤ L.length
  | 0, b, w, h => by cases h
  | k + 1, b, w, h => by
    have ih := askK_lt s L p k b w
    by_cases hk : k < s.length
    · rw [askK_succ s L p hk] at h
      have hw : worstN L s[k] ≤ L.length := by have := hitN_le L s[k]; unfold worstN; omega
      split at h
      · have := ih h; omega
      · split at h
        · cases h; exact ⟨by omega, hk, hw⟩
        · have := ih h; omega
    · rw [askK, List.getElem?_eq_none (by omega)] at h
      have := ih h; omega
def bestI : Option (Nat × Nat) → Int | none => -1 | some (b, _) => (b : Int)
def leastI : Option (Nat × Nat) → Int | none => 0 | some (_, w) => (w : Int)
def skipB (down up : List ByteArray) (x : Sv) : Bool := decide (x.key ∈ down) || decide (x.key ∈ up)
def askV (s : List Sv) (L : List (List ByteArray)) (down up : List ByteArray) : Option (Nat × Nat) := askK s L (skipB down up) s.length
def askKey (s : List Sv) : Option (Nat × Nat) → ByteArray | none => ⟨#[]⟩ | some (b, _) => ((s[b]?).map Sv.key).getD ⟨#[]⟩
set_option maxRecDepth 100000 in
set_option maxHeartbeats 4000000 in
theorem fAsk_pc (s : List Sv) (hx : ∀ x ∈ s, x.els.length ≤ 1000000) (down up : List ByteArray) (h0 : seenErr s down up = 0) (h1 : explE s (susV s down up) down = 0) (L : List (List ByteArray)) (hL : L = explV s (susV s down up) down) :
    PCp 23 [.c (.lst 3 (s.map encSv)), .c (.lst 1 (down.map encS)), .c (.lst 1 (up.map encS))] [] (.tup [.c (.str (askKey s (askV s L down up))), .c (.int .i64 (leastI (askV s L down up))), .c (.bool (askV s L down up).isSome), .c (.int .i64 0)]) [] := by
  have hp := fExpls_pc s hx down up
  rw [if_pos h0, if_pos h0, h1, ← hL] at hp
  obtain ⟨hs, hd, hu⟩ := seen_ok h0
  obtain ⟨_, k2, _, k4⟩ := explV_ok (susV_rise s down up) h1
  rw [← hL] at k2 k4
  clear hL h1
  have hsl := hs.len
  have hdl := hd.len
  have hul := hu.len
  have hLm : (L.map encLs).length = L.length := List.length_map ..
  have hsm : (s.map encSv).length = s.length := List.length_map ..
  refine fn_sound (mt := mts) tab_fits tab_mixed Tryz.func23 (by rfl) (by kernel_rfl) (by kernel_rfl) Tryz.results23 (Nat.le_of_ble_eq_true (by kernel_rfl)) ?_
  conv => whnf
  repeat' (first
    | (refine Split.mk (fun h => ?_) (fun h => ?_) <;> (try simp only [decide_eq_true_eq, decide_eq_false_iff_not, Bool.not_eq_true', Bool.not_eq_false', beq_iff_eq, beq_eq_false_iff_ne, bne_iff_ne, bne_eq_false_iff_eq] at h) <;> (first | (exfalso; first | omega | exact h trivial) | (conv => whnf)))
    | (refine CondG.mk (fun h => ?_) (fun h => ?_) <;> (try simp only [decide_eq_true_eq, decide_eq_false_iff_not, Bool.not_eq_true', Bool.not_eq_false', beq_iff_eq, beq_eq_false_iff_ne, bne_iff_ne, bne_eq_false_iff_eq] at h) <;> (first | (exfalso; first | omega | exact h trivial) | (conv => whnf)))
    | (refine CallX.mk _ _ (by first | exact hp) ?_; conv => whnf)
    | (refine CallG.mk _ _ (by first | exact hp) ?_; conv => whnf)
    | (refine Ask.mk (by first | omega | (unfold roomOK; simp [cutRows]; done) | (unfold roomOK; simp [cutRows]; omega) | (simp [cutRows]; done) | (simp [cutRows]; omega)) ?_; conv => whnf)
    | (refine AppG.mk (by first | omega | (unfold roomOK; simp [cutRows]; done) | (unfold roomOK; simp [cutRows]; omega) | (simp [cutRows]; done) | (simp [cutRows]; omega)) ?_; conv => whnf)
    | (refine SliceG.fr ?_; conv => whnf)
    | (refine idx_at _ (by with_reducible rfl) (by first | assumption | omega) ?_; conv => whnf)
    | ((with_reducible refine row_map (by first | assumption | omega) ?_); conv => whnf)
    | ((with_reducible refine row_set (by first | assumption | omega | (simp only [List.length_set]; omega) | (simp; omega)) ?_); conv => whnf)
    | fail)
  refine loop_for (s.length) [] [0, 1, 2, 10, 12, 13, 30, 31, 32] (fun k (_ : Unit) => [(12, .c (.int .i64 (bestI (askK s L (skipB down up) k)))), (13, .c (.int .i64 (leastI (askK s L (skipB down up) k)))), (32, .c (.int .i64 (k : Int)))]) (fun k (_ : Unit) => []) (fun k (_ : Unit) => True) (()) ?_
  conv => whnf
  refine ⟨(by first | rfl | (simp; done) | (simp; rfl)), (by trivial), ?_, ?_⟩
  · intro k _ hk _
    have hv := hs.each _ (List.getElem_mem hk)
    have hvl := hv.len
    have hA := askK_succ s L (skipB down up) hk
    have hlt := askK_lt s L (skipB down up) k
    generalize askK s L (skipB down up) k = st at hA hlt
    conv => whnf
    repeat' (first
      | (refine Split.mk (fun h => ?_) (fun h => ?_) <;> (try simp only [decide_eq_true_eq, decide_eq_false_iff_not, Bool.not_eq_true', Bool.not_eq_false', beq_iff_eq, beq_eq_false_iff_ne, bne_iff_ne, bne_eq_false_iff_eq] at h) <;> (first | (exfalso; first | omega | exact h trivial) | (conv => whnf)))
      | (refine CondG.mk (fun h => ?_) (fun h => ?_) <;> (try simp only [decide_eq_true_eq, decide_eq_false_iff_not, Bool.not_eq_true', Bool.not_eq_false', beq_iff_eq, beq_eq_false_iff_ne, bne_iff_ne, bne_eq_false_iff_eq] at h) <;> (first | (exfalso; first | omega | exact h trivial) | (conv => whnf)))
      | (refine CallX.mk _ _ (by first | exact fHas_pc hd.rise (by omega) _ | exact fHas_pc hu.rise (by omega) _) ?_; conv => whnf)
      | (refine CallG.mk _ _ (by first | exact fHas_pc hd.rise (by omega) _ | exact fHas_pc hu.rise (by omega) _) ?_; conv => whnf)
      | (refine Ask.mk (by first | omega | (unfold roomOK; simp [cutRows]; done) | (unfold roomOK; simp [cutRows]; omega) | (simp [cutRows]; done) | (simp [cutRows]; omega)) ?_; conv => whnf)
      | (refine AppG.mk (by first | omega | (unfold roomOK; simp [cutRows]; done) | (unfold roomOK; simp [cutRows]; omega) | (simp [cutRows]; done) | (simp [cutRows]; omega)) ?_; conv => whnf)
      | (refine SliceG.fr ?_; conv => whnf)
      | (refine idx_at _ (by with_reducible rfl) (by first | assumption | omega) ?_; conv => whnf)
      | ((with_reducible refine row_map (by first | assumption | omega) ?_); conv => whnf)
      | ((with_reducible refine row_set (by first | assumption | omega | (simp only [List.length_set]; omega) | (simp; omega)) ?_); conv => whnf)
      | fail)
    · have hsk : skipB down up s[k] = true := by unfold skipB; simp_all
      exact count_next () hk (by rw [wrap_succ hk (by omega), hA, if_pos hsk]; rfl) trivial
    · have hsk : skipB down up s[k] = true := by unfold skipB; simp_all
      exact count_next () hk (by rw [wrap_succ hk (by omega), hA, if_pos hsk]; rfl) trivial
    have hsk : ¬ skipB down up s[k] = true := by unfold skipB; simp_all
    rw [if_neg hsk] at hA
    refine loop_for (L.length) [] [0, 1, 2, 10, 12, 13, 14, 15, 16, 30, 31, 32, 47, 48, 49] (fun j (_ : Unit) => [(16, .c (.int .i64 ((hitN (L.take j) s[k] : Nat) : Int))), (49, .c (.int .i64 (j : Int)))]) (fun j (_ : Unit) => []) (fun j (_ : Unit) => True) (()) ?_
    conv => whnf
    refine ⟨(by first | rfl | (simp; done) | (simp; rfl)), (by trivial), ?_, ?_⟩
    · intro j _ hj _
      have hq := k4 _ (List.getElem_mem hj)
      have hH := hitN_succ L s[k] hj
      have hHl := hitN_le (L.take j) s[k]
      have hjl : (L.take j).length = j := by rw [List.length_take]; omega
      conv => whnf
      repeat' (first
        | (refine Split.mk (fun h => ?_) (fun h => ?_) <;> (try simp only [decide_eq_true_eq, decide_eq_false_iff_not, Bool.not_eq_true', Bool.not_eq_false', beq_iff_eq, beq_eq_false_iff_ne, bne_iff_ne, bne_eq_false_iff_eq] at h) <;> (first | (exfalso; first | omega | exact h trivial) | (conv => whnf)))
        | (refine CondG.mk (fun h => ?_) (fun h => ?_) <;> (try simp only [decide_eq_true_eq, decide_eq_false_iff_not, Bool.not_eq_true', Bool.not_eq_false', beq_iff_eq, beq_eq_false_iff_ne, bne_iff_ne, bne_eq_false_iff_eq] at h) <;> (first | (exfalso; first | omega | exact h trivial) | (conv => whnf)))
        | (refine CallX.mk _ _ (by first | exact fMeets_pc L[j] hq.2 hv.rise (by omega)) ?_; conv => whnf)
        | (refine CallG.mk _ _ (by first | exact fMeets_pc L[j] hq.2 hv.rise (by omega)) ?_; conv => whnf)
        | (refine Ask.mk (by first | omega | (unfold roomOK; simp [cutRows]; done) | (unfold roomOK; simp [cutRows]; omega) | (simp [cutRows]; done) | (simp [cutRows]; omega)) ?_; conv => whnf)
        | (refine AppG.mk (by first | omega | (unfold roomOK; simp [cutRows]; done) | (unfold roomOK; simp [cutRows]; omega) | (simp [cutRows]; done) | (simp [cutRows]; omega)) ?_; conv => whnf)
        | (refine SliceG.fr ?_; conv => whnf)
        | (refine idx_at _ (by with_reducible rfl) (by first | assumption | omega) ?_; conv => whnf)
        | ((with_reducible refine row_map (by first | assumption | omega) ?_); conv => whnf)
        | ((with_reducible refine row_set (by first | assumption | omega | (simp only [List.length_set]; omega) | (simp; omega)) ?_); conv => whnf)
        | fail)
      · have ha : (L[j].any fun z => decide (z ∈ s[k].els)) = true := by assumption
        rw [if_pos ha] at hH
        exact count_next () hj (by rw [wrap_succ hj (by omega), hH, show IntKind.i64.wrap (((hitN (L.take j) s[k] : Nat) : Int) + 1) = ((hitN (L.take j) s[k] + 1 : Nat) : Int) by rw [wrap_in (by omega) (by omega)]; rfl]; rfl) trivial
      · have ha : ¬ (L[j].any fun z => decide (z ∈ s[k].els)) = true := by simp_all
        rw [if_neg ha] at hH
        exact count_next () hj (by rw [wrap_succ hj (by omega), hH]; rfl) trivial
    · intro _ _
      rw [List.take_length]
      have hn := hitN_le L s[k]
      have hwI : IntKind.i64.wrap ((L.length : Int) - (hitN L s[k] : Int)) = ((L.length - hitN L s[k] : Nat) : Int) := by rw [wrap_in (by omega) (by omega)]; omega
      have hwd : worstN L s[k] = max (hitN L s[k]) (L.length - hitN L s[k]) := rfl
      rcases st with _ | ⟨b, le⟩
      · rw [show bestI none = -1 from rfl, show leastI none = 0 from rfl]
        conv => whnf
        repeat' (first
          | (refine Split.mk (fun h => ?_) (fun h => ?_) <;> (try simp only [decide_eq_true_eq, decide_eq_false_iff_not, Bool.not_eq_true', Bool.not_eq_false', beq_iff_eq, beq_eq_false_iff_ne, bne_iff_ne, bne_eq_false_iff_eq] at h) <;> (first | (exfalso; first | omega | exact h trivial) | (conv => whnf)))
          | (refine CondG.mk (fun h => ?_) (fun h => ?_) <;> (try simp only [decide_eq_true_eq, decide_eq_false_iff_not, Bool.not_eq_true', Bool.not_eq_false', beq_iff_eq, beq_eq_false_iff_ne, bne_iff_ne, bne_eq_false_iff_eq] at h) <;> (first | (exfalso; first | omega | exact h trivial) | (conv => whnf)))
          | (refine Ask.mk (by first | omega | (unfold roomOK; simp [cutRows]; done) | (unfold roomOK; simp [cutRows]; omega) | (simp [cutRows]; done) | (simp [cutRows]; omega)) ?_; conv => whnf)
          | (refine AppG.mk (by first | omega | (unfold roomOK; simp [cutRows]; done) | (unfold roomOK; simp [cutRows]; omega) | (simp [cutRows]; done) | (simp [cutRows]; omega)) ?_; conv => whnf)
          | (refine SliceG.fr ?_; conv => whnf)
          | (refine idx_at _ (by with_reducible rfl) (by first | assumption | omega) ?_; conv => whnf)
          | ((with_reducible refine row_map (by first | assumption | omega) ?_); conv => whnf)
          | ((with_reducible refine row_set (by first | assumption | omega | (simp only [List.length_set]; omega) | (simp; omega)) ?_); conv => whnf)
          | fail)
        all_goals first | (exfalso; omega) | skip
        all_goals simp only [worst_if k2] at *
        · have hI : askIf s L s[k] none = true := by simp only [askIf, decide_eq_true_eq]; omega
          exact count_next () hk (by rw [wrap_succ hk (by omega), hA, if_pos hI]; rfl) trivial
        · have hI : ¬ askIf s L s[k] none = true := by simp only [askIf, decide_eq_true_eq]; omega
          exact count_next () hk (by rw [wrap_succ hk (by omega), hA, if_neg hI]; rfl) trivial
      · obtain ⟨g1, g2, g3⟩ := hlt b le rfl
        rw [show bestI (some (b, le)) = ((b : Nat) : Int) from rfl, show leastI (some (b, le)) = ((le : Nat) : Int) from rfl]
        conv => whnf
        repeat' (first
          | (refine Split.mk (fun h => ?_) (fun h => ?_) <;> (try simp only [decide_eq_true_eq, decide_eq_false_iff_not, Bool.not_eq_true', Bool.not_eq_false', beq_iff_eq, beq_eq_false_iff_ne, bne_iff_ne, bne_eq_false_iff_eq] at h) <;> (first | (exfalso; first | omega | exact h trivial) | (conv => whnf)))
          | (refine CondG.mk (fun h => ?_) (fun h => ?_) <;> (try simp only [decide_eq_true_eq, decide_eq_false_iff_not, Bool.not_eq_true', Bool.not_eq_false', beq_iff_eq, beq_eq_false_iff_ne, bne_iff_ne, bne_eq_false_iff_eq] at h) <;> (first | (exfalso; first | omega | exact h trivial) | (conv => whnf)))
          | (refine Ask.mk (by first | omega | (unfold roomOK; simp [cutRows]; done) | (unfold roomOK; simp [cutRows]; omega) | (simp [cutRows]; done) | (simp [cutRows]; omega)) ?_; conv => whnf)
          | (refine AppG.mk (by first | omega | (unfold roomOK; simp [cutRows]; done) | (unfold roomOK; simp [cutRows]; omega) | (simp [cutRows]; done) | (simp [cutRows]; omega)) ?_; conv => whnf)
          | (refine SliceG.fr ?_; conv => whnf)
          | (refine idx_at _ (by with_reducible rfl) (by first | assumption | omega) ?_; conv => whnf)
          | ((with_reducible refine row_map (by first | assumption | omega) ?_); conv => whnf)
          | ((with_reducible refine row_set (by first | assumption | omega | (simp only [List.length_set]; omega) | (simp; omega)) ?_); conv => whnf)
          | ((refine idx_map b g2 rfl ?_); conv => whnf)
          | fail)
        all_goals first | (exfalso; omega) | skip
        all_goals simp only [worst_if k2] at *
        all_goals
          have hC : ((s[b]?).map Sv.cust).getD 0 = s[b].cust := by rw [List.getElem?_eq_getElem g2]; rfl
        · have hI : askIf s L s[k] (some (b, le)) = true := by simp only [askIf, hC, Bool.and_eq_true, Bool.or_eq_true, decide_eq_true_eq]; omega
          exact count_next () hk (by rw [wrap_succ hk (by omega), hA, if_pos hI]; rfl) trivial
        · have hI : askIf s L s[k] (some (b, le)) = true := by simp only [askIf, hC, Bool.and_eq_true, Bool.or_eq_true, decide_eq_true_eq]; omega
          exact count_next () hk (by rw [wrap_succ hk (by omega), hA, if_pos hI]; rfl) trivial
        all_goals
          have hI : ¬ askIf s L s[k] (some (b, le)) = true := by simp only [askIf, hC, Bool.and_eq_true, Bool.or_eq_true, decide_eq_true_eq]; omega
          exact count_next () hk (by rw [wrap_succ hk (by omega), hA, if_neg hI]; rfl) trivial
  · intro _ _
    have hV : askV s L down up = askK s L (skipB down up) s.length := rfl
    rw [hV]
    have hlt := askK_lt s L (skipB down up) s.length
    generalize askK s L (skipB down up) s.length = st at hlt
    rcases st with _ | ⟨b, le⟩
    · rw [show bestI none = -1 from rfl, show leastI none = 0 from rfl]
      conv => whnf
      repeat' (first
        | (refine Split.mk (fun h => ?_) (fun h => ?_) <;> (try simp only [decide_eq_true_eq, decide_eq_false_iff_not, Bool.not_eq_true', Bool.not_eq_false', beq_iff_eq, beq_eq_false_iff_ne, bne_iff_ne, bne_eq_false_iff_eq] at h) <;> (first | (exfalso; first | omega | exact h trivial) | (conv => whnf)))
        | (refine CondG.mk (fun h => ?_) (fun h => ?_) <;> (try simp only [decide_eq_true_eq, decide_eq_false_iff_not, Bool.not_eq_true', Bool.not_eq_false', beq_iff_eq, beq_eq_false_iff_ne, bne_iff_ne, bne_eq_false_iff_eq] at h) <;> (first | (exfalso; first | omega | exact h trivial) | (conv => whnf)))
        | (refine Ask.mk (by first | omega | (unfold roomOK; simp [cutRows]; done) | (unfold roomOK; simp [cutRows]; omega) | (simp [cutRows]; done) | (simp [cutRows]; omega)) ?_; conv => whnf)
        | (refine AppG.mk (by first | omega | (unfold roomOK; simp [cutRows]; done) | (unfold roomOK; simp [cutRows]; omega) | (simp [cutRows]; done) | (simp [cutRows]; omega)) ?_; conv => whnf)
        | (refine SliceG.fr ?_; conv => whnf)
        | (refine idx_at _ (by with_reducible rfl) (by first | assumption | omega) ?_; conv => whnf)
        | ((with_reducible refine row_map (by first | assumption | omega) ?_); conv => whnf)
        | ((with_reducible refine row_set (by first | assumption | omega | (simp only [List.length_set]; omega) | (simp; omega)) ?_); conv => whnf)
        | fail)
      all_goals first | exact .mk ⟨rfl, rfl⟩ | (exfalso; omega)
    · obtain ⟨g1, g2, g3⟩ := hlt b le rfl
      have hK : askKey s (some (b, le)) = s[b].key := by unfold askKey; simp only; rw [List.getElem?_eq_getElem g2]; rfl
      rw [show bestI (some (b, le)) = ((b : Nat) : Int) from rfl, show leastI (some (b, le)) = ((le : Nat) : Int) from rfl, hK]
      conv => whnf
      repeat' (first
        | (refine Split.mk (fun h => ?_) (fun h => ?_) <;> (try simp only [decide_eq_true_eq, decide_eq_false_iff_not, Bool.not_eq_true', Bool.not_eq_false', beq_iff_eq, beq_eq_false_iff_ne, bne_iff_ne, bne_eq_false_iff_eq] at h) <;> (first | (exfalso; first | omega | exact h trivial) | (conv => whnf)))
        | (refine CondG.mk (fun h => ?_) (fun h => ?_) <;> (try simp only [decide_eq_true_eq, decide_eq_false_iff_not, Bool.not_eq_true', Bool.not_eq_false', beq_iff_eq, beq_eq_false_iff_ne, bne_iff_ne, bne_eq_false_iff_eq] at h) <;> (first | (exfalso; first | omega | exact h trivial) | (conv => whnf)))
        | (refine Ask.mk (by first | omega | (unfold roomOK; simp [cutRows]; done) | (unfold roomOK; simp [cutRows]; omega) | (simp [cutRows]; done) | (simp [cutRows]; omega)) ?_; conv => whnf)
        | (refine AppG.mk (by first | omega | (unfold roomOK; simp [cutRows]; done) | (unfold roomOK; simp [cutRows]; omega) | (simp [cutRows]; done) | (simp [cutRows]; omega)) ?_; conv => whnf)
        | (refine SliceG.fr ?_; conv => whnf)
        | (refine idx_at _ (by with_reducible rfl) (by first | assumption | omega) ?_; conv => whnf)
        | ((with_reducible refine row_map (by first | assumption | omega) ?_); conv => whnf)
        | ((with_reducible refine row_set (by first | assumption | omega | (simp only [List.length_set]; omega) | (simp; omega)) ?_); conv => whnf)
        | ((refine idx_map b g2 rfl ?_); conv => whnf)
        | fail)
      all_goals first | exact .mk ⟨rfl, rfl⟩ | (exfalso; omega)
end Go.Proofs.YtameoookmgkmfaaGreat

/- Ask with an error. -/
namespace Go.Proofs.YtameoookmgkmfaaGreat
set_option linter.unusedVariables false
set_option linter.unusedSimpArgs false
open Abs

set_option maxRecDepth 100000 in
set_option maxHeartbeats 4000000 in
theorem fAskE_pc (s : List Sv) (hx : ∀ x ∈ s, x.els.length ≤ 1000000) (down up : List ByteArray) (e : Int)
    (he : e = if seenErr s down up = 0 then explE s (susV s down up) down else seenErr s down up) (h0 : e ≠ 0) :
    PCp 23 [.c (.lst 3 (s.map encSv)), .c (.lst 1 (down.map encS)), .c (.lst 1 (up.map encS))] [] (.tup [.c (.str ⟨#[]⟩), .c (.int .i64 0), .c (.bool false), .c (.int .i64 e)]) [] := by
  have hp := fExpls_pc s hx down up
  rw [← he] at hp
  refine fn_sound (mt := mts) tab_fits tab_mixed Tryz.func23 (by rfl) (by kernel_rfl) (by kernel_rfl) Tryz.results23 (Nat.le_of_ble_eq_true (by kernel_rfl)) ?_
  conv => whnf
  repeat' (first
    | (refine Split.mk (fun h => ?_) (fun h => ?_) <;> (try simp only [decide_eq_true_eq, decide_eq_false_iff_not, Bool.not_eq_true', Bool.not_eq_false', beq_iff_eq, beq_eq_false_iff_ne, bne_iff_ne, bne_eq_false_iff_eq] at h) <;> (first | (exfalso; first | omega | exact h trivial) | (conv => whnf)))
    | (refine CondG.mk (fun h => ?_) (fun h => ?_) <;> (try simp only [decide_eq_true_eq, decide_eq_false_iff_not, Bool.not_eq_true', Bool.not_eq_false', beq_iff_eq, beq_eq_false_iff_ne, bne_iff_ne, bne_eq_false_iff_eq] at h) <;> (first | (exfalso; first | omega | exact h trivial) | (conv => whnf)))
    | (refine CallX.mk _ _ (by first | exact hp) ?_; conv => whnf)
    | (refine CallG.mk _ _ (by first | exact hp) ?_; conv => whnf)
    | (refine Ask.mk (by first | omega | (unfold roomOK; simp [cutRows]; done) | (unfold roomOK; simp [cutRows]; omega) | (simp [cutRows]; done) | (simp [cutRows]; omega)) ?_; conv => whnf)
    | (refine AppG.mk (by first | omega | (unfold roomOK; simp [cutRows]; done) | (unfold roomOK; simp [cutRows]; omega) | (simp [cutRows]; done) | (simp [cutRows]; omega)) ?_; conv => whnf)
    | (refine SliceG.fr ?_; conv => whnf)
    | (refine idx_at _ (by with_reducible rfl) (by first | assumption | omega) ?_; conv => whnf)
    | ((with_reducible refine row_map (by first | assumption | omega) ?_); conv => whnf)
    | ((with_reducible refine row_set (by first | assumption | omega | (simp only [List.length_set]; omega) | (simp; omega)) ?_); conv => whnf)
    | fail)
  all_goals first | exact .mk ⟨rfl, rfl⟩ | (exfalso; omega)
end Go.Proofs.YtameoookmgkmfaaGreat

/- The document: which service needs one of a list. -/
namespace Go.Proofs.YtameoookmgkmfaaGreat
set_option linter.unusedVariables false
set_option linter.unusedSimpArgs false
open Abs

set_option maxRecDepth 100000 in
set_option maxHeartbeats 4000000 in
theorem ixSvK_pc (key : ByteArray) (g : Nat) (p : Sv → Bool) (l : List Sv) (hl : l.length ≤ 1000000) (hg : ∀ x ∈ l, PCp g [.agg (encSv x), .c (.ptr 0 0)] [.box [.str key]] (.c (.bool (p x))) [.box [.str key]]) : PCp 106 [.c (.lst 3 (l.map encSv)), .c (.fn g [.ptr 0 0])] [.box [.str key]] (.c (.int .i64 (idxP p l))) [.box [.str key]] := by
  have hlm : (l.map encSv).length = l.length := List.length_map ..
  refine fn_sound (mt := mts) tab_fits tab_mixed Tryz.func106 (by rfl) (by kernel_rfl) (by kernel_rfl) Tryz.results106 (Nat.le_of_ble_eq_true (by kernel_rfl)) ?_
  conv => whnf
  refine loop_count (l.length) [] [0, 1, 7, 8] (fun k (_ : Unit) => ⟨[(0, .c (.lst 3 (l.map encSv))), (1, .c (.fn g [.ptr 0 0])), (7, .c (.int .i64 (l.map encSv).length)), (8, .c (.int .i64 k))], [(0, .box [.str key])], 1⟩) (fun k (_ : Unit) => ∀ i (hi : i < l.length), i < k → p l[i] = false) (()) ?_ ?_ ?_
  · conv => whnf
    exact ⟨rfl, by intro i hi h; omega⟩
  · intro k _ hk hi
    conv => whnf
    repeat' (first
      | (refine Split.mk (fun h => ?_) (fun h => ?_) <;> (try simp only [decide_eq_true_eq, decide_eq_false_iff_not, Bool.not_eq_true', Bool.not_eq_false', beq_iff_eq, beq_eq_false_iff_ne, bne_iff_ne, bne_eq_false_iff_eq] at h) <;> (first | (exfalso; first | omega | exact h trivial) | (conv => whnf)))
      | (refine CondG.mk (fun h => ?_) (fun h => ?_) <;> (try simp only [decide_eq_true_eq, decide_eq_false_iff_not, Bool.not_eq_true', Bool.not_eq_false', beq_iff_eq, beq_eq_false_iff_ne, bne_iff_ne, bne_eq_false_iff_eq] at h) <;> (first | (exfalso; first | omega | exact h trivial) | (conv => whnf)))
      | (refine CallX.mk _ _ (by first | exact hg l[k] (List.getElem_mem hk)) ?_; conv => whnf)
      | (refine CallG.mk _ _ (by first | exact hg l[k] (List.getElem_mem hk)) ?_; conv => whnf)
      | (refine Ask.mk (by first | omega | (unfold roomOK; simp [cutRows]; done) | (unfold roomOK; simp [cutRows]; omega) | (simp [cutRows]; done) | (simp [cutRows]; omega)) ?_; conv => whnf)
      | (refine AppG.mk (by first | omega | (unfold roomOK; simp [cutRows]; done) | (unfold roomOK; simp [cutRows]; omega) | (simp [cutRows]; done) | (simp [cutRows]; omega)) ?_; conv => whnf)
      | (refine SliceG.fr ?_; conv => whnf)
      | (refine idx_at _ (by with_reducible rfl) (by first | assumption | omega) ?_; conv => whnf)
      | ((with_reducible refine row_map (by first | assumption | omega) ?_); conv => whnf)
      | ((with_reducible refine row_set (by first | assumption | omega | (simp only [List.length_set]; omega) | (simp; omega)) ?_); conv => whnf)
      | fail)
    · exact .mk ⟨by rw [idxP_hit hk (fun i hi' => hi i (by omega) hi') h]; rfl, rfl⟩
    · refine count_next () hk (by rw [wrap_succ hk (by omega)]; rfl) ?_
      exact all_succ' hi h
  · intro _ hi
    conv => whnf
    repeat' (first
      | (refine Split.mk (fun h => ?_) (fun h => ?_) <;> (try simp only [decide_eq_true_eq, decide_eq_false_iff_not, Bool.not_eq_true', Bool.not_eq_false', beq_iff_eq, beq_eq_false_iff_ne] at h) <;> (first | (exfalso; first | omega | exact h trivial) | (conv => whnf)))
      | (refine CondG.mk (fun h => ?_) (fun h => ?_) <;> (try simp only [decide_eq_true_eq, decide_eq_false_iff_not, Bool.not_eq_true', Bool.not_eq_false', beq_iff_eq, beq_eq_false_iff_ne] at h) <;> (first | (exfalso; first | omega | exact h trivial) | (conv => whnf)))
      | (refine Ask.mk (by first | omega | (unfold roomOK; simp [cutRows]; done) | (unfold roomOK; simp [cutRows]; omega)) ?_; conv => whnf)
      | (refine AppG.mk (by first | omega | (unfold roomOK; simp [cutRows]; done) | (unfold roomOK; simp [cutRows]; omega)) ?_; conv => whnf)
      | (refine SliceG.fr ?_; conv => whnf)
      | fail)
    exact .mk ⟨by rw [idxP_miss (fun i h => hi i h h)]; rfl, rfl⟩
set_option maxRecDepth 100000 in
set_option maxHeartbeats 4000000 in
theorem rAt1_pc (key : ByteArray) (x : Sv) : PCp 107 [.agg (encSv x), .c (.ptr 0 0)] [.box [.str key]] (.c (.bool (decide (x.key = key)))) [.box [.str key]] := by
  refine fn_sound (mt := mts) tab_fits tab_mixed Tryz.func107 (by rfl) (by kernel_rfl) (by kernel_rfl) Tryz.results107 (Nat.le_of_ble_eq_true (by kernel_rfl)) ?_
  conv => whnf
  repeat' (first
    | (refine Split.mk (fun h => ?_) (fun h => ?_) <;> (try simp only [decide_eq_true_eq, decide_eq_false_iff_not, Bool.not_eq_true', Bool.not_eq_false', beq_iff_eq, beq_eq_false_iff_ne, bne_iff_ne, bne_eq_false_iff_eq] at h) <;> (first | (exfalso; first | omega | exact h trivial) | (conv => whnf)))
    | (refine CondG.mk (fun h => ?_) (fun h => ?_) <;> (try simp only [decide_eq_true_eq, decide_eq_false_iff_not, Bool.not_eq_true', Bool.not_eq_false', beq_iff_eq, beq_eq_false_iff_ne, bne_iff_ne, bne_eq_false_iff_eq] at h) <;> (first | (exfalso; first | omega | exact h trivial) | (conv => whnf)))
    | (refine Ask.mk (by first | omega | (unfold roomOK; simp [cutRows]; done) | (unfold roomOK; simp [cutRows]; omega) | (simp [cutRows]; done) | (simp [cutRows]; omega)) ?_; conv => whnf)
    | (refine AppG.mk (by first | omega | (unfold roomOK; simp [cutRows]; done) | (unfold roomOK; simp [cutRows]; omega) | (simp [cutRows]; done) | (simp [cutRows]; omega)) ?_; conv => whnf)
    | (refine SliceG.fr ?_; conv => whnf)
    | (refine idx_at _ (by with_reducible rfl) (by first | assumption | omega) ?_; conv => whnf)
    | ((with_reducible refine row_map (by first | assumption | omega) ?_); conv => whnf)
    | ((with_reducible refine row_set (by first | assumption | omega | (simp only [List.length_set]; omega) | (simp; omega)) ?_); conv => whnf)
    | fail)
  have hb : (x.key.toList == key.toList) = decide (x.key = key) := by rw [Bool.eq_iff_iff, eqSb, decide_eq_true_eq]
  rw [hb]
  exact .mk ⟨rfl, rfl⟩
set_option maxRecDepth 100000 in
set_option maxHeartbeats 4000000 in
theorem rAt_pc (s : List Sv) (hs : SvOk s) (k : ByteArray) (hk : hasSv s k = true) : PCp 86 [.c (.lst 3 (s.map encSv)), .c (.str k)] [] (.tup [.agg (encSv (svG s k)), .c (.bool true)]) [] := by
  have hsl := hs.len
  obtain ⟨x, hx, hxk⟩ := hasSv_iff.1 hk
  rcases idxP_or (fun x : Sv => decide (x.key = k)) s with ⟨_, h2⟩ | ⟨i, hi, h3, h4, _⟩
  · have := h2 x hx; simp [hxk] at this
  have h5 : s[i] = svG s k := by
    have h6 : s[i].key = k := by simpa using h4
    rw [← h6]; exact (svG_mem hs.rise (List.getElem_mem hi)).symm
  have hc := ixSvK_pc k 107 (fun x : Sv => decide (x.key = k)) s (by omega) (fun x _ => rAt1_pc k x)
  rw [h3] at hc
  refine fn_sound (mt := mts) tab_fits tab_mixed Tryz.func86 (by rfl) (by kernel_rfl) (by kernel_rfl) Tryz.results86 (Nat.le_of_ble_eq_true (by kernel_rfl)) ?_
  conv => whnf
  repeat' (first
    | (refine Split.mk (fun h => ?_) (fun h => ?_) <;> (try simp only [decide_eq_true_eq, decide_eq_false_iff_not, Bool.not_eq_true', Bool.not_eq_false', beq_iff_eq, beq_eq_false_iff_ne, bne_iff_ne, bne_eq_false_iff_eq] at h) <;> (first | (exfalso; first | omega | exact h trivial) | (conv => whnf)))
    | (refine CondG.mk (fun h => ?_) (fun h => ?_) <;> (try simp only [decide_eq_true_eq, decide_eq_false_iff_not, Bool.not_eq_true', Bool.not_eq_false', beq_iff_eq, beq_eq_false_iff_ne, bne_iff_ne, bne_eq_false_iff_eq] at h) <;> (first | (exfalso; first | omega | exact h trivial) | (conv => whnf)))
    | (refine CallX.mk _ _ (by first | exact hc) ?_; conv => whnf)
    | (refine CallG.mk _ _ (by first | exact hc) ?_; conv => whnf)
    | (refine Ask.mk (by first | omega | (unfold roomOK; simp [cutRows]; done) | (unfold roomOK; simp [cutRows]; omega) | (simp [cutRows]; done) | (simp [cutRows]; omega)) ?_; conv => whnf)
    | (refine AppG.mk (by first | omega | (unfold roomOK; simp [cutRows]; done) | (unfold roomOK; simp [cutRows]; omega) | (simp [cutRows]; done) | (simp [cutRows]; omega)) ?_; conv => whnf)
    | (refine SliceG.fr ?_; conv => whnf)
    | (refine idx_at _ (by with_reducible rfl) (by first | assumption | omega) ?_; conv => whnf)
    | ((with_reducible refine row_map (by first | assumption | omega) ?_); conv => whnf)
    | ((with_reducible refine row_set (by first | assumption | omega | (simp only [List.length_set]; omega) | (simp; omega)) ?_); conv => whnf)
    | ((refine idx_map i hi rfl ?_); conv => whnf)
    | fail)
  all_goals first | (exfalso; omega) | skip
  rw [h5]
  exact .mk ⟨rfl, rfl⟩
set_option maxRecDepth 100000 in
set_option maxHeartbeats 4000000 in
theorem rNeeds1_pc (l : List ByteArray) (hl : l.length ≤ 1000000) (x : ByteArray) : PCp 89 [.c (.str x), .c (.ptr 0 0)] [.box [.lst 1 (l.map encS)]] (.c (.bool (decide (x ∈ l)))) [.box [.lst 1 (l.map encS)]] := by
  refine fn_sound (mt := mts) tab_fits tab_mixed Tryz.func89 (by rfl) (by kernel_rfl) (by kernel_rfl) Tryz.results89 (Nat.le_of_ble_eq_true (by kernel_rfl)) ?_
  conv => whnf
  repeat' (first
    | (refine Split.mk (fun h => ?_) (fun h => ?_) <;> (try simp only [decide_eq_true_eq, decide_eq_false_iff_not, Bool.not_eq_true', Bool.not_eq_false', beq_iff_eq, beq_eq_false_iff_ne, bne_iff_ne, bne_eq_false_iff_eq] at h) <;> (first | (exfalso; first | omega | exact h trivial) | (conv => whnf)))
    | (refine CondG.mk (fun h => ?_) (fun h => ?_) <;> (try simp only [decide_eq_true_eq, decide_eq_false_iff_not, Bool.not_eq_true', Bool.not_eq_false', beq_iff_eq, beq_eq_false_iff_ne, bne_iff_ne, bne_eq_false_iff_eq] at h) <;> (first | (exfalso; first | omega | exact h trivial) | (conv => whnf)))
    | (refine CallX.mk _ _ (by first | exact containsS_pc x l hl) ?_; conv => whnf)
    | (refine CallG.mk _ _ (by first | exact containsS_pc x l hl) ?_; conv => whnf)
    | (refine Ask.mk (by first | omega | (unfold roomOK; simp [cutRows]; done) | (unfold roomOK; simp [cutRows]; omega) | (simp [cutRows]; done) | (simp [cutRows]; omega)) ?_; conv => whnf)
    | (refine AppG.mk (by first | omega | (unfold roomOK; simp [cutRows]; done) | (unfold roomOK; simp [cutRows]; omega) | (simp [cutRows]; done) | (simp [cutRows]; omega)) ?_; conv => whnf)
    | (refine SliceG.fr ?_; conv => whnf)
    | (refine idx_at _ (by with_reducible rfl) (by first | assumption | omega) ?_; conv => whnf)
    | ((with_reducible refine row_map (by first | assumption | omega) ?_); conv => whnf)
    | ((with_reducible refine row_set (by first | assumption | omega | (simp only [List.length_set]; omega) | (simp; omega)) ?_); conv => whnf)
    | fail)
  exact .mk ⟨rfl, rfl⟩
def needB (s : List Sv) (l : List ByteArray) (k : ByteArray) : Bool := (svG s k).els.any fun x => decide (x ∈ l)
set_option maxRecDepth 100000 in
set_option maxHeartbeats 4000000 in
theorem rNeeds_pc (s : List Sv) (hs : SvOk s) (k : ByteArray) (hk : hasSv s k = true) (l : List ByteArray) (hl : l.length ≤ 1000000) : PCp 52 [.c (.lst 3 (s.map encSv)), .c (.str k), .c (.lst 1 (l.map encS))] [] (.c (.bool (needB s l k))) [] := by
  have he : (svG s k).els.length ≤ 100 := by
    obtain ⟨x, hx, hxk⟩ := hasSv_iff.1 hk
    rw [← hxk, svG_mem hs.rise hx]; exact (hs.each x hx).len
  refine fn_sound (mt := mts) tab_fits tab_mixed Tryz.func52 (by rfl) (by kernel_rfl) (by kernel_rfl) Tryz.results52 (Nat.le_of_ble_eq_true (by kernel_rfl)) ?_
  conv => whnf
  repeat' (first
    | (refine Split.mk (fun h => ?_) (fun h => ?_) <;> (try simp only [decide_eq_true_eq, decide_eq_false_iff_not, Bool.not_eq_true', Bool.not_eq_false', beq_iff_eq, beq_eq_false_iff_ne, bne_iff_ne, bne_eq_false_iff_eq] at h) <;> (first | (exfalso; first | omega | exact h trivial) | (conv => whnf)))
    | (refine CondG.mk (fun h => ?_) (fun h => ?_) <;> (try simp only [decide_eq_true_eq, decide_eq_false_iff_not, Bool.not_eq_true', Bool.not_eq_false', beq_iff_eq, beq_eq_false_iff_ne, bne_iff_ne, bne_eq_false_iff_eq] at h) <;> (first | (exfalso; first | omega | exact h trivial) | (conv => whnf)))
    | (refine CallX.mk _ _ (by first | exact rAt_pc s hs k hk | exact ixUC_pc (l.map encS) 89 (fun x => decide (x ∈ l)) (svG s k).els (by omega) (fun x _ => rNeeds1_pc l hl x)) ?_; conv => whnf)
    | (refine CallG.mk _ _ (by first | exact rAt_pc s hs k hk | exact ixUC_pc (l.map encS) 89 (fun x => decide (x ∈ l)) (svG s k).els (by omega) (fun x _ => rNeeds1_pc l hl x)) ?_; conv => whnf)
    | (refine Ask.mk (by first | omega | (unfold roomOK; simp [cutRows]; done) | (unfold roomOK; simp [cutRows]; omega) | (simp [cutRows]; done) | (simp [cutRows]; omega)) ?_; conv => whnf)
    | (refine AppG.mk (by first | omega | (unfold roomOK; simp [cutRows]; done) | (unfold roomOK; simp [cutRows]; omega) | (simp [cutRows]; done) | (simp [cutRows]; omega)) ?_; conv => whnf)
    | (refine SliceG.fr ?_; conv => whnf)
    | (refine idx_at _ (by with_reducible rfl) (by first | assumption | omega) ?_; conv => whnf)
    | ((with_reducible refine row_map (by first | assumption | omega) ?_); conv => whnf)
    | ((with_reducible refine row_set (by first | assumption | omega | (simp only [List.length_set]; omega) | (simp; omega)) ?_); conv => whnf)
    | fail)
  all_goals exact finb (by unfold needB; simp_all)
theorem needB_eq (s : List Sv) (l : List ByteArray) (k : ByteArray) : needB s l k = needsB s l k := by
  unfold needB needsB
  rw [Bool.eq_iff_iff, List.any_eq_true, List.any_eq_true]
  constructor
  · rintro ⟨x, h1, h2⟩; exact ⟨x, by simpa using h2, by simpa using h1⟩
  · rintro ⟨x, h1, h2⟩; exact ⟨x, by simpa using h2, by simpa using h1⟩
end Go.Proofs.YtameoookmgkmfaaGreat

/- The document: elements of the services that a captured list holds. -/
namespace Go.Proofs.YtameoookmgkmfaaGreat
set_option linter.unusedVariables false
set_option linter.unusedSimpArgs false
open Abs

set_option maxRecDepth 100000 in
set_option maxHeartbeats 4000000 in
theorem rElsC_pc (cs : List (List V)) (g : Nat) (p : ByteArray → Bool) (hg : ∀ k : ByteArray, PCp g [.c (.str k), .c (.ptr 0 0)] [.box [.lst 1 cs]] (.c (.bool (p k))) [.box [.lst 1 cs]]) (s : List Sv) (hl : s.length ≤ 1000) (hx : ∀ x ∈ s, x.els.length ≤ 1000) :
    PCp 47 [.c (.lst 3 (s.map encSv)), .c (.fn g [.ptr 0 0])] [.box [.lst 1 cs]] (.c (.row 1)) [.box [.lst 1 cs], .row 9 1 ((elsV s p).map encS)] := by
  have hsm : (s.map encSv).length = s.length := List.length_map ..
  refine fn_sound (mt := mts) tab_fits tab_mixed Tryz.func47 (by rfl) (by kernel_rfl) (by kernel_rfl) Tryz.results47 (Nat.le_of_ble_eq_true (by kernel_rfl)) ?_
  conv => whnf
  refine loop_for (s.length) [.sl 5 9 1] [1, 5, 8, 9, 10] (fun k (_ : Unit) => [(10, .c (.int .i64 (k : Int)))]) (fun k (_ : Unit) => [(1, .row 9 1 ((elsAll (s.take k) p).map encS))]) (fun k (_ : Unit) => True) (()) ?_
  conv => whnf
  refine ⟨(by first | rfl | (simp; done) | (simp; rfl)), (by trivial), ?_, ?_⟩
  · intro k _ hk _
    have h1 := hx _ (List.getElem_mem hk)
    have htl : (s.take k).length = k := by rw [List.length_take]; omega
    have h2 := elsAll_len (p := p) (s := s.take k) (fun x hm => hx x (List.mem_of_mem_take hm))
    have h3 : ((elsAll (s.take k) p).map encS).length = (elsAll (s.take k) p).length := List.length_map ..
    have h4 : (s[k].els.map encS).length = s[k].els.length := List.length_map ..
    conv => whnf
    repeat' (first
      | (refine Split.mk (fun h => ?_) (fun h => ?_) <;> (try simp only [decide_eq_true_eq, decide_eq_false_iff_not, Bool.not_eq_true', Bool.not_eq_false', beq_iff_eq, beq_eq_false_iff_ne, bne_iff_ne, bne_eq_false_iff_eq] at h) <;> (first | (exfalso; first | omega | exact h trivial) | (conv => whnf)))
      | (refine CondG.mk (fun h => ?_) (fun h => ?_) <;> (try simp only [decide_eq_true_eq, decide_eq_false_iff_not, Bool.not_eq_true', Bool.not_eq_false', beq_iff_eq, beq_eq_false_iff_ne, bne_iff_ne, bne_eq_false_iff_eq] at h) <;> (first | (exfalso; first | omega | exact h trivial) | (conv => whnf)))
      | (refine CallX.mk _ _ (by first | exact hg _) ?_; conv => whnf)
      | (refine CallG.mk _ _ (by first | exact hg _) ?_; conv => whnf)
      | (refine Ask.mk (by first | omega | (unfold roomOK; simp [cutRows]; done) | (unfold roomOK; simp [cutRows]; omega) | (simp [cutRows]; done) | (simp [cutRows]; omega)) ?_; conv => whnf)
      | (refine AppG.mk (by first | omega | (unfold roomOK; simp [cutRows]; done) | (unfold roomOK; simp [cutRows]; omega) | (simp [cutRows]; done) | (simp [cutRows]; omega)) ?_; conv => whnf)
      | (refine SliceG.fr ?_; conv => whnf)
      | (refine idx_at _ (by with_reducible rfl) (by first | assumption | omega) ?_; conv => whnf)
      | ((with_reducible refine row_map (by first | assumption | omega) ?_); conv => whnf)
      | ((with_reducible refine row_set (by first | assumption | omega | (simp only [List.length_set]; omega) | (simp; omega)) ?_); conv => whnf)
      | fail)
    all_goals rename_i h
    · exact count_next () hk (by rw [wrap_succ hk (by omega), elsAll_succ s p hk, if_pos h, List.map_append]; rfl) trivial
    · exact count_next () hk (by rw [wrap_succ hk (by omega), elsAll_succ s p hk, if_neg (by rw [h]; decide), List.append_nil]; rfl) trivial
  · intro _ _
    rw [List.take_length]
    have h2 := elsAll_len (p := p) hx
    have h3 := insSort_len cmpS (elsAll s p)
    conv => whnf
    repeat' (first
      | (refine Split.mk (fun h => ?_) (fun h => ?_) <;> (try simp only [decide_eq_true_eq, decide_eq_false_iff_not, Bool.not_eq_true', Bool.not_eq_false', beq_iff_eq, beq_eq_false_iff_ne, bne_iff_ne, bne_eq_false_iff_eq] at h) <;> (first | (exfalso; first | omega | exact h trivial) | (conv => whnf)))
      | (refine CondG.mk (fun h => ?_) (fun h => ?_) <;> (try simp only [decide_eq_true_eq, decide_eq_false_iff_not, Bool.not_eq_true', Bool.not_eq_false', beq_iff_eq, beq_eq_false_iff_ne, bne_iff_ne, bne_eq_false_iff_eq] at h) <;> (first | (exfalso; first | omega | exact h trivial) | (conv => whnf)))
      | (refine CallX.mk _ _ (by first | exact sortG_pc (elsAll s p) (by omega) | exact cptS_pc (insSort cmpS (elsAll s p)) (by omega)) ?_; conv => whnf)
      | (refine CallG.mk _ _ (by first | exact sortG_pc (elsAll s p) (by omega) | exact cptS_pc (insSort cmpS (elsAll s p)) (by omega)) ?_; conv => whnf)
      | (refine Ask.mk (by first | omega | (unfold roomOK; simp [cutRows]; done) | (unfold roomOK; simp [cutRows]; omega) | (simp [cutRows]; done) | (simp [cutRows]; omega)) ?_; conv => whnf)
      | (refine AppG.mk (by first | omega | (unfold roomOK; simp [cutRows]; done) | (unfold roomOK; simp [cutRows]; omega) | (simp [cutRows]; done) | (simp [cutRows]; omega)) ?_; conv => whnf)
      | (refine SliceG.fr ?_; conv => whnf)
      | (refine idx_at _ (by with_reducible rfl) (by first | assumption | omega) ?_; conv => whnf)
      | ((with_reducible refine row_map (by first | assumption | omega) ?_); conv => whnf)
      | ((with_reducible refine row_set (by first | assumption | omega | (simp only [List.length_set]; omega) | (simp; omega)) ?_); conv => whnf)
      | fail)
    exact .mk ⟨rfl, rfl⟩
set_option maxRecDepth 100000 in
set_option maxHeartbeats 4000000 in
theorem rSus1_pc (l : List ByteArray) (hl : l.length ≤ 1000000) (x : ByteArray) : PCp 48 [.c (.str x), .c (.ptr 0 0)] [.box [.lst 1 (l.map encS)]] (.c (.bool (decide (x ∈ l)))) [.box [.lst 1 (l.map encS)]] := by
  refine fn_sound (mt := mts) tab_fits tab_mixed Tryz.func48 (by rfl) (by kernel_rfl) (by kernel_rfl) Tryz.results48 (Nat.le_of_ble_eq_true (by kernel_rfl)) ?_
  conv => whnf
  repeat' (first
    | (refine Split.mk (fun h => ?_) (fun h => ?_) <;> (try simp only [decide_eq_true_eq, decide_eq_false_iff_not, Bool.not_eq_true', Bool.not_eq_false', beq_iff_eq, beq_eq_false_iff_ne, bne_iff_ne, bne_eq_false_iff_eq] at h) <;> (first | (exfalso; first | omega | exact h trivial) | (conv => whnf)))
    | (refine CondG.mk (fun h => ?_) (fun h => ?_) <;> (try simp only [decide_eq_true_eq, decide_eq_false_iff_not, Bool.not_eq_true', Bool.not_eq_false', beq_iff_eq, beq_eq_false_iff_ne, bne_iff_ne, bne_eq_false_iff_eq] at h) <;> (first | (exfalso; first | omega | exact h trivial) | (conv => whnf)))
    | (refine CallX.mk _ _ (by first | exact containsS_pc x l hl) ?_; conv => whnf)
    | (refine CallG.mk _ _ (by first | exact containsS_pc x l hl) ?_; conv => whnf)
    | (refine Ask.mk (by first | omega | (unfold roomOK; simp [cutRows]; done) | (unfold roomOK; simp [cutRows]; omega) | (simp [cutRows]; done) | (simp [cutRows]; omega)) ?_; conv => whnf)
    | (refine AppG.mk (by first | omega | (unfold roomOK; simp [cutRows]; done) | (unfold roomOK; simp [cutRows]; omega) | (simp [cutRows]; done) | (simp [cutRows]; omega)) ?_; conv => whnf)
    | (refine SliceG.fr ?_; conv => whnf)
    | (refine idx_at _ (by with_reducible rfl) (by first | assumption | omega) ?_; conv => whnf)
    | ((with_reducible refine row_map (by first | assumption | omega) ?_); conv => whnf)
    | ((with_reducible refine row_set (by first | assumption | omega | (simp only [List.length_set]; omega) | (simp; omega)) ?_); conv => whnf)
    | fail)
  exact .mk ⟨rfl, rfl⟩
set_option maxRecDepth 100000 in
set_option maxHeartbeats 4000000 in
theorem rSus2_pc (l : List ByteArray) (hl : l.length ≤ 1000000) (x : ByteArray) : PCp 49 [.c (.str x), .c (.ptr 0 0)] [.box [.lst 1 (l.map encS)]] (.c (.bool (decide (x ∈ l)))) [.box [.lst 1 (l.map encS)]] := by
  refine fn_sound (mt := mts) tab_fits tab_mixed Tryz.func49 (by rfl) (by kernel_rfl) (by kernel_rfl) Tryz.results49 (Nat.le_of_ble_eq_true (by kernel_rfl)) ?_
  conv => whnf
  repeat' (first
    | (refine Split.mk (fun h => ?_) (fun h => ?_) <;> (try simp only [decide_eq_true_eq, decide_eq_false_iff_not, Bool.not_eq_true', Bool.not_eq_false', beq_iff_eq, beq_eq_false_iff_ne, bne_iff_ne, bne_eq_false_iff_eq] at h) <;> (first | (exfalso; first | omega | exact h trivial) | (conv => whnf)))
    | (refine CondG.mk (fun h => ?_) (fun h => ?_) <;> (try simp only [decide_eq_true_eq, decide_eq_false_iff_not, Bool.not_eq_true', Bool.not_eq_false', beq_iff_eq, beq_eq_false_iff_ne, bne_iff_ne, bne_eq_false_iff_eq] at h) <;> (first | (exfalso; first | omega | exact h trivial) | (conv => whnf)))
    | (refine CallX.mk _ _ (by first | exact containsS_pc x l hl) ?_; conv => whnf)
    | (refine CallG.mk _ _ (by first | exact containsS_pc x l hl) ?_; conv => whnf)
    | (refine Ask.mk (by first | omega | (unfold roomOK; simp [cutRows]; done) | (unfold roomOK; simp [cutRows]; omega) | (simp [cutRows]; done) | (simp [cutRows]; omega)) ?_; conv => whnf)
    | (refine AppG.mk (by first | omega | (unfold roomOK; simp [cutRows]; done) | (unfold roomOK; simp [cutRows]; omega) | (simp [cutRows]; done) | (simp [cutRows]; omega)) ?_; conv => whnf)
    | (refine SliceG.fr ?_; conv => whnf)
    | (refine idx_at _ (by with_reducible rfl) (by first | assumption | omega) ?_; conv => whnf)
    | ((with_reducible refine row_map (by first | assumption | omega) ?_); conv => whnf)
    | ((with_reducible refine row_set (by first | assumption | omega | (simp only [List.length_set]; omega) | (simp; omega)) ?_); conv => whnf)
    | fail)
  exact .mk ⟨rfl, rfl⟩
set_option maxRecDepth 100000 in
set_option maxHeartbeats 4000000 in
theorem rSus3_pc (l : List ByteArray) (hl : l.length ≤ 1000000) (x : ByteArray) : PCp 50 [.c (.str x), .c (.ptr 0 0)] [.box [.lst 1 (l.map encS)]] (.c (.bool (decide (x ∈ l)))) [.box [.lst 1 (l.map encS)]] := by
  refine fn_sound (mt := mts) tab_fits tab_mixed Tryz.func50 (by rfl) (by kernel_rfl) (by kernel_rfl) Tryz.results50 (Nat.le_of_ble_eq_true (by kernel_rfl)) ?_
  conv => whnf
  repeat' (first
    | (refine Split.mk (fun h => ?_) (fun h => ?_) <;> (try simp only [decide_eq_true_eq, decide_eq_false_iff_not, Bool.not_eq_true', Bool.not_eq_false', beq_iff_eq, beq_eq_false_iff_ne, bne_iff_ne, bne_eq_false_iff_eq] at h) <;> (first | (exfalso; first | omega | exact h trivial) | (conv => whnf)))
    | (refine CondG.mk (fun h => ?_) (fun h => ?_) <;> (try simp only [decide_eq_true_eq, decide_eq_false_iff_not, Bool.not_eq_true', Bool.not_eq_false', beq_iff_eq, beq_eq_false_iff_ne, bne_iff_ne, bne_eq_false_iff_eq] at h) <;> (first | (exfalso; first | omega | exact h trivial) | (conv => whnf)))
    | (refine CallX.mk _ _ (by first | exact containsS_pc x l hl) ?_; conv => whnf)
    | (refine CallG.mk _ _ (by first | exact containsS_pc x l hl) ?_; conv => whnf)
    | (refine Ask.mk (by first | omega | (unfold roomOK; simp [cutRows]; done) | (unfold roomOK; simp [cutRows]; omega) | (simp [cutRows]; done) | (simp [cutRows]; omega)) ?_; conv => whnf)
    | (refine AppG.mk (by first | omega | (unfold roomOK; simp [cutRows]; done) | (unfold roomOK; simp [cutRows]; omega) | (simp [cutRows]; done) | (simp [cutRows]; omega)) ?_; conv => whnf)
    | (refine SliceG.fr ?_; conv => whnf)
    | (refine idx_at _ (by with_reducible rfl) (by first | assumption | omega) ?_; conv => whnf)
    | ((with_reducible refine row_map (by first | assumption | omega) ?_); conv => whnf)
    | ((with_reducible refine row_set (by first | assumption | omega | (simp only [List.length_set]; omega) | (simp; omega)) ?_); conv => whnf)
    | fail)
  exact .mk ⟨rfl, rfl⟩
end Go.Proofs.YtameoookmgkmfaaGreat

/- The document: suspects. -/
namespace Go.Proofs.YtameoookmgkmfaaGreat
set_option linter.unusedVariables false
set_option linter.unusedSimpArgs false
open Abs

set_option maxRecDepth 100000 in
set_option maxHeartbeats 4000000 in
theorem rElsF_pc (cs : List (List V)) (g : Nat) (p : ByteArray → Bool) (hg : ∀ k : ByteArray, PCp g [.c (.str k), .c (.ptr 0 0)] [.box [.lst 1 cs]] (.c (.bool (p k))) [.box [.lst 1 cs]]) (s : List Sv) (hl : s.length ≤ 1000) (hx : ∀ x ∈ s, x.els.length ≤ 1000) :
    PCp 47 [.c (.lst 3 (s.map encSv)), .c (.fn g [.ptr 0 0])] [.box [.lst 1 cs]] (.c (.lst 1 ((elsV s p).map encS))) [.box [.lst 1 cs]] := by
  have hsm : (s.map encSv).length = s.length := List.length_map ..
  refine fn_sound (mt := mts) tab_fits tab_mixed Tryz.func47 (by rfl) (by kernel_rfl) (by kernel_rfl) Tryz.results47 (Nat.le_of_ble_eq_true (by kernel_rfl)) ?_
  conv => whnf
  refine loop_for (s.length) [.sl 5 9 1] [1, 5, 8, 9, 10] (fun k (_ : Unit) => [(10, .c (.int .i64 (k : Int)))]) (fun k (_ : Unit) => [(1, .row 9 1 ((elsAll (s.take k) p).map encS))]) (fun k (_ : Unit) => True) (()) ?_
  conv => whnf
  refine ⟨(by first | rfl | (simp; done) | (simp; rfl)), (by trivial), ?_, ?_⟩
  · intro k _ hk _
    have h1 := hx _ (List.getElem_mem hk)
    have htl : (s.take k).length = k := by rw [List.length_take]; omega
    have h2 := elsAll_len (p := p) (s := s.take k) (fun x hm => hx x (List.mem_of_mem_take hm))
    have h3 : ((elsAll (s.take k) p).map encS).length = (elsAll (s.take k) p).length := List.length_map ..
    have h4 : (s[k].els.map encS).length = s[k].els.length := List.length_map ..
    conv => whnf
    repeat' (first
      | (refine Split.mk (fun h => ?_) (fun h => ?_) <;> (try simp only [decide_eq_true_eq, decide_eq_false_iff_not, Bool.not_eq_true', Bool.not_eq_false', beq_iff_eq, beq_eq_false_iff_ne, bne_iff_ne, bne_eq_false_iff_eq] at h) <;> (first | (exfalso; first | omega | exact h trivial) | (conv => whnf)))
      | (refine CondG.mk (fun h => ?_) (fun h => ?_) <;> (try simp only [decide_eq_true_eq, decide_eq_false_iff_not, Bool.not_eq_true', Bool.not_eq_false', beq_iff_eq, beq_eq_false_iff_ne, bne_iff_ne, bne_eq_false_iff_eq] at h) <;> (first | (exfalso; first | omega | exact h trivial) | (conv => whnf)))
      | (refine CallX.mk _ _ (by first | exact hg _) ?_; conv => whnf)
      | (refine CallG.mk _ _ (by first | exact hg _) ?_; conv => whnf)
      | (refine Ask.mk (by first | omega | (unfold roomOK; simp [cutRows]; done) | (unfold roomOK; simp [cutRows]; omega) | (simp [cutRows]; done) | (simp [cutRows]; omega)) ?_; conv => whnf)
      | (refine AppG.mk (by first | omega | (unfold roomOK; simp [cutRows]; done) | (unfold roomOK; simp [cutRows]; omega) | (simp [cutRows]; done) | (simp [cutRows]; omega)) ?_; conv => whnf)
      | (refine SliceG.fr ?_; conv => whnf)
      | (refine idx_at _ (by with_reducible rfl) (by first | assumption | omega) ?_; conv => whnf)
      | ((with_reducible refine row_map (by first | assumption | omega) ?_); conv => whnf)
      | ((with_reducible refine row_set (by first | assumption | omega | (simp only [List.length_set]; omega) | (simp; omega)) ?_); conv => whnf)
      | fail)
    all_goals rename_i h
    · exact count_next () hk (by rw [wrap_succ hk (by omega), elsAll_succ s p hk, if_pos h, List.map_append]; rfl) trivial
    · exact count_next () hk (by rw [wrap_succ hk (by omega), elsAll_succ s p hk, if_neg (by rw [h]; decide), List.append_nil]; rfl) trivial
  · intro _ _
    rw [List.take_length]
    have h2 := elsAll_len (p := p) hx
    have h3 := insSort_len cmpS (elsAll s p)
    conv => whnf
    repeat' (first
      | (refine Split.mk (fun h => ?_) (fun h => ?_) <;> (try simp only [decide_eq_true_eq, decide_eq_false_iff_not, Bool.not_eq_true', Bool.not_eq_false', beq_iff_eq, beq_eq_false_iff_ne, bne_iff_ne, bne_eq_false_iff_eq] at h) <;> (first | (exfalso; first | omega | exact h trivial) | (conv => whnf)))
      | (refine CondG.mk (fun h => ?_) (fun h => ?_) <;> (try simp only [decide_eq_true_eq, decide_eq_false_iff_not, Bool.not_eq_true', Bool.not_eq_false', beq_iff_eq, beq_eq_false_iff_ne, bne_iff_ne, bne_eq_false_iff_eq] at h) <;> (first | (exfalso; first | omega | exact h trivial) | (conv => whnf)))
      | (refine CallX.mk _ _ (by first | exact sortG_pc (elsAll s p) (by omega) | exact cptS_pc (insSort cmpS (elsAll s p)) (by omega)) ?_; conv => whnf)
      | (refine CallG.mk _ _ (by first | exact sortG_pc (elsAll s p) (by omega) | exact cptS_pc (insSort cmpS (elsAll s p)) (by omega)) ?_; conv => whnf)
      | (refine Ask.mk (by first | omega | (unfold roomOK; simp [cutRows]; done) | (unfold roomOK; simp [cutRows]; omega) | (simp [cutRows]; done) | (simp [cutRows]; omega)) ?_; conv => whnf)
      | (refine AppG.mk (by first | omega | (unfold roomOK; simp [cutRows]; done) | (unfold roomOK; simp [cutRows]; omega) | (simp [cutRows]; done) | (simp [cutRows]; omega)) ?_; conv => whnf)
      | (refine SliceG.fr ?_; conv => whnf)
      | (refine idx_at _ (by with_reducible rfl) (by first | assumption | omega) ?_; conv => whnf)
      | ((with_reducible refine row_map (by first | assumption | omega) ?_); conv => whnf)
      | ((with_reducible refine row_set (by first | assumption | omega | (simp only [List.length_set]; omega) | (simp; omega)) ?_); conv => whnf)
      | fail)
    refine .frz 1 _ _ _ rfl (finl (os := [.box [.lst 1 cs]]) (t := [.frow 1 _]) (l := 1) rfl rfl (Nat.le_refl _))
def susD (s : List Sv) (down up : List ByteArray) : List ByteArray := (elsV s fun k => decide (k ∈ down)).filter fun x => !decide (x ∈ elsV s fun k => decide (k ∈ up))
theorem elsV_len {s : List Sv} (hl : s.length ≤ 500) (hx : ∀ x ∈ s, x.els.length ≤ 1000) (p : ByteArray → Bool) : (elsV s p).length ≤ 1000000 := by
  have h1 := nd_len (rise_nd (elsV_rise s p)) (fun x hx => (elsV_mem s p x).1 hx)
  have h2 := elsAll_len (p := p) hx
  omega
set_option maxRecDepth 100000 in
set_option maxHeartbeats 4000000 in
theorem rSus_pc (s : List Sv) (hl : s.length ≤ 500) (hx : ∀ x ∈ s, x.els.length ≤ 1000) (down up : List ByteArray) (hd : down.length ≤ 1000000) (hu : up.length ≤ 1000000) :
    PCp 15 [.c (.lst 3 (s.map encSv)), .c (.lst 1 (down.map encS)), .c (.lst 1 (up.map encS))] [] (.c (.lst 1 ((susD s down up).map encS))) [] := by
  have hg := elsV_len hl hx fun k => decide (k ∈ up)
  refine fn_sound (mt := mts) tab_fits tab_mixed Tryz.func15 (by rfl) (by kernel_rfl) (by kernel_rfl) Tryz.results15 (Nat.le_of_ble_eq_true (by kernel_rfl)) ?_
  conv => whnf
  repeat' (first
    | (refine Split.mk (fun h => ?_) (fun h => ?_) <;> (try simp only [decide_eq_true_eq, decide_eq_false_iff_not, Bool.not_eq_true', Bool.not_eq_false', beq_iff_eq, beq_eq_false_iff_ne, bne_iff_ne, bne_eq_false_iff_eq] at h) <;> (first | (exfalso; first | omega | exact h trivial) | (conv => whnf)))
    | (refine CondG.mk (fun h => ?_) (fun h => ?_) <;> (try simp only [decide_eq_true_eq, decide_eq_false_iff_not, Bool.not_eq_true', Bool.not_eq_false', beq_iff_eq, beq_eq_false_iff_ne, bne_iff_ne, bne_eq_false_iff_eq] at h) <;> (first | (exfalso; first | omega | exact h trivial) | (conv => whnf)))
    | (refine CallX.mk _ _ (by first | exact rElsF_pc (up.map encS) 48 (fun k => decide (k ∈ up)) (fun k => rSus1_pc up hu k) s (by omega) hx | exact rElsC_pc (down.map encS) 49 (fun k => decide (k ∈ down)) (fun k => rSus2_pc down hd k) s (by omega) hx | exact delfS1_pc ((elsV s fun k => decide (k ∈ up)).map encS) 50 (fun x => decide (x ∈ elsV s fun k => decide (k ∈ up))) (elsV s fun k => decide (k ∈ down)) (elsV_len hl hx _) (fun x _ => rSus3_pc _ hg x)) ?_; conv => whnf)
    | (refine CallG.mk _ _ (by first | exact rElsF_pc (up.map encS) 48 (fun k => decide (k ∈ up)) (fun k => rSus1_pc up hu k) s (by omega) hx | exact rElsC_pc (down.map encS) 49 (fun k => decide (k ∈ down)) (fun k => rSus2_pc down hd k) s (by omega) hx | exact delfS1_pc ((elsV s fun k => decide (k ∈ up)).map encS) 50 (fun x => decide (x ∈ elsV s fun k => decide (k ∈ up))) (elsV s fun k => decide (k ∈ down)) (elsV_len hl hx _) (fun x _ => rSus3_pc _ hg x)) ?_; conv => whnf)
    | (refine Ask.mk (by first | omega | (unfold roomOK; simp [cutRows]; done) | (unfold roomOK; simp [cutRows]; omega) | (simp [cutRows]; done) | (simp [cutRows]; omega)) ?_; conv => whnf)
    | (refine AppG.mk (by first | omega | (unfold roomOK; simp [cutRows]; done) | (unfold roomOK; simp [cutRows]; omega) | (simp [cutRows]; done) | (simp [cutRows]; omega)) ?_; conv => whnf)
    | (refine SliceG.fr ?_; conv => whnf)
    | (refine idx_at _ (by with_reducible rfl) (by first | assumption | omega) ?_; conv => whnf)
    | ((with_reducible refine row_map (by first | assumption | omega) ?_); conv => whnf)
    | ((with_reducible refine row_set (by first | assumption | omega | (simp only [List.length_set]; omega) | (simp; omega)) ?_); conv => whnf)
    | fail)
  refine .frz 0 _ _ _ rfl (finl (os := []) (t := [.frow 1 _]) (l := 0) rfl rfl (by decide))
end Go.Proofs.YtameoookmgkmfaaGreat

/- The document: what is unexplained. -/
namespace Go.Proofs.YtameoookmgkmfaaGreat
set_option linter.unusedVariables false
set_option linter.unusedSimpArgs false
open Abs

set_option maxRecDepth 100000 in
set_option maxHeartbeats 4000000 in
theorem ixUd_pc (ss xs : List (List V)) (g : Nat) (p : ByteArray → Bool) (l : List ByteArray) (hl : l.length ≤ 1000000) (hg : ∀ x ∈ l, PCp g [.c (.str x), .c (.ptr 0 0), .c (.ptr 1 0)] [.box [.lst 3 ss], .box [.lst 1 xs]] (.c (.bool (p x))) [.box [.lst 3 ss], .box [.lst 1 xs]]) : PCp 68 [.c (.row 0), .c (.fn g [.ptr 1 0, .ptr 2 0])] [.row 9 1 (l.map encS), .box [.lst 3 ss], .box [.lst 1 xs]] (.c (.int .i64 (idxP p l))) [.row 9 1 (l.map encS), .box [.lst 3 ss], .box [.lst 1 xs]] := by
  have hlm : (l.map encS).length = l.length := List.length_map ..
  refine fn_sound (mt := mts) tab_fits tab_mixed Tryz.func68 (by rfl) (by kernel_rfl) (by kernel_rfl) Tryz.results68 (Nat.le_of_ble_eq_true (by kernel_rfl)) ?_
  conv => whnf
  refine loop_for (l.length) [] [0, 1, 7, 8] (fun k (_ : Unit) => [(8, .c (.int .i64 (k : Int)))]) (fun k (_ : Unit) => []) (fun k (_ : Unit) => ∀ i (hi : i < l.length), i < k → p l[i] = false) (()) ?_
  conv => whnf
  refine ⟨(by first | rfl | (simp; done) | (simp; rfl)), ?_, ?_, ?_⟩
  · intro i hi h; omega
  · intro k _ hk hi
    conv => whnf
    repeat' (first
      | (refine Split.mk (fun h => ?_) (fun h => ?_) <;> (try simp only [decide_eq_true_eq, decide_eq_false_iff_not, Bool.not_eq_true', Bool.not_eq_false', beq_iff_eq, beq_eq_false_iff_ne, bne_iff_ne, bne_eq_false_iff_eq] at h) <;> (first | (exfalso; first | omega | exact h trivial) | (conv => whnf)))
      | (refine CondG.mk (fun h => ?_) (fun h => ?_) <;> (try simp only [decide_eq_true_eq, decide_eq_false_iff_not, Bool.not_eq_true', Bool.not_eq_false', beq_iff_eq, beq_eq_false_iff_ne, bne_iff_ne, bne_eq_false_iff_eq] at h) <;> (first | (exfalso; first | omega | exact h trivial) | (conv => whnf)))
      | (refine CallX.mk _ _ (by first | exact hg l[k] (List.getElem_mem hk)) ?_; conv => whnf)
      | (refine CallG.mk _ _ (by first | exact hg l[k] (List.getElem_mem hk)) ?_; conv => whnf)
      | (refine Ask.mk (by first | omega | (unfold roomOK; simp [cutRows]; done) | (unfold roomOK; simp [cutRows]; omega) | (simp [cutRows]; done) | (simp [cutRows]; omega)) ?_; conv => whnf)
      | (refine AppG.mk (by first | omega | (unfold roomOK; simp [cutRows]; done) | (unfold roomOK; simp [cutRows]; omega) | (simp [cutRows]; done) | (simp [cutRows]; omega)) ?_; conv => whnf)
      | (refine SliceG.fr ?_; conv => whnf)
      | (refine idx_at _ (by with_reducible rfl) (by first | assumption | omega) ?_; conv => whnf)
      | ((with_reducible refine row_map (by first | assumption | omega) ?_); conv => whnf)
      | ((with_reducible refine row_set (by first | assumption | omega | (simp only [List.length_set]; omega) | (simp; omega)) ?_); conv => whnf)
      | fail)
    · exact .mk ⟨by rw [idxP_hit hk (fun i hi' => hi i (by omega) hi') h]; rfl, rfl⟩
    · refine count_next () hk (by rw [wrap_succ hk (by omega)]; rfl) ?_
      exact all_succ' hi h
  · intro _ hi
    conv => whnf
    repeat' (first
      | (refine Split.mk (fun h => ?_) (fun h => ?_) <;> (try simp only [decide_eq_true_eq, decide_eq_false_iff_not, Bool.not_eq_true', Bool.not_eq_false', beq_iff_eq, beq_eq_false_iff_ne] at h) <;> (first | (exfalso; first | omega | exact h trivial) | (conv => whnf)))
      | (refine CondG.mk (fun h => ?_) (fun h => ?_) <;> (try simp only [decide_eq_true_eq, decide_eq_false_iff_not, Bool.not_eq_true', Bool.not_eq_false', beq_iff_eq, beq_eq_false_iff_ne] at h) <;> (first | (exfalso; first | omega | exact h trivial) | (conv => whnf)))
      | (refine Ask.mk (by first | omega | (unfold roomOK; simp [cutRows]; done) | (unfold roomOK; simp [cutRows]; omega)) ?_; conv => whnf)
      | (refine AppG.mk (by first | omega | (unfold roomOK; simp [cutRows]; done) | (unfold roomOK; simp [cutRows]; omega)) ?_; conv => whnf)
      | (refine SliceG.fr ?_; conv => whnf)
      | fail)
    exact .mk ⟨by rw [idxP_miss (fun i h => hi i h h)]; rfl, rfl⟩
set_option maxRecDepth 100000 in
set_option maxHeartbeats 4000000 in
theorem delfD_pc (ss xs : List (List V)) (g : Nat) (p : ByteArray → Bool) (l : List ByteArray) (hl : l.length ≤ 1000000) (hg : ∀ x ∈ l, PCp g [.c (.str x), .c (.ptr 0 0), .c (.ptr 1 0)] [.box [.lst 3 ss], .box [.lst 1 xs]] (.c (.bool (p x))) [.box [.lst 3 ss], .box [.lst 1 xs]]) : PCp 31 [.c (.row 0), .c (.fn g [.ptr 1 0, .ptr 2 0])] [.row 9 1 (l.map encS), .box [.lst 3 ss], .box [.lst 1 xs]] (.c (.row 3)) [.dead, .box [.lst 3 ss], .box [.lst 1 xs], .row 9 1 ((l.filter fun x => !p x).map encS)] := by
  have hlm : (l.map encS).length = l.length := List.length_map ..
  rcases idxP_or p l with ⟨hix, hno⟩ | ⟨i0, h0, hix, hp, hbef⟩
  · have hf : l.filter (fun x => !p x) = l := List.filter_eq_self.2 (fun x hx => by simp [hno x hx])
    refine fn_sound (mt := mts) tab_fits tab_mixed Tryz.func31 (by rfl) (by kernel_rfl) (by kernel_rfl) Tryz.results31 (Nat.le_of_ble_eq_true (by kernel_rfl)) ?_
    conv => whnf
    repeat' (first
      | (refine Split.mk (fun h => ?_) (fun h => ?_) <;> (try simp only [decide_eq_true_eq, decide_eq_false_iff_not, Bool.not_eq_true', Bool.not_eq_false', beq_iff_eq, beq_eq_false_iff_ne] at h) <;> (first | (exfalso; first | omega | exact h trivial) | (conv => whnf)))
      | (refine CondG.mk (fun h => ?_) (fun h => ?_) <;> (try simp only [decide_eq_true_eq, decide_eq_false_iff_not, Bool.not_eq_true', Bool.not_eq_false', beq_iff_eq, beq_eq_false_iff_ne] at h) <;> (first | (exfalso; first | omega | exact h trivial) | (conv => whnf)))
      | (refine CallX.mk _ _ (by first | exact ixUd_pc ss xs g p l hl hg) ?_; conv => whnf)
      | (refine CallG.mk _ _ (by first | exact ixUd_pc ss xs g p l hl hg) ?_; conv => whnf)
      | (refine Ask.mk (by first | omega | (unfold roomOK; simp [cutRows]; done) | (unfold roomOK; simp [cutRows]; omega)) ?_; conv => whnf)
      | (refine AppG.mk (by first | omega | (unfold roomOK; simp [cutRows]; done) | (unfold roomOK; simp [cutRows]; omega)) ?_; conv => whnf)
      | (refine SliceG.fr ?_; conv => whnf)
      | fail)
    · refine .cutv 0 _ _ l.length _ (.inr ⟨rfl, hlm.symm⟩) rfl (by omega) (.mk ⟨rfl, ?_⟩)
      rw [hf, show List.take l.length (l.map encS) = l.map encS from List.take_of_length_le (by omega)]; rfl
  · refine fn_sound (mt := mts) tab_fits tab_mixed Tryz.func31 (by rfl) (by kernel_rfl) (by kernel_rfl) Tryz.results31 (Nat.le_of_ble_eq_true (by kernel_rfl)) ?_
    conv => whnf
    refine .mk _ _ (ixUd_pc ss xs g p l hl hg) ?_
    rw [hix]
    conv => whnf
    refine .mk (fun h => ?_) (fun h => ?_)
    · first | omega | (simp at h; done) | (simp at h; omega)
    conv => whnf
    rw [wrap_succ h0 (by omega)]
    refine loop_for2 (l.length - (i0 + 1)) [] [0, 1, 5, 6] (fun m (i : Nat) (q : List ByteArray) => [(5, .c (.int .i64 ((i : Nat) : Int))), (6, .c (.int .i64 ((i0 + 1 + m : Nat) : Int)))]) (fun m (i : Nat) (q : List ByteArray) => [(0, .row 9 1 (q.map encS))]) (fun m (i : Nat) (q : List ByteArray) => q.length = l.length ∧ i < i0 + 1 + m ∧ q.drop (i0 + 1 + m) = l.drop (i0 + 1 + m) ∧ q.take i ++ (l.drop (i0 + 1 + m)).filter (fun x => !p x) = l.filter (fun x => !p x)) (i0) (l) ?_
    conv => whnf
    refine ⟨(by first | rfl | (simp; done) | (simp; rfl)), ?_, ?_, ?_⟩
    · exact ⟨rfl, by omega, rfl, delf_start h0 hp hbef⟩
    · intro m i q hm ⟨g1, g2, g3, g4⟩
      have hqm : (q.map encS).length = q.length := List.length_map ..
      have hj : i0 + 1 + m < l.length := by omega
      have q1 : q[i0 + 1 + m]'(by omega) = l[i0 + 1 + m] := getElem_of_drop g3 (by omega) (by omega) (by omega)
      rw [List.drop_eq_getElem_cons hj, List.filter_cons] at g4
      conv => whnf
      refine .mk (fun h => ?_) (fun h => ?_)
      rotate_left
      · first | omega | (simp at h; done) | (simp at h; omega)
      conv => whnf
      refine .mk (by omega) ?_
      conv => whnf
      refine row_at (i0 + 1 + m) toN (by omega) ?_
      conv => whnf
      rw [q1]
      refine .mk _ _ (hg _ (List.getElem_mem hj)) ?_
      conv => whnf
      refine .mk (fun h => ?_) (fun h => ?_)
      · conv => whnf
        refine .mk (by omega) ?_
        conv => whnf
        refine row_at i toN (by omega) ?_
        conv => whnf
        rw [if_pos h] at g4
        refine count_next (i + 1, q.set i (l[i0 + 1 + m]'(by omega))) hm (by rw [wrap_succ (n := l.length) (by omega) (by omega), wrap_succ (n := l.length) (by omega) (by omega), toN, List.map_set]; rfl) ⟨by simp [g1], by simp only; omega, ?_, ?_⟩
        · rw [List.drop_set_of_lt (by omega), show i0 + 1 + (m + 1) = i0 + 1 + m + 1 by omega, ← List.drop_drop, g3, List.drop_drop]
        · rw [delf_set (by omega), show i0 + 1 + (m + 1) = i0 + 1 + m + 1 by omega, List.append_assoc]; exact g4
      · conv => whnf
        rw [if_neg (by rw [h]; decide)] at g4
        refine count_next (i, q) hm (by rw [wrap_succ (n := l.length) (by omega) (by omega)]; rfl) ⟨g1, by simp only; omega, ?_, ?_⟩
        · rw [show i0 + 1 + (m + 1) = i0 + 1 + m + 1 by omega, ← List.drop_drop, g3, List.drop_drop]
        · rw [show i0 + 1 + (m + 1) = i0 + 1 + m + 1 by omega]; exact g4
    · intro i q ⟨g1, g2, g3, g4⟩
      have hqm : (q.map encS).length = q.length := List.length_map ..
      rw [List.drop_of_length_le (by omega), List.filter_nil, List.append_nil] at g4
      conv => whnf
      refine .mk (fun h => ?_) (fun h => ?_)
      · first | omega | (simp at h; done) | (simp at h; omega)
      conv => whnf
      refine .mk (by omega) ?_
      conv => whnf
      refine .vw ?_
      conv => whnf
      refine .mk (by rw [overR]; simp; omega) ?_
      conv => whnf
      refine .cut ⟨rfl, ?_⟩
      conv => whnf
      rw [toN]
      have hrow : ∀ z : List V, (overR (q.map encS) (List.replicate ((q.map encS).length - i) z) i).take i = (l.filter fun x => !p x).map encS := by
        intro z
        rw [← g4, List.map_take]; unfold overR
        rw [List.append_assoc, List.take_append_of_le_length (by simp; omega), List.take_take, Nat.min_self]
      rw [hrow]
      exact .mk ⟨rfl, rfl⟩
set_option maxRecDepth 100000 in
set_option maxHeartbeats 4000000 in
theorem rUn1_pc (s : List Sv) (hs : SvOk s) (l : List ByteArray) (hl : l.length ≤ 1000000) (k : ByteArray) (hk : hasSv s k = true) :
    PCp 51 [.c (.str k), .c (.ptr 0 0), .c (.ptr 1 0)] [.box [.lst 3 (s.map encSv)], .box [.lst 1 (l.map encS)]] (.c (.bool (needB s l k))) [.box [.lst 3 (s.map encSv)], .box [.lst 1 (l.map encS)]] := by
  refine fn_sound (mt := mts) tab_fits tab_mixed Tryz.func51 (by rfl) (by kernel_rfl) (by kernel_rfl) Tryz.results51 (Nat.le_of_ble_eq_true (by kernel_rfl)) ?_
  conv => whnf
  repeat' (first
    | (refine Split.mk (fun h => ?_) (fun h => ?_) <;> (try simp only [decide_eq_true_eq, decide_eq_false_iff_not, Bool.not_eq_true', Bool.not_eq_false', beq_iff_eq, beq_eq_false_iff_ne, bne_iff_ne, bne_eq_false_iff_eq] at h) <;> (first | (exfalso; first | omega | exact h trivial) | (conv => whnf)))
    | (refine CondG.mk (fun h => ?_) (fun h => ?_) <;> (try simp only [decide_eq_true_eq, decide_eq_false_iff_not, Bool.not_eq_true', Bool.not_eq_false', beq_iff_eq, beq_eq_false_iff_ne, bne_iff_ne, bne_eq_false_iff_eq] at h) <;> (first | (exfalso; first | omega | exact h trivial) | (conv => whnf)))
    | (refine CallX.mk _ _ (by first | exact rNeeds_pc s hs k hk l hl) ?_; conv => whnf)
    | (refine CallG.mk _ _ (by first | exact rNeeds_pc s hs k hk l hl) ?_; conv => whnf)
    | (refine Ask.mk (by first | omega | (unfold roomOK; simp [cutRows]; done) | (unfold roomOK; simp [cutRows]; omega) | (simp [cutRows]; done) | (simp [cutRows]; omega)) ?_; conv => whnf)
    | (refine AppG.mk (by first | omega | (unfold roomOK; simp [cutRows]; done) | (unfold roomOK; simp [cutRows]; omega) | (simp [cutRows]; done) | (simp [cutRows]; omega)) ?_; conv => whnf)
    | (refine SliceG.fr ?_; conv => whnf)
    | (refine idx_at _ (by with_reducible rfl) (by first | assumption | omega) ?_; conv => whnf)
    | ((with_reducible refine row_map (by first | assumption | omega) ?_); conv => whnf)
    | ((with_reducible refine row_set (by first | assumption | omega | (simp only [List.length_set]; omega) | (simp; omega)) ?_); conv => whnf)
    | fail)
  exact .mk ⟨rfl, rfl⟩
def unexD (s : List Sv) (down up : List ByteArray) : List ByteArray := down.filter fun k => !needB s (susD s down up) k
set_option maxRecDepth 100000 in
set_option maxHeartbeats 4000000 in
theorem rUnex_pc (s : List Sv) (hs : SvOk s) (down up : List ByteArray) (hd : StOkL s down) (hu : StOkL s up) :
    PCp 16 [.c (.lst 3 (s.map encSv)), .c (.lst 1 (down.map encS)), .c (.lst 1 (up.map encS))] [] (.c (.lst 1 ((unexD s down up).map encS))) [] := by
  have hx : ∀ x ∈ s, x.els.length ≤ 1000 := fun x hx => Nat.le_trans (hs.each x hx).len (by decide)
  have hdl := hd.len
  have hul := hu.len
  have hsd : (susD s down up).length ≤ 1000000 := Nat.le_trans (List.length_filter_le ..) (elsV_len hs.len hx _)
  refine fn_sound (mt := mts) tab_fits tab_mixed Tryz.func16 (by rfl) (by kernel_rfl) (by kernel_rfl) Tryz.results16 (Nat.le_of_ble_eq_true (by kernel_rfl)) ?_
  conv => whnf
  repeat' (first
    | (refine Split.mk (fun h => ?_) (fun h => ?_) <;> (try simp only [decide_eq_true_eq, decide_eq_false_iff_not, Bool.not_eq_true', Bool.not_eq_false', beq_iff_eq, beq_eq_false_iff_ne, bne_iff_ne, bne_eq_false_iff_eq] at h) <;> (first | (exfalso; first | omega | exact h trivial) | (conv => whnf)))
    | (refine CondG.mk (fun h => ?_) (fun h => ?_) <;> (try simp only [decide_eq_true_eq, decide_eq_false_iff_not, Bool.not_eq_true', Bool.not_eq_false', beq_iff_eq, beq_eq_false_iff_ne, bne_iff_ne, bne_eq_false_iff_eq] at h) <;> (first | (exfalso; first | omega | exact h trivial) | (conv => whnf)))
    | (refine CallX.mk _ _ (by first | exact rSus_pc s hs.len hx down up (by omega) (by omega) | exact cloneS_pc down (by omega) | exact delfD_pc (s.map encSv) ((susD s down up).map encS) 51 (fun k => needB s (susD s down up) k) down (by omega) (fun k hk => rUn1_pc s hs _ hsd k (hd.has k hk))) ?_; conv => whnf)
    | (refine CallG.mk _ _ (by first | exact rSus_pc s hs.len hx down up (by omega) (by omega) | exact cloneS_pc down (by omega) | exact delfD_pc (s.map encSv) ((susD s down up).map encS) 51 (fun k => needB s (susD s down up) k) down (by omega) (fun k hk => rUn1_pc s hs _ hsd k (hd.has k hk))) ?_; conv => whnf)
    | (refine Ask.mk (by first | omega | (unfold roomOK; simp [cutRows]; done) | (unfold roomOK; simp [cutRows]; omega) | (simp [cutRows]; done) | (simp [cutRows]; omega)) ?_; conv => whnf)
    | (refine AppG.mk (by first | omega | (unfold roomOK; simp [cutRows]; done) | (unfold roomOK; simp [cutRows]; omega) | (simp [cutRows]; done) | (simp [cutRows]; omega)) ?_; conv => whnf)
    | (refine SliceG.fr ?_; conv => whnf)
    | (refine idx_at _ (by with_reducible rfl) (by first | assumption | omega) ?_; conv => whnf)
    | ((with_reducible refine row_map (by first | assumption | omega) ?_); conv => whnf)
    | ((with_reducible refine row_set (by first | assumption | omega | (simp only [List.length_set]; omega) | (simp; omega)) ?_); conv => whnf)
    | fail)
  refine .frz 0 _ _ _ rfl (finl (os := []) (t := [.frow 1 _]) (l := 0) rfl rfl (by decide))
end Go.Proofs.YtameoookmgkmfaaGreat

/- Plain: both suspects are one. -/
namespace Go.Proofs.YtameoookmgkmfaaGreat
set_option linter.unusedVariables false
set_option linter.unusedSimpArgs false
open Abs

theorem elsOf_all {s : List Sv} {l : List ByteArray} (hs : SvOk s) (hl : StOkL s l) (x : ByteArray) : x ∈ elsOf s l ↔ x ∈ elsAll s (fun k => decide (k ∈ l)) := by
  unfold elsOf elsAll
  rw [List.mem_flatMap, List.mem_flatMap]
  constructor
  · rintro ⟨k, h1, h2⟩
    obtain ⟨y, hy, hk⟩ := hasSv_iff.1 (hl.has k h1)
    have h3 : svG s k = y := by rw [← hk]; exact svG_mem hs.rise hy
    exact ⟨y, List.mem_filter.2 ⟨hy, by simpa [hk] using h1⟩, by rw [← h3]; exact h2⟩
  · rintro ⟨y, h1, h2⟩
    obtain ⟨h3, h4⟩ := List.mem_filter.1 h1
    exact ⟨y.key, by simpa using h4, by rw [svG_mem hs.rise h3]; exact h2⟩
theorem susD_mem {s : List Sv} {down up : List ByteArray} (hs : SvOk s) (hd : StOkL s down) (hu : StOkL s up) (x : ByteArray) : x ∈ susD s down up ↔ x ∈ susV s down up := by
  rw [susV_mem, elsOf_all hs hd, elsOf_all hs hu]
  unfold susD
  rw [List.mem_filter, elsV_mem]
  simp [elsV_mem]
theorem susD_rise (s : List Sv) (down up : List ByteArray) : Rise id (susD s down up) := List.Pairwise.sublist (List.filter_sublist ..) (elsV_rise s _)
theorem susD_eq {s : List Sv} {down up : List ByteArray} (hs : SvOk s) (hd : StOkL s down) (hu : StOkL s up) : susD s down up = susV s down up :=
  rise_ext (susD_rise s down up) (susV_rise s down up) (susD_mem hs hd hu)
theorem unexD_eq {s : List Sv} {down up : List ByteArray} (hs : SvOk s) (hd : StOkL s down) (hu : StOkL s up) : unexD s down up = unexV s (susV s down up) down := by
  unfold unexD unexV
  rw [susD_eq hs hd hu]
  congr 1
  funext k
  rw [needB_eq]
end Go.Proofs.YtameoookmgkmfaaGreat

/- Plain: the best sets of the document and of the program are one. -/
namespace Go.Proofs.YtameoookmgkmfaaGreat
set_option linter.unusedVariables false
set_option linter.unusedSimpArgs false
open Abs

/-! from the begin on -/
def pickF : List ByteArray → Nat → List ByteArray
  | [], _ => []
  | x :: r, m => if m.testBit 0 then x :: pickF r (m / 2) else pickF r (m / 2)
theorem setL_cons (x : ByteArray) (r : List ByteArray) (m : Nat) : ∀ k, setL (x :: r) m (k + 1) = (if m.testBit 0 then [x] else []) ++ setL r (m / 2) k
  | 0 => by simp [setL]
  | k + 1 => by
    have ih := setL_cons x r m k
    rw [setL, ih, setL, Nat.testBit_succ, show (x :: r).getD (k + 1) ⟨#[]⟩ = r.getD k ⟨#[]⟩ by simp]
    by_cases h : (m / 2).testBit k = true
    · rw [if_pos h, if_pos h, List.append_assoc]
    · rw [if_neg h, if_neg h]
theorem pickM_F : ∀ (l : List ByteArray) (m : Nat), pickM l m = pickF l m
  | [], m => rfl
  | x :: r, m => by
    have ih := pickM_F r (m / 2)
    unfold pickM at ih ⊢
    rw [List.length_cons, setL_cons, ih, pickF]
    split <;> simp
theorem pickF_len : ∀ (l : List ByteArray) (m : Nat), (pickF l m).length = popF l.length m
  | [], m => rfl
  | x :: r, m => by
    have ih := pickF_len r (m / 2)
    have hb : m.testBit 0 = decide (m % 2 = 1) := Nat.testBit_zero ..
    rw [pickF, List.length_cons, popF, hb]
    by_cases h : m % 2 = 1
    · rw [if_pos (by simpa using h), List.length_cons, ih]; omega
    · rw [if_neg (by simpa using h), ih]; omega
theorem popF_zero : ∀ n, popF n 0 = 0
  | 0 => rfl
  | n + 1 => by rw [popF, popF_zero n]
theorem popF_ext : ∀ (n k m : Nat), n ≤ k → m < 2 ^ n → popF k m = popF n m
  | 0, k, m, _, h => by
    have : m = 0 := by simp at h; omega
    rw [this, popF_zero, popF_zero]
  | n + 1, 0, m, h, _ => by omega
  | n + 1, k + 1, m, h, hm => by
    rw [popF, popF, popF_ext n k (m / 2) (by omega) (by rw [Nat.pow_succ] at hm; omega)]
theorem popc_len {l : List ByteArray} (h : l.length ≤ 14) {m : Nat} (hm : m < 2 ^ l.length) : (pickM l m).length = popc m := by
  rw [pickM_F, pickF_len]; exact (popF_ext l.length 14 m h hm).symm
/-! the order of the sets -/
def cmpT (a b : ByteArray) : Int := if ltB a b then -1 else if ltB b a then 1 else 0
theorem cmpT_lt {a b : ByteArray} : cmpT a b < 0 ↔ ltB a b = true := by
  unfold cmpT
  by_cases h : ltB a b = true
  · simp [h]
  · rw [if_neg h]
    constructor
    · intro q; split at q <;> omega
    · intro q; exact (h q).elim
theorem cmpT_anti (a b : ByteArray) : cmpT b a = - cmpT a b := by
  unfold cmpT
  by_cases h1 : ltB a b = true
  · have h2 : ltB b a = false := by
      cases h : ltB b a with
      | false => rfl
      | true => have := ltB_trans h1 h; rw [ltB_irr] at this; cases this
    simp [h1, h2]
  · by_cases h2 : ltB b a = true <;> simp [h1, h2]
theorem cmpT_zero {a b : ByteArray} : cmpT a b = 0 ↔ a = b := by
  constructor
  · intro h
    rcases ltB_tri a b with h1 | h1 | h1
    · have := cmpT_lt.2 h1; omega
    · exact h1
    · have := cmpT_lt.2 h1; have := cmpT_anti a b; omega
  · rintro rfl
    unfold cmpT; simp [ltB_irr]
theorem cmpT_cmp : Cmp cmpT where
  anti := cmpT_anti
  trans a b d h1 h2 := by
    have key : ∀ x y : ByteArray, cmpT x y ≤ 0 ↔ (ltB x y = true ∨ x = y) := fun x y => by rw [← cmpT_lt, ← cmpT_zero]; omega
    rw [key] at h1 h2 ⊢
    rcases h1 with h1 | h1
    · rcases h2 with h2 | h2
      · exact .inl (ltB_trans h1 h2)
      · rw [← h2]; exact .inl h1
    · rw [h1]; exact h2
def cmpSL : List ByteArray → List ByteArray → Int
  | [], [] => 0
  | [], _ :: _ => -1
  | _ :: _, [] => 1
  | a :: r, b :: t => if cmpT a b = 0 then cmpSL r t else cmpT a b
theorem cmpSL_anti : ∀ a b : List ByteArray, cmpSL b a = - cmpSL a b
  | [], [] => rfl
  | [], _ :: _ => rfl
  | _ :: _, [] => rfl
  | a :: r, b :: t => by
    have ih := cmpSL_anti r t
    have h := cmpT_anti a b
    rw [cmpSL, cmpSL]
    split <;> split <;> omega
theorem cmpSL_zero : ∀ {a b : List ByteArray}, cmpSL a b = 0 → a = b
  | [], [], _ => rfl
  | [], _ :: _, h => by simp [cmpSL] at h
  | _ :: _, [], h => by simp [cmpSL] at h
  | a :: r, b :: t, h => by
    rw [cmpSL] at h
    split at h
    · rename_i q
      rw [cmpT_zero.1 q, cmpSL_zero h]
    · rename_i q; exact (q h).elim
theorem cmpSL_trans : ∀ a b d : List ByteArray, cmpSL a b ≤ 0 → cmpSL b d ≤ 0 → cmpSL a d ≤ 0
  | [], _, [], _, _ => by simp [cmpSL]
  | [], _, _ :: _, _, _ => by simp [cmpSL]
  | _ :: _, [], _, h, _ => by simp [cmpSL] at h
  | _ :: _, _ :: _, [], _, h => by simp [cmpSL] at h
  | a :: r, b :: t, d :: u, g1, g2 => by
    have ih := cmpSL_trans r t u
    have a1 := cmpT_anti a b
    have a2 := cmpT_anti b d
    have a3 := cmpT_anti a d
    rw [cmpSL] at g1 g2 ⊢
    by_cases e1 : cmpT a b = 0
    · rw [if_pos e1] at g1
      by_cases e2 : cmpT b d = 0
      · rw [if_pos e2] at g2
        have t1 := cmpT_cmp.trans a b d (by omega) (by omega)
        have t2 := cmpT_cmp.trans d b a (by omega) (by omega)
        rw [if_pos (by omega)]
        exact ih g1 g2
      · rw [if_neg e2] at g2
        have := cmpT_cmp.lt (a := a) (b := b) (d := d) (by omega) (by omega) (.inr (by omega))
        rw [if_neg (by omega)]; omega
    · rw [if_neg e1] at g1
      have t0 : cmpT b d ≤ 0 := by
        by_cases e2 : cmpT b d = 0
        · omega
        · rw [if_neg e2] at g2; exact g2
      have := cmpT_cmp.lt (a := a) (b := b) (d := d) (by omega) t0 (.inl (by omega))
      rw [if_neg (by omega)]; omega
theorem cmpSL_cmp : Cmp cmpSL := ⟨cmpSL_anti, cmpSL_trans⟩
theorem pickF_mem : ∀ (l : List ByteArray) (m : Nat) {x : ByteArray}, x ∈ pickF l m → x ∈ l
  | [], _, _, h => by simp [pickF] at h
  | a :: r, m, x, h => by
    rw [pickF] at h
    split at h
    · rcases List.mem_cons.1 h with e | h
      · simp [e]
      · have := pickF_mem r (m / 2) h; simp [this]
    · have := pickF_mem r (m / 2) h; simp [this]
theorem pick_low : ∀ (l : List ByteArray) (a b : Nat), Rise id l → (∃ i, i < l.length ∧ a.testBit i = true ∧ b.testBit i = false ∧ ∀ j, j < i → a.testBit j = b.testBit j) → (pickF l a).length = (pickF l b).length → cmpSL (pickF l a) (pickF l b) < 0
  | [], a, b, _, ⟨i, h, _⟩, _ => by simp at h
  | x :: r, a, b, hr, ⟨i, hi, h1, h2, h3⟩, hl => by
    have hr' : Rise id r := (List.pairwise_cons.1 hr).2
    have hx : ∀ y ∈ r, ltB x y = true := fun y hy => (List.pairwise_cons.1 hr).1 y hy
    cases i with
    | zero =>
      rw [pickF, pickF, if_pos h1, if_neg (by rw [h2]; decide)] at hl ⊢
      cases hq : pickF r (b / 2) with
      | nil => rw [hq] at hl; simp at hl
      | cons y t =>
        have hy := hx y (pickF_mem r (b / 2) (by rw [hq]; simp))
        have hc := cmpT_lt.2 hy
        rw [cmpSL, if_neg (by omega)]; exact hc
    | succ i =>
      have h0 := h3 0 (by omega)
      have ih := pick_low r (a / 2) (b / 2) hr' ⟨i, by simpa using hi, by rw [← Nat.testBit_succ]; exact h1, by rw [← Nat.testBit_succ]; exact h2, fun j hj => by rw [← Nat.testBit_succ, ← Nat.testBit_succ]; exact h3 (j + 1) (by omega)⟩
      rw [pickF, pickF, ← h0] at hl ⊢
      by_cases q : a.testBit 0 = true
      · rw [if_pos q, if_pos q] at hl ⊢
        rw [cmpSL, if_pos (cmpT_zero.2 rfl)]
        exact ih (by simpa using hl)
      · rw [if_neg q, if_neg q] at hl ⊢
        exact ih hl
/-- one order is the other -/
theorem low_cmp {l : List ByteArray} (hr : Rise id l) (h14 : l.length ≤ 14) {a b : Nat} (ha : a < 2 ^ l.length) (hb : b < 2 ^ l.length) (hp : popc a = popc b) (h : LowLt a b) : cmpSL (pickM l a) (pickM l b) < 0 := by
  have hl : (pickM l a).length = (pickM l b).length := by rw [popc_len h14 ha, popc_len h14 hb, hp]
  rw [pickM_F, pickM_F] at hl ⊢
  obtain ⟨i, h1, h2, h3⟩ := h
  refine pick_low l a b hr ⟨i, ?_, h1, h2, h3⟩ hl
  rcases Nat.lt_or_ge i l.length with q | q
  · exact q
  · have : a.testBit i = false := Nat.testBit_lt_two_pow (Nat.lt_of_lt_of_le ha (Nat.pow_le_pow_right (by decide) q))
    rw [this] at h1; cases h1
/-! the best ones, told anew -/
def bestD (g : Nat → Bool) (n : Nat) : Nat → List Nat × Nat
  | 0 => ([], n + 1)
  | k + 1 => if (bestD g n k).2 < popc k then bestD g n k else if !g k then bestD g n k else if popc k < (bestD g n k).2 then ([k], popc k) else ((bestD g n k).1 ++ [k], (bestD g n k).2)
theorem bestD_inv (g : Nat → Bool) (n : Nat) : ∀ k, (∀ x ∈ (bestD g n k).1, x < k ∧ popc x = (bestD g n k).2) ∧ ((bestD g n k).1 = [] → (bestD g n k).2 = n + 1) ∧ (bestD g n k).1.length ≤ k ∧ (bestD g n k).2 ≤ n + 1
  | 0 => by simp [bestD]
  | k + 1 => by
    obtain ⟨h1, h2, h3, h4⟩ := bestD_inv g n k
    rw [bestD]
    split
    · exact ⟨fun x hx => ⟨by have := (h1 x hx).1; omega, (h1 x hx).2⟩, h2, by omega, h4⟩
    · split
      · exact ⟨fun x hx => ⟨by have := (h1 x hx).1; omega, (h1 x hx).2⟩, h2, by omega, h4⟩
      · split
        · refine ⟨fun x hx => ?_, by simp, by simp, by simp only; omega⟩
          rw [List.mem_singleton] at hx; subst hx; exact ⟨by omega, rfl⟩
        · refine ⟨fun x hx => ?_, by simp, by simp; omega, h4⟩
          rcases List.mem_append.1 hx with hx | hx
          · exact ⟨by have := (h1 x hx).1; omega, (h1 x hx).2⟩
          · rw [List.mem_singleton] at hx; subst hx; exact ⟨by omega, by simp only; omega⟩
theorem bestD_eq {ns : List Nat} {g : Nat → Bool} {n : Nat} (hn : n ≤ 14) (hg : ∀ m, m < 2 ^ n → g m = goodM ns m) : ∀ k, k ≤ 2 ^ n → (bestD g n k).1 = bestK ns k
  | 0, _ => rfl
  | k + 1, hk => by
    have ih := bestD_eq hn hg k (by omega)
    obtain ⟨h1, h2, _, _⟩ := bestD_inv g n k
    have hpk : popc k ≤ n := by
      have h : popc k = popF n k := popF_ext n 14 k hn (by omega)
      rw [h]; exact popF_le n k
    rw [bestD, bestK, hg k (by omega), ← ih]
    cases hgk : goodM ns k with
    | false =>
      simp only [Bool.not_false, if_true, ite_self]
      rfl
    | true =>
      simp only [Bool.not_true, Bool.false_eq_true, if_false, if_true]
      cases hb : (bestD g n k).1 with
      | nil =>
        have := h2 hb
        rw [if_neg (by omega), if_pos (by omega)]; rfl
      | cons x r =>
        have hx := (h1 x (by rw [hb]; simp)).2
        unfold beforeB
        simp only
        by_cases q : popc k < popc x
        · rw [if_neg (by omega), if_pos (by omega), if_pos q]; rfl
        · rw [if_neg q]
          unfold withB
          simp only
          by_cases q2 : popc k = popc x
          · rw [if_neg (by omega), if_neg (by omega), if_pos q2]
          · rw [if_pos (by omega), if_neg q2, hb]
/-- which sets explain what is down, by the document -/
def gD (s : List Sv) (l nots down : List ByteArray) (m : Nat) : Bool := !(down.any fun k => !decide (k ∈ nots) && !needB s (pickM l m) k)
theorem and_ne {n m : Nat} : n &&& m ≠ 0 ↔ ∃ j, n.testBit j = true ∧ m.testBit j = true := by
  constructor
  · intro h
    obtain ⟨j, hj⟩ := Nat.exists_testBit_of_ne_zero h
    rw [Nat.testBit_and, Bool.and_eq_true] at hj
    exact ⟨j, hj⟩
  · rintro ⟨j, h1, h2⟩ h
    have := congrArg (fun q : Nat => q.testBit j) h
    simp [Nat.testBit_and, h1, h2] at this
theorem needO_test (s : List Sv) (l : List ByteArray) (k : ByteArray) (j : Nat) : (needO s l k).testBit j = true ↔ ∃ h : j < l.length, l[j] ∈ (svG s k).els := by
  unfold needO
  rw [bitN_test, Bool.and_eq_true, decide_eq_true_eq, decide_eq_true_eq]
  constructor
  · rintro ⟨h, h1⟩
    refine ⟨h, ?_⟩
    simpa [List.getD_eq_getElem?_getD, List.getElem?_eq_getElem h] using h1
  · rintro ⟨h, h1⟩
    refine ⟨h, ?_⟩
    simpa [List.getD_eq_getElem?_getD, List.getElem?_eq_getElem h] using h1
theorem needO_zero (s : List Sv) (l : List ByteArray) (k : ByteArray) : needO s l k ≠ 0 ↔ needsB s l k = true := by
  unfold needsB
  rw [List.any_eq_true]
  constructor
  · intro h
    obtain ⟨j, hj⟩ := Nat.exists_testBit_of_ne_zero h
    obtain ⟨h1, h2⟩ := (needO_test s l k j).1 hj
    exact ⟨_, List.getElem_mem h1, by simpa using h2⟩
  · rintro ⟨x, hx, h2⟩ h
    obtain ⟨j, hj, rfl⟩ := List.getElem_of_mem hx
    have := (needO_test s l k j).2 ⟨hj, by simpa using h2⟩
    rw [h, Nat.zero_testBit] at this; cases this
theorem needO_pick (s : List Sv) (l : List ByteArray) (k : ByteArray) (m : Nat) : needO s l k &&& m ≠ 0 ↔ needB s (pickM l m) k = true := by
  unfold needB
  rw [and_ne, List.any_eq_true]
  constructor
  · rintro ⟨j, h1, h2⟩
    obtain ⟨h3, h4⟩ := (needO_test s l k j).1 h1
    exact ⟨l[j], h4, by rw [decide_eq_true_eq]; exact (setL_mem l m l.length (Nat.le_refl _) l[j]).2 ⟨j, h3, h3, h2, rfl⟩⟩
  · rintro ⟨x, h1, h2⟩
    rw [decide_eq_true_eq] at h2
    obtain ⟨i, hi, _, h3, h4⟩ := (setL_mem l m l.length (Nat.le_refl _) x).1 h2
    exact ⟨i, (needO_test s l k i).2 ⟨hi, by rw [h4]; exact h1⟩, h3⟩
theorem gD_good (s : List Sv) (l down : List ByteArray) (m : Nat) : gD s l (unexV s l down) down m = goodM (needL s l down) m := by
  unfold gD goodM
  congr 1
  rw [Bool.eq_iff_iff, List.any_eq_true, List.any_eq_true]
  constructor
  · rintro ⟨k, hk, h⟩
    simp only [Bool.and_eq_true, Bool.not_eq_true', decide_eq_false_iff_not] at h
    obtain ⟨h1, h2⟩ := h
    have h3 : needsB s l k = true := by
      cases hq : needsB s l k with
      | true => rfl
      | false => exact (h1 (List.mem_filter.2 ⟨hk, by rw [hq]; rfl⟩)).elim
    refine ⟨needO s l k, List.mem_filter.2 ⟨List.mem_map.2 ⟨k, hk, rfl⟩, by simpa using (needO_zero s l k).2 h3⟩, ?_⟩
    rw [decide_eq_true_eq]
    rcases Nat.eq_zero_or_pos (needO s l k &&& m) with e | e
    · exact e
    · have := (needO_pick s l k m).1 (by omega)
      rw [h2] at this; cases this
  · rintro ⟨n, hn, h⟩
    obtain ⟨hn1, hn2⟩ := List.mem_filter.1 hn
    obtain ⟨k, hk, rfl⟩ := List.mem_map.1 hn1
    rw [decide_eq_true_eq] at h hn2
    refine ⟨k, hk, ?_⟩
    simp only [Bool.and_eq_true, Bool.not_eq_true', decide_eq_false_iff_not]
    constructor
    · intro hq
      have := (List.mem_filter.1 hq).2
      rw [(needO_zero s l k).1 hn2] at this; cases this
    · cases hq : needB s (pickM l m) k with
      | false => rfl
      | true => exact ((needO_pick s l k m).2 hq h).elim
end Go.Proofs.YtameoookmgkmfaaGreat
