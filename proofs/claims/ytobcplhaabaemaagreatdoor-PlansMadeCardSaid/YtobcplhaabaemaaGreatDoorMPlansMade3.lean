/- Parts of the proof, in order. -/
import Derived.Test.YtobcplhaabaemaaGreatDoorMPlansMade2

/- All plans, tried section by section: the document's closure that calls itself. -/
namespace Go.Proofs.YtobcplhaabaemaaGreatDoor
set_option linter.unusedVariables false
set_option linter.unusedSimpArgs false
open Abs

abbrev tryO (d s : List Pc) (r : Int × Int) (P L : List Int) (fd : Bool) (w : Int) (B : List Int) : List Ob :=
  [.box [.lst 3 (s.map encPc)], .box [.lst 3 (d.map encPc)], .box [.int .i64 r.1, .int .i64 r.2], .box [.row 4], .row 3 1 (P.map encI), .box [.bool fd], .box [.int .i64 w], .box [.row 8], .row 3 1 (B.map encI), .box [.row 10], .row 3 1 (L.map encI), .box [.fn 38 [.ptr 0 0, .ptr 1 0, .ptr 2 0, .ptr 3 0, .ptr 5 0, .ptr 6 0, .ptr 7 0, .ptr 9 0, .ptr 11 0]]]
abbrev tryN (d s : List Pc) (r : Int × Int) (P L : List Int) (fd : Bool) (w : Int) (B B' : List Int) : List Ob :=
  [.box [.lst 3 (s.map encPc)], .box [.lst 3 (d.map encPc)], .box [.int .i64 r.1, .int .i64 r.2], .box [.row 4], .row 3 1 (P.map encI), .box [.bool fd], .box [.int .i64 w], .box [.row 12], .row 3 1 (B.map encI), .box [.row 10], .row 3 1 (L.map encI), .box [.fn 38 [.ptr 0 0, .ptr 1 0, .ptr 2 0, .ptr 3 0, .ptr 5 0, .ptr 6 0, .ptr 7 0, .ptr 9 0, .ptr 11 0]], .row 3 1 (B'.map encI)]
abbrev tryArgs (i : Nat) : List S := [.c (.int .i64 (i : Int)), .c (.ptr 0 0), .c (.ptr 1 0), .c (.ptr 2 0), .c (.ptr 3 0), .c (.ptr 5 0), .c (.ptr 6 0), .c (.ptr 7 0), .c (.ptr 9 0), .c (.ptr 11 0)]
def stF (st : Option (List Nat)) : Bool := st.isSome
def stW (d s : List Pc) (r : Int × Int) : Option (List Nat) → Int
  | none => 0
  | some b => wasteV d s r (toI b)
def stB : Option (List Nat) → List Int
  | none => []
  | some b => toI b
/-- what the closure leaves behind -/
def TryQ (d s : List Pc) (r : Int × Int) (i : Nat) (P : List Nat) (L : List Int) (st st' : Option (List Nat)) (R : S) (os : List Ob) : Prop :=
  ∃ P' : List Nat, P'.length = s.length ∧ P'.take i = P.take i ∧ R = .tup [] ∧ (∀ b, st' = some b → b.length = s.length ∧ ∀ x ∈ b, x < d.length) ∧
    ((stB st' = stB st ∧ os = tryO d s r (toI P') L (stF st') (stW d s r st') (stB st)) ∨ os = tryN d s r (toI P') L (stF st') (stW d s r st') (stB st) (stB st'))
set_option maxRecDepth 100000 in
set_option maxHeartbeats 4000000 in
theorem try_zero (d s : List Pc) (r : Int × Int) (ha : allErr d s r = 0) (h1 : d.length ≤ 6) (h2 : s.length ≤ 10) (P : List Nat) (L : List Int) (hP : P ∈ enumP d s r.1 s.length []) (st : Option (List Nat)) (hst : ∀ b, st = some b → b.length = s.length ∧ ∀ x ∈ b, x < d.length) :
    PCq 38 (tryArgs s.length) (tryO d s r (toI P) L (stF st) (stW d s r st) (stB st)) (TryQ d s r s.length P L st (updV (wV d s r) st P)) := by
  have hsm : (s.map encPc).length = s.length := List.length_map ..
  obtain ⟨he, hle⟩ := (enum_left ha P).1 hP
  have hPl := he.len
  have cW := rWasteRow_pc d s r (toI P) hle
  have cC := rCutFrom_pc P d.length he.lt (by omega)
  have hw : ∀ x : List Nat, wV d s r x = (wasteV d s r (toI x), usedDr x d.length) := fun _ => rfl
  have cK := cloneIr_pc (toI P) (by rw [toI_len]; omega)
  have hPP : ∀ b, some P = some b → b.length = s.length ∧ ∀ x ∈ b, x < d.length := fun b hb => by cases hb; exact ⟨hPl, he.lt⟩
  cases st with
  | none =>
    show PCq _ (tryArgs s.length) (tryO d s r (toI P) L false 0 []) _
    refine fn_soundX (mt := mts) tab_fits tab_mixed Tryz.func38 (by rfl) (by kernel_rfl) (by kernel_rfl) Tryz.results38 (Nat.le_of_ble_eq_true (by kernel_rfl)) ?_
    conv => whnf
    repeat' (first | ((first | refine Split.mk (fun h => ?_) (fun h => ?_) | refine CondG.mk (fun h => ?_) (fun h => ?_)) <;> (try simp only [decide_eq_true_eq, decide_eq_false_iff_not, Bool.not_eq_true', Bool.not_eq_false', beq_iff_eq, beq_eq_false_iff_ne, bne_iff_ne, bne_eq_false_iff_eq] at h) <;> (first | (exfalso; first | omega | exact h trivial) | (conv => whnf))) | (refine CallX.mk _ _ (by first | exact cW | exact cC | exact cK) ?_; conv => whnf) | (refine CallG.mk _ _ (by first | exact cW | exact cC | exact cK) ?_; conv => whnf) | (refine Ask.mk (by first | omega | (unfold roomOK; simp [cutRows]; done) | (unfold roomOK; simp [cutRows]; omega) | (simp [cutRows]; done) | (simp [cutRows]; omega)) ?_; conv => whnf) | (refine AppG.mk (by first | omega | (unfold roomOK; simp [cutRows]; done) | (unfold roomOK; simp [cutRows]; omega) | (simp [cutRows]; done) | (simp [cutRows]; omega)) ?_; conv => whnf) | (refine SliceG.fr ?_; conv => whnf) | (refine idx_at _ (by with_reducible rfl) (by first | assumption | omega) ?_; conv => whnf) | ((with_reducible refine row_map (by first | assumption | omega) ?_); conv => whnf) | ((with_reducible refine row_set (by first | assumption | omega | (simp only [List.length_set]; omega) | (simp; omega)) ?_); conv => whnf) | fail)
    all_goals first | (cases ‹false = true›; done) | skip
    refine FinX.mk _ _ ?_ (.mk ⟨rfl, rfl⟩)
    unfold TryQ
    exact ⟨P, hPl, rfl, rfl, hPP, .inr rfl⟩
  | some b =>
    obtain ⟨hb1, hb2⟩ := hst b rfl
    have cB := rCutFrom_pc b d.length hb2 (by omega)
    show PCq _ (tryArgs s.length) (tryO d s r (toI P) L true (wasteV d s r (toI b)) (toI b)) _
    refine fn_soundX (mt := mts) tab_fits tab_mixed Tryz.func38 (by rfl) (by kernel_rfl) (by kernel_rfl) Tryz.results38 (Nat.le_of_ble_eq_true (by kernel_rfl)) ?_
    conv => whnf
    repeat' (first | ((first | refine Split.mk (fun h => ?_) (fun h => ?_) | refine CondG.mk (fun h => ?_) (fun h => ?_)) <;> (try simp only [decide_eq_true_eq, decide_eq_false_iff_not, Bool.not_eq_true', Bool.not_eq_false', beq_iff_eq, beq_eq_false_iff_ne, bne_iff_ne, bne_eq_false_iff_eq] at h) <;> (first | (exfalso; first | omega | exact h trivial) | (conv => whnf))) | (refine CallX.mk _ _ (by first | exact cW | exact cC | exact cK | exact cB) ?_; conv => whnf) | (refine CallG.mk _ _ (by first | exact cW | exact cC | exact cK | exact cB) ?_; conv => whnf) | (refine Ask.mk (by first | omega | (unfold roomOK; simp [cutRows]; done) | (unfold roomOK; simp [cutRows]; omega) | (simp [cutRows]; done) | (simp [cutRows]; omega)) ?_; conv => whnf) | (refine AppG.mk (by first | omega | (unfold roomOK; simp [cutRows]; done) | (unfold roomOK; simp [cutRows]; omega) | (simp [cutRows]; done) | (simp [cutRows]; omega)) ?_; conv => whnf) | (refine SliceG.fr ?_; conv => whnf) | (refine idx_at _ (by with_reducible rfl) (by first | assumption | omega) ?_; conv => whnf) | ((with_reducible refine row_map (by first | assumption | omega) ?_); conv => whnf) | ((with_reducible refine row_set (by first | assumption | omega | (simp only [List.length_set]; omega) | (simp; omega)) ?_); conv => whnf) | fail)
    all_goals first | (cases ‹true = false›; done) | skip
    · rename_i h
      have hu : updV (wV d s r) (some b) P = some P := by
        show (if scLt (wV d s r P) (wV d s r b) then some P else some b) = some P
        rw [if_pos (.inl h)]
      rw [hu]
      refine FinX.mk _ _ ?_ (.mk ⟨rfl, rfl⟩)
      unfold TryQ
      exact ⟨P, hPl, rfl, rfl, hPP, .inr rfl⟩
    · rename_i h
      have hu : updV (wV d s r) (some b) P = some P := by
        show (if scLt (wV d s r P) (wV d s r b) then some P else some b) = some P
        rw [if_pos (.inr ⟨by assumption, h⟩)]
      rw [hu]
      refine FinX.mk _ _ ?_ (.mk ⟨rfl, rfl⟩)
      unfold TryQ
      exact ⟨P, hPl, rfl, rfl, hPP, .inr rfl⟩
    all_goals
      have hu : updV (wV d s r) (some b) P = some b := by
        show (if scLt (wV d s r P) (wV d s r b) then some P else some b) = some b
        rw [if_neg (by unfold scLt; rw [hw, hw]; simp only; omega)]
      rw [hu]
      refine FinX.mk _ _ ?_ (.mk ⟨rfl, rfl⟩)
      unfold TryQ
      exact ⟨P, hPl, rfl, rfl, hst, .inl ⟨rfl, rfl⟩⟩
theorem putL1 (x : V) (y : Int) : putL 0 [x] (encI y) = [x] := rfl
abbrev stLoop (i n k : Nat) (os : List Ob) (nx : Nat) : St := ⟨zipF [0, 1, 2, 3, 4, 8, 9, 46, 47] [.c (.int .i64 (i : Int)), .c (.ptr 0 0), .c (.ptr 1 0), .c (.ptr 2 0), .c (.ptr 3 0), .c (.ptr 9 0), .c (.ptr 11 0), .c (.int .i64 (n : Int)), .c (.int .i64 (k : Int))], zipO 0 os, nx⟩
def tryI (d s : List Pc) (r : Int × Int) (m i : Nat) (P T : List Nat) (L : List Int) (st : Option (List Nat)) (j : Nat) (σ : St) : Prop :=
  ∃ (k : Nat) (P' : List Nat) (st' : Option (List Nat)), k ≤ d.length ∧ j = d.length - k ∧ P'.length = s.length ∧ P'.take i = T ∧ st' = (enumK d s r.1 m T k).foldl (updV (wV d s r)) st ∧ (∀ b, st' = some b → b.length = s.length ∧ ∀ x ∈ b, x < d.length) ∧
    ((stB st' = stB st ∧ σ = stLoop i (d.map encPc).length k (tryO d s r (toI P') L (stF st') (stW d s r st') (stB st)) 12) ∨ σ = stLoop i (d.map encPc).length k (tryN d s r (toI P') L (stF st') (stW d s r st') (stB st) (stB st')) 13)
theorem needV_app (s : List Pc) (lost : Int) (T : List Nat) (k j : Nat) : needV s lost (toI (T ++ [k])) j (T.length + 1) = needV s lost (toI T) j T.length + (if k = j then (s.getD T.length default).long + lost else 0) := by
  have h := needV_take s lost (T ++ [k]) j T.length T.length (Nat.le_refl _) (by simp)
  rw [List.take_left'] at h
  · rw [needV, ← h, toI_at (T ++ [k]) (by simp)]
    have e : (T ++ [k])[T.length]'(by simp) = k := by simp
    rw [e]
    by_cases e2 : k = j
    · rw [if_pos (by omega), if_pos e2]
    · rw [if_neg (by omega), if_neg e2]
  · rfl
theorem left_dn (d s : List Pc) (lost : Int) (T : List Nat) {k : Nat} (hk : k < d.length) (x : Int) (hx : x = (leftL d s lost (toI T) T.length).getD k 0 - ((s.getD T.length default).long + lost)) : (leftL d s lost (toI T) T.length).set k x = leftL d s lost (toI (T ++ [k])) (T.length + 1) := by
  apply List.ext_getElem
  · simp [leftL_len]
  · intro j h1 h2
    rw [List.getElem_set, leftL_get h2, needV_app]
    have h3 : j < (leftL d s lost (toI T) T.length).length := by rw [leftL_len]; rw [leftL_len] at h2; exact h2
    by_cases e : k = j
    · subst e
      rw [if_pos rfl, if_pos rfl, hx, List.getD_eq_getElem?_getD, List.getElem?_eq_getElem h3, Option.getD_some, leftL_get h3]; omega
    · rw [if_neg e, if_neg e, leftL_get h3]; omega
theorem left_up (d s : List Pc) (lost : Int) (T : List Nat) {k : Nat} (hk : k < d.length) (x : Int) (hx : x = (leftL d s lost (toI (T ++ [k])) (T.length + 1)).getD k 0 + ((s.getD T.length default).long + lost)) : (leftL d s lost (toI (T ++ [k])) (T.length + 1)).set k x = leftL d s lost (toI T) T.length := by
  apply List.ext_getElem
  · simp [leftL_len]
  · intro j h1 h2
    have h3 : j < (leftL d s lost (toI (T ++ [k])) (T.length + 1)).length := by rw [leftL_len]; rw [leftL_len] at h2; exact h2
    rw [List.getElem_set, leftL_get h2]
    by_cases e : k = j
    · subst e
      rw [if_pos rfl, hx, List.getD_eq_getElem?_getD, List.getElem?_eq_getElem h3, Option.getD_some, leftL_get h3, needV_app, if_pos rfl]; omega
    · rw [if_neg e, leftL_get h3, needV_app, if_neg e]; omega
set_option maxRecDepth 100000 in
set_option maxHeartbeats 4000000 in
theorem try_step (d s : List Pc) (r : Int × Int) (ha : allErr d s r = 0) (h1 : d.length ≤ 6) (h2 : s.length ≤ 10) (m i : Nat) (him : i + (m + 1) = s.length) (P : List Nat) (hPl : P.length = s.length) (hP : P.take i ∈ enumP d s r.1 i []) (st : Option (List Nat)) (hst : ∀ b, st = some b → b.length = s.length ∧ ∀ x ∈ b, x < d.length)
    (ih : ∀ (P : List Nat) (st : Option (List Nat)), P.length = s.length → P.take (i + 1) ∈ enumP d s r.1 (i + 1) [] → (∀ b, st = some b → b.length = s.length ∧ ∀ x ∈ b, x < d.length) →
      PCq 38 (tryArgs (i + 1)) (tryO d s r (toI P) (leftL d s r.1 (toI (P.take (i + 1))) (i + 1)) (stF st) (stW d s r st) (stB st)) (TryQ d s r (i + 1) P (leftL d s r.1 (toI (P.take (i + 1))) (i + 1)) st ((enumP d s r.1 m (P.take (i + 1))).foldl (updV (wV d s r)) st))) :
    PCq 38 (tryArgs i) (tryO d s r (toI P) (leftL d s r.1 (toI (P.take i)) i) (stF st) (stW d s r st) (stB st)) (TryQ d s r i P (leftL d s r.1 (toI (P.take i)) i) st ((enumP d s r.1 (m + 1) (P.take i)).foldl (updV (wV d s r)) st)) := by
  have hsm : (s.map encPc).length = s.length := List.length_map ..
  have hdm : (d.map encPc).length = d.length := List.length_map ..
  obtain ⟨f1, f2, f3, f4, f5, f6⟩ := allErr_ok ha
  have hs := (pcFault_ok f2).2
  have hd := (pcFault_ok f1).2
  have his : i < s.length := by omega
  have hTl : (P.take i).length = i := by rw [List.length_take]; omega
  have hLl := leftL_len d s r.1 (toI (P.take i)) i
  have hE : enumP d s r.1 (m + 1) (P.take i) = enumK d s r.1 m (P.take i) d.length := rfl
  rw [hE]
  generalize hT : P.take i = T at *
  generalize hLg : leftL d s r.1 (toI T) i = L at *
  have hLm : (L.map encI).length = d.length := by rw [List.length_map, hLl]
  refine fn_soundX (mt := mts) tab_fits tab_mixed Tryz.func38 (by rfl) (by kernel_rfl) (by kernel_rfl) Tryz.results38 (Nat.le_of_ble_eq_true (by kernel_rfl)) ?_
  conv => whnf
  repeat' (first | ((first | refine Split.mk (fun h => ?_) (fun h => ?_) | refine CondG.mk (fun h => ?_) (fun h => ?_)) <;> (try simp only [decide_eq_true_eq, decide_eq_false_iff_not, Bool.not_eq_true', Bool.not_eq_false', beq_iff_eq, beq_eq_false_iff_ne, bne_iff_ne, bne_eq_false_iff_eq] at h) <;> (first | (exfalso; first | omega | exact h trivial) | (conv => whnf))) | (refine Ask.mk (by first | omega | (unfold roomOK; simp [cutRows]; done) | (unfold roomOK; simp [cutRows]; omega) | (simp [cutRows]; done) | (simp [cutRows]; omega)) ?_; conv => whnf) | (refine AppG.mk (by first | omega | (unfold roomOK; simp [cutRows]; done) | (unfold roomOK; simp [cutRows]; omega) | (simp [cutRows]; done) | (simp [cutRows]; omega)) ?_; conv => whnf) | (refine SliceG.fr ?_; conv => whnf) | (refine idx_at _ (by with_reducible rfl) (by first | assumption | omega) ?_; conv => whnf) | ((with_reducible refine row_map (by first | assumption | omega) ?_); conv => whnf) | ((with_reducible refine row_set (by first | assumption | omega | (simp only [List.length_set]; omega) | (simp; omega)) ?_); conv => whnf) | fail)
  refine .mk [] [0, 1, 2, 3, 4, 8, 9, 46, 47] (tryI d s r m i P T L st) d.length ?_ ?_
  · conv => whnf
    exact ⟨0, P, st, Nat.zero_le _, rfl, hPl, hT, rfl, hst, .inl ⟨rfl, rfl⟩⟩
  · rintro j σ ⟨k, P', st', hkn, rfl, hP'l, hP't, hst', hok, hσ⟩
    rcases Nat.lt_or_ge k d.length with hk | hk
    · have hil : (T ++ [k]).length = i + 1 := by simp [hTl]
      have hkT : T ++ [k] = (P'.set i k).take (i + 1) := by
        rw [List.take_succ_eq_append_getElem (by rw [List.length_set]; omega), List.getElem_set_self, List.take_set_of_le (Nat.le_refl _), hP't]
      have hdg : d.getD k default = d[k] := by simp [List.getD_eq_getElem?_getD, List.getElem?_eq_getElem hk]
      have hsg : s.getD i default = s[i] := by simp [List.getD_eq_getElem?_getD, List.getElem?_eq_getElem his]
      have hsi := hs _ (List.getElem_mem his)
      have hdk := hd _ (List.getElem_mem hk)
      have hn1 := needV_in hs f3 f4 (toI T) k i (by omega)
      have hkL : k < L.length := by omega
      have hLk : L[k] = d[k].long - needV s r.1 (toI T) k i := by
        have := leftL_get (d := d) (s := s) (lost := r.1) (plan := toI T) (m := i) (j := k) (by rw [hLg]; exact hkL)
        rw [hdg] at this
        rw [← this]; simp only [hLg]
      have hw1 : IntKind.i64.wrap (s[i].long + r.1) = s[i].long + r.1 := wrap_in (by omega) (by omega)
      have hw2 : IntKind.i64.wrap (L[k] - (s[i].long + r.1)) = L[k] - (s[i].long + r.1) := wrap_in (by omega) (by omega)
      have hfe : feas d s r.1 T k = decide (d[k].kind = s[i].kind ∧ s[i].long + r.1 ≤ L[k]) := by
        unfold feas; rw [hTl, hdg, hsg, hLk]
      have hKs := enumK_succ d s r.1 m T k
      have hPm : ((toI P').map encI).length = s.length := by rw [List.length_map, toI_len, hP'l]
      have hP2 : (toI P').length = s.length := by rw [toI_len, hP'l]
      have hno : feas d s r.1 T k = false → (enumK d s r.1 m T (k + 1)).foldl (updV (wV d s r)) st = st' := fun h => by
        rw [hKs, if_neg (by rw [h]; decide), List.append_nil, hst']
      have hiw : IntKind.i64.wrap ((i : Int) + 1) = ((i + 1 : Nat) : Int) := by rw [wrap_in (by omega) (by omega)]; omega
      have hP3 : ((toI P').map encI).set i [V.int .i64 ((k : Nat) : Int)] = (toI (P'.set i k)).map encI := by
        unfold toI; rw [List.map_set, List.map_set]; rfl
      have hgL : L.getD k 0 = L[k] := by simp [List.getD_eq_getElem?_getD, List.getElem?_eq_getElem hkL]
      have hdn := left_dn d s r.1 T hk (L[k] - (s[i].long + r.1)) (by rw [hTl, hLg, hgL, hsg])
      rw [hTl, hLg, hkT] at hdn
      have hup := fun (x : Int) hx => left_up d s r.1 T hk x hx
      rw [hTl, hkT, hLg] at hup
      have hL2l := leftL_len d s r.1 (toI ((P'.set i k).take (i + 1))) (i + 1)
      obtain ⟨L2, hL2⟩ : ∃ L2, L2 = leftL d s r.1 (toI ((P'.set i k).take (i + 1))) (i + 1) := ⟨_, rfl⟩
      rw [← hL2] at hdn hup hL2l
      have hL3 : (L.map encI).set k [V.int .i64 (L[k] - (s[i].long + r.1))] = L2.map encI := by
        have := congrArg (List.map encI) hdn
        rw [List.map_set] at this; exact this
      have hL2m : (L2.map encI).length = d.length := by rw [List.length_map, hL2l]
      have hkL2 : k < L2.length := by omega
      have hL2k : L2[k] = L[k] - (s[i].long + r.1) := by simp only [← hdn, List.getElem_set_self]
      have hup := hup L[k] (by
        rw [hsg, List.getD_eq_getElem?_getD, List.getElem?_eq_getElem hkL2, Option.getD_some, hL2k]; omega)
      have hw3 : IntKind.i64.wrap (L2[k] + (s[i].long + r.1)) = L[k] := by rw [hL2k, wrap_in (by omega) (by omega)]; omega
      have hL4 : (L2.map encI).set k [V.int .i64 L[k]] = L.map encI := by
        have := congrArg (List.map encI) hup
        rw [List.map_set] at this; exact this
      have hmem : feas d s r.1 T k = true → T ++ [k] ∈ enumP d s r.1 (i + 1) [] := fun hf => by
        obtain ⟨_, e2, e3⟩ := (enumP_mem d s r.1 i [] T).1 hP
        refine (enumP_mem d s r.1 (i + 1) [] (T ++ [k])).2 ⟨List.nil_prefix, by simp [hTl], fun j hj _ => ?_⟩
        by_cases e : j < T.length
        · rw [List.getElem_append_left e, List.take_append_of_le_length (by omega)]
          exact e3 j e (Nat.zero_le _)
        · have : j = T.length := by simp only [List.length_append, List.length_cons, List.length_nil] at hj; omega
          subst this
          rw [List.take_left' rfl]
          simp only [List.getElem_append_right (Nat.le_refl _), Nat.sub_self, List.getElem_cons_zero]
          exact ⟨hk, hf⟩
      rcases hσ with ⟨hB, rfl⟩ | rfl
      · conv => whnf
        repeat' (first | ((first | refine Split.mk (fun h => ?_) (fun h => ?_) | refine CondG.mk (fun h => ?_) (fun h => ?_)) <;> (try simp only [decide_eq_true_eq, decide_eq_false_iff_not, Bool.not_eq_true', Bool.not_eq_false', beq_iff_eq, beq_eq_false_iff_ne, bne_iff_ne, bne_eq_false_iff_eq] at h) <;> (first | (exfalso; first | omega | exact h trivial) | (conv => whnf))) | (refine Ask.mk (by first | omega | (unfold roomOK; simp [cutRows]; done) | (unfold roomOK; simp [cutRows]; omega) | (simp [cutRows]; done) | (simp [cutRows]; omega)) ?_; conv => whnf) | (refine AppG.mk (by first | omega | (unfold roomOK; simp [cutRows]; done) | (unfold roomOK; simp [cutRows]; omega) | (simp [cutRows]; done) | (simp [cutRows]; omega)) ?_; conv => whnf) | (refine SliceG.fr ?_; conv => whnf) | (refine idx_at _ (by with_reducible rfl) (by first | assumption | omega) ?_; conv => whnf) | ((with_reducible refine row_map (by first | assumption | omega) ?_); conv => whnf) | ((with_reducible refine row_set (by first | assumption | omega | (simp only [List.length_set]; omega) | (simp; omega)) ?_); conv => whnf) | ((refine idx_map k hk rfl ?_); conv => whnf) | ((refine idx_map i his rfl ?_); conv => whnf) | fail)
        all_goals simp only [Int.toNat_natCast] at *
        · have hf : feas d s r.1 T k = true := by rw [hfe, decide_eq_true_iff]; exact ⟨toList_inj (by assumption), by rw [← hw1]; assumption⟩
          simp only [putL1, hw1, hw2, hP3, hL3, hiw]
          have cI := ih (P'.set i k) st' (by rw [List.length_set, hP'l]) (by rw [← hkT]; exact hmem hf) hok
          rw [← hL2] at cI
          rw [hB] at cI
          refine .ex _ cI ?_
          intro R os hQ
          unfold TryQ at hQ
          obtain ⟨P2, g1, g2, rfl, g4, hos⟩ := hQ
          have hfold : (enumK d s r.1 m T (k + 1)).foldl (updV (wV d s r)) st = (enumP d s r.1 m ((P'.set i k).take (i + 1))).foldl (updV (wV d s r)) st' := by rw [hKs, if_pos hf, List.foldl_append, ← hst', hkT]
          rw [hB] at hos
          rw [← hfold] at g4 hos
          obtain ⟨st2, hst2⟩ : ∃ x, x = (enumK d s r.1 m T (k + 1)).foldl (updV (wV d s r)) st := ⟨_, rfl⟩
          rw [← hst2] at g4 hos
          have hPT : P2.take i = T := by
            have := congrArg (List.take i) g2
            rw [List.take_take, List.take_take, Nat.min_eq_left (by omega), List.take_set_of_le (Nat.le_refl _), hP't] at this
            exact this
          rcases hos with ⟨g5, rfl⟩ | rfl
          · conv => whnf
            repeat' (first | ((first | refine Split.mk (fun h => ?_) (fun h => ?_) | refine CondG.mk (fun h => ?_) (fun h => ?_)) <;> (try simp only [decide_eq_true_eq, decide_eq_false_iff_not, Bool.not_eq_true', Bool.not_eq_false', beq_iff_eq, beq_eq_false_iff_ne, bne_iff_ne, bne_eq_false_iff_eq] at h) <;> (first | (exfalso; first | omega | exact h trivial) | (conv => whnf))) | (refine Ask.mk (by first | omega | (unfold roomOK; simp [cutRows]; done) | (unfold roomOK; simp [cutRows]; omega) | (simp [cutRows]; done) | (simp [cutRows]; omega)) ?_; conv => whnf) | (refine AppG.mk (by first | omega | (unfold roomOK; simp [cutRows]; done) | (unfold roomOK; simp [cutRows]; omega) | (simp [cutRows]; done) | (simp [cutRows]; omega)) ?_; conv => whnf) | (refine SliceG.fr ?_; conv => whnf) | (refine idx_at _ (by with_reducible rfl) (by first | assumption | omega) ?_; conv => whnf) | ((with_reducible refine row_map (by first | assumption | omega) ?_); conv => whnf) | ((with_reducible refine row_set (by first | assumption | omega | (simp only [List.length_set]; omega) | (simp; omega)) ?_); conv => whnf) | ((refine idx_map k hk rfl ?_); conv => whnf) | ((refine idx_map i his rfl ?_); conv => whnf) | fail)
            all_goals simp only [Int.toNat_natCast] at *
            refine ⟨d.length - (k + 1), by omega, ?_⟩
            unfold tryI
            exact ⟨k + 1, P2, st2, by omega, rfl, g1, hPT, hst2, g4,   .inl ⟨g5, by rw [wrap_succ hk (by omega)]; simp only [putL1, hw1, hw3, hL4] <;> rfl⟩⟩
          · conv => whnf
            repeat' (first | ((first | refine Split.mk (fun h => ?_) (fun h => ?_) | refine CondG.mk (fun h => ?_) (fun h => ?_)) <;> (try simp only [decide_eq_true_eq, decide_eq_false_iff_not, Bool.not_eq_true', Bool.not_eq_false', beq_iff_eq, beq_eq_false_iff_ne, bne_iff_ne, bne_eq_false_iff_eq] at h) <;> (first | (exfalso; first | omega | exact h trivial) | (conv => whnf))) | (refine Ask.mk (by first | omega | (unfold roomOK; simp [cutRows]; done) | (unfold roomOK; simp [cutRows]; omega) | (simp [cutRows]; done) | (simp [cutRows]; omega)) ?_; conv => whnf) | (refine AppG.mk (by first | omega | (unfold roomOK; simp [cutRows]; done) | (unfold roomOK; simp [cutRows]; omega) | (simp [cutRows]; done) | (simp [cutRows]; omega)) ?_; conv => whnf) | (refine SliceG.fr ?_; conv => whnf) | (refine idx_at _ (by with_reducible rfl) (by first | assumption | omega) ?_; conv => whnf) | ((with_reducible refine row_map (by first | assumption | omega) ?_); conv => whnf) | ((with_reducible refine row_set (by first | assumption | omega | (simp only [List.length_set]; omega) | (simp; omega)) ?_); conv => whnf) | ((refine idx_map k hk rfl ?_); conv => whnf) | ((refine idx_map i his rfl ?_); conv => whnf) | fail)
            all_goals simp only [Int.toNat_natCast] at *
            refine ⟨d.length - (k + 1), by omega, ?_⟩
            unfold tryI
            exact ⟨k + 1, P2, st2, by omega, rfl, g1, hPT, hst2, g4, .inr (by rw [wrap_succ hk (by omega)]; simp only [putL1, hw1, hw3, hL4] <;> rfl)⟩
        all_goals
          have hf : feas d s r.1 T k = false := by
            rw [hfe, decide_eq_false_iff_not]
            rintro ⟨e1, e2⟩
            first
              | exact absurd (by rw [hw1]; exact e2) ‹¬ IntKind.i64.wrap (s[i].long + r.1) ≤ L[k]›
              | exact absurd (congrArg ByteArray.toList e1) ‹d[k].kind.toList ≠ s[i].kind.toList›
          refine ⟨d.length - (k + 1), by omega, ?_⟩
          unfold tryI
          exact ⟨k + 1, P', st', by omega, rfl, hP'l, hP't, (hno hf).symm, hok, .inl ⟨hB, by rw [wrap_succ hk (by omega)] <;> rfl⟩⟩
      · conv => whnf
        repeat' (first | ((first | refine Split.mk (fun h => ?_) (fun h => ?_) | refine CondG.mk (fun h => ?_) (fun h => ?_)) <;> (try simp only [decide_eq_true_eq, decide_eq_false_iff_not, Bool.not_eq_true', Bool.not_eq_false', beq_iff_eq, beq_eq_false_iff_ne, bne_iff_ne, bne_eq_false_iff_eq] at h) <;> (first | (exfalso; first | omega | exact h trivial) | (conv => whnf))) | (refine Ask.mk (by first | omega | (unfold roomOK; simp [cutRows]; done) | (unfold roomOK; simp [cutRows]; omega) | (simp [cutRows]; done) | (simp [cutRows]; omega)) ?_; conv => whnf) | (refine AppG.mk (by first | omega | (unfold roomOK; simp [cutRows]; done) | (unfold roomOK; simp [cutRows]; omega) | (simp [cutRows]; done) | (simp [cutRows]; omega)) ?_; conv => whnf) | (refine SliceG.fr ?_; conv => whnf) | (refine idx_at _ (by with_reducible rfl) (by first | assumption | omega) ?_; conv => whnf) | ((with_reducible refine row_map (by first | assumption | omega) ?_); conv => whnf) | ((with_reducible refine row_set (by first | assumption | omega | (simp only [List.length_set]; omega) | (simp; omega)) ?_); conv => whnf) | ((refine idx_map k hk rfl ?_); conv => whnf) | ((refine idx_map i his rfl ?_); conv => whnf) | fail)
        all_goals simp only [Int.toNat_natCast] at *
        · have hf : feas d s r.1 T k = true := by rw [hfe, decide_eq_true_iff]; exact ⟨toList_inj (by assumption), by rw [← hw1]; assumption⟩
          simp only [putL1, hw1, hw2, hP3, hL3, hiw]
          have cI := ih (P'.set i k) st' (by rw [List.length_set, hP'l]) (by rw [← hkT]; exact hmem hf) hok
          rw [← hL2] at cI
          refine .ex _ cI ?_
          intro R os hQ
          unfold TryQ at hQ
          obtain ⟨P2, g1, g2, rfl, g4, hos⟩ := hQ
          have hfold : (enumK d s r.1 m T (k + 1)).foldl (updV (wV d s r)) st = (enumP d s r.1 m ((P'.set i k).take (i + 1))).foldl (updV (wV d s r)) st' := by rw [hKs, if_pos hf, List.foldl_append, ← hst', hkT]
          rw [← hfold] at g4 hos
          obtain ⟨st2, hst2⟩ : ∃ x, x = (enumK d s r.1 m T (k + 1)).foldl (updV (wV d s r)) st := ⟨_, rfl⟩
          rw [← hst2] at g4 hos
          have hPT : P2.take i = T := by
            have := congrArg (List.take i) g2
            rw [List.take_take, List.take_take, Nat.min_eq_left (by omega), List.take_set_of_le (Nat.le_refl _), hP't] at this
            exact this
          rcases hos with ⟨g5, rfl⟩ | rfl
          · conv => whnf
            repeat' (first | ((first | refine Split.mk (fun h => ?_) (fun h => ?_) | refine CondG.mk (fun h => ?_) (fun h => ?_)) <;> (try simp only [decide_eq_true_eq, decide_eq_false_iff_not, Bool.not_eq_true', Bool.not_eq_false', beq_iff_eq, beq_eq_false_iff_ne, bne_iff_ne, bne_eq_false_iff_eq] at h) <;> (first | (exfalso; first | omega | exact h trivial) | (conv => whnf))) | (refine Ask.mk (by first | omega | (unfold roomOK; simp [cutRows]; done) | (unfold roomOK; simp [cutRows]; omega) | (simp [cutRows]; done) | (simp [cutRows]; omega)) ?_; conv => whnf) | (refine AppG.mk (by first | omega | (unfold roomOK; simp [cutRows]; done) | (unfold roomOK; simp [cutRows]; omega) | (simp [cutRows]; done) | (simp [cutRows]; omega)) ?_; conv => whnf) | (refine SliceG.fr ?_; conv => whnf) | (refine idx_at _ (by with_reducible rfl) (by first | assumption | omega) ?_; conv => whnf) | ((with_reducible refine row_map (by first | assumption | omega) ?_); conv => whnf) | ((with_reducible refine row_set (by first | assumption | omega | (simp only [List.length_set]; omega) | (simp; omega)) ?_); conv => whnf) | ((refine idx_map k hk rfl ?_); conv => whnf) | ((refine idx_map i his rfl ?_); conv => whnf) | fail)
            all_goals simp only [Int.toNat_natCast] at *
            refine ⟨d.length - (k + 1), by omega, ?_⟩
            unfold tryI
            exact ⟨k + 1, P2, st2, by omega, rfl, g1, hPT, hst2, g4, .inr (by rw [wrap_succ hk (by omega)]; simp only [putL1, hw1, hw3, hL4, g5] <;> rfl)⟩
          · conv => whnf
            repeat' (first | ((first | refine Split.mk (fun h => ?_) (fun h => ?_) | refine CondG.mk (fun h => ?_) (fun h => ?_)) <;> (try simp only [decide_eq_true_eq, decide_eq_false_iff_not, Bool.not_eq_true', Bool.not_eq_false', beq_iff_eq, beq_eq_false_iff_ne, bne_iff_ne, bne_eq_false_iff_eq] at h) <;> (first | (exfalso; first | omega | exact h trivial) | (conv => whnf))) | (refine Ask.mk (by first | omega | (unfold roomOK; simp [cutRows]; done) | (unfold roomOK; simp [cutRows]; omega) | (simp [cutRows]; done) | (simp [cutRows]; omega)) ?_; conv => whnf) | (refine AppG.mk (by first | omega | (unfold roomOK; simp [cutRows]; done) | (unfold roomOK; simp [cutRows]; omega) | (simp [cutRows]; done) | (simp [cutRows]; omega)) ?_; conv => whnf) | (refine SliceG.fr ?_; conv => whnf) | (refine idx_at _ (by with_reducible rfl) (by first | assumption | omega) ?_; conv => whnf) | ((with_reducible refine row_map (by first | assumption | omega) ?_); conv => whnf) | ((with_reducible refine row_set (by first | assumption | omega | (simp only [List.length_set]; omega) | (simp; omega)) ?_); conv => whnf) | ((refine idx_map k hk rfl ?_); conv => whnf) | ((refine idx_map i his rfl ?_); conv => whnf) | fail)
            all_goals simp only [Int.toNat_natCast] at *
            refine ⟨d.length - (k + 1), by omega, ?_⟩
            unfold tryI
            exact ⟨k + 1, P2, st2, by omega, rfl, g1, hPT, hst2, g4, .inr (by rw [wrap_succ hk (by omega)]; simp only [putL1, hw1, hw3, hL4] <;> rfl)⟩
        all_goals
          have hf : feas d s r.1 T k = false := by
            rw [hfe, decide_eq_false_iff_not]
            rintro ⟨e1, e2⟩
            first
              | exact absurd (by rw [hw1]; exact e2) ‹¬ IntKind.i64.wrap (s[i].long + r.1) ≤ L[k]›
              | exact absurd (congrArg ByteArray.toList e1) ‹d[k].kind.toList ≠ s[i].kind.toList›
          refine ⟨d.length - (k + 1), by omega, ?_⟩
          unfold tryI
          exact ⟨k + 1, P', st', by omega, rfl, hP'l, hP't, (hno hf).symm, hok, .inr (by rw [wrap_succ hk (by omega)] <;> rfl)⟩
    · have hkd : k = d.length := by omega
      subst hkd
      rcases hσ with ⟨hB, rfl⟩ | rfl
      · conv => whnf
        repeat' (first | ((first | refine Split.mk (fun h => ?_) (fun h => ?_) | refine CondG.mk (fun h => ?_) (fun h => ?_)) <;> (try simp only [decide_eq_true_eq, decide_eq_false_iff_not, Bool.not_eq_true', Bool.not_eq_false', beq_iff_eq, beq_eq_false_iff_ne, bne_iff_ne, bne_eq_false_iff_eq] at h) <;> (first | (exfalso; first | omega | exact h trivial) | (conv => whnf))) | (refine Ask.mk (by first | omega | (unfold roomOK; simp [cutRows]; done) | (unfold roomOK; simp [cutRows]; omega) | (simp [cutRows]; done) | (simp [cutRows]; omega)) ?_; conv => whnf) | (refine AppG.mk (by first | omega | (unfold roomOK; simp [cutRows]; done) | (unfold roomOK; simp [cutRows]; omega) | (simp [cutRows]; done) | (simp [cutRows]; omega)) ?_; conv => whnf) | (refine SliceG.fr ?_; conv => whnf) | (refine idx_at _ (by with_reducible rfl) (by first | assumption | omega) ?_; conv => whnf) | ((with_reducible refine row_map (by first | assumption | omega) ?_); conv => whnf) | ((with_reducible refine row_set (by first | assumption | omega | (simp only [List.length_set]; omega) | (simp; omega)) ?_); conv => whnf) | fail)
        refine FinX.mk _ _ ?_ (.mk ⟨rfl, rfl⟩)
        unfold TryQ
        exact ⟨P', hP'l, by rw [hP't, hT], rfl, by rw [← hst']; exact hok, .inl ⟨by rw [← hst']; exact hB, by rw [← hst']⟩⟩
      · conv => whnf
        repeat' (first | ((first | refine Split.mk (fun h => ?_) (fun h => ?_) | refine CondG.mk (fun h => ?_) (fun h => ?_)) <;> (try simp only [decide_eq_true_eq, decide_eq_false_iff_not, Bool.not_eq_true', Bool.not_eq_false', beq_iff_eq, beq_eq_false_iff_ne, bne_iff_ne, bne_eq_false_iff_eq] at h) <;> (first | (exfalso; first | omega | exact h trivial) | (conv => whnf))) | (refine Ask.mk (by first | omega | (unfold roomOK; simp [cutRows]; done) | (unfold roomOK; simp [cutRows]; omega) | (simp [cutRows]; done) | (simp [cutRows]; omega)) ?_; conv => whnf) | (refine AppG.mk (by first | omega | (unfold roomOK; simp [cutRows]; done) | (unfold roomOK; simp [cutRows]; omega) | (simp [cutRows]; done) | (simp [cutRows]; omega)) ?_; conv => whnf) | (refine SliceG.fr ?_; conv => whnf) | (refine idx_at _ (by with_reducible rfl) (by first | assumption | omega) ?_; conv => whnf) | ((with_reducible refine row_map (by first | assumption | omega) ?_); conv => whnf) | ((with_reducible refine row_set (by first | assumption | omega | (simp only [List.length_set]; omega) | (simp; omega)) ?_); conv => whnf) | fail)
        refine FinX.mk _ _ ?_ (.mk ⟨rfl, rfl⟩)
        unfold TryQ
        exact ⟨P', hP'l, by rw [hP't, hT], rfl, by rw [← hst']; exact hok, .inr (by rw [← hst'])⟩
end Go.Proofs.YtobcplhaabaemaaGreatDoor

/- The document's closure, where nothing is found yet; all plans; PlanOf. -/
namespace Go.Proofs.YtobcplhaabaemaaGreatDoor
set_option linter.unusedVariables false
set_option linter.unusedSimpArgs false
open Abs

theorem try_all (d s : List Pc) (r : Int × Int) (ha : allErr d s r = 0) (h1 : d.length ≤ 6) (h2 : s.length ≤ 10) : ∀ (m i : Nat), i + m = s.length → ∀ (P : List Nat) (st : Option (List Nat)), P.length = s.length → P.take i ∈ enumP d s r.1 i [] → (∀ b, st = some b → b.length = s.length ∧ ∀ x ∈ b, x < d.length) →
    PCq 38 (tryArgs i) (tryO d s r (toI P) (leftL d s r.1 (toI (P.take i)) i) (stF st) (stW d s r st) (stB st)) (TryQ d s r i P (leftL d s r.1 (toI (P.take i)) i) st ((enumP d s r.1 m (P.take i)).foldl (updV (wV d s r)) st))
  | 0, i, him, P, st, hPl, hP, hst => by
    have : i = s.length := by omega
    subst this
    have hPP : P.take s.length = P := List.take_of_length_le (by omega)
    rw [hPP] at hP ⊢
    exact try_zero d s r ha h1 h2 P _ hP st hst
  | m + 1, i, him, P, st, hPl, hP, hst => try_step d s r ha h1 h2 m i him P hPl hP st hst (fun P st a b c => try_all d s r ha h1 h2 m (i + 1) (by omega) P st a b c)
/-! where nothing is found yet: the best plan is nil -/
abbrev tryO0 (d s : List Pc) (r : Int × Int) (P L : List Int) : List Ob :=
  [.box [.lst 3 (s.map encPc)], .box [.lst 3 (d.map encPc)], .box [.int .i64 r.1, .int .i64 r.2], .box [.row 4], .row 3 1 (P.map encI), .box [.bool false], .box [.int .i64 0], .box [.nils], .box [.row 9], .row 3 1 (L.map encI), .box [.fn 38 [.ptr 0 0, .ptr 1 0, .ptr 2 0, .ptr 3 0, .ptr 5 0, .ptr 6 0, .ptr 7 0, .ptr 8 0, .ptr 10 0]]]
abbrev tryN0 (d s : List Pc) (r : Int × Int) (P L : List Int) (fd : Bool) (w : Int) (B' : List Int) : List Ob :=
  [.box [.lst 3 (s.map encPc)], .box [.lst 3 (d.map encPc)], .box [.int .i64 r.1, .int .i64 r.2], .box [.row 4], .row 3 1 (P.map encI), .box [.bool fd], .box [.int .i64 w], .box [.row 11], .box [.row 9], .row 3 1 (L.map encI), .box [.fn 38 [.ptr 0 0, .ptr 1 0, .ptr 2 0, .ptr 3 0, .ptr 5 0, .ptr 6 0, .ptr 7 0, .ptr 8 0, .ptr 10 0]], .row 3 1 (B'.map encI)]
abbrev tryArgs0 (i : Nat) : List S := [.c (.int .i64 (i : Int)), .c (.ptr 0 0), .c (.ptr 1 0), .c (.ptr 2 0), .c (.ptr 3 0), .c (.ptr 5 0), .c (.ptr 6 0), .c (.ptr 7 0), .c (.ptr 8 0), .c (.ptr 10 0)]
def TryQ0 (d s : List Pc) (r : Int × Int) (i : Nat) (P : List Nat) (L : List Int) (st' : Option (List Nat)) (R : S) (os : List Ob) : Prop :=
  ∃ P' : List Nat, P'.length = s.length ∧ P'.take i = P.take i ∧ R = .tup [] ∧ (∀ b, st' = some b → b.length = s.length ∧ ∀ x ∈ b, x < d.length) ∧
    ((st' = none ∧ os = tryO0 d s r (toI P') L) ∨ os = tryN0 d s r (toI P') L (stF st') (stW d s r st') (stB st'))
abbrev stLoop0 (i n k : Nat) (os : List Ob) (nx : Nat) : St := ⟨zipF [0, 1, 2, 3, 4, 8, 9, 46, 47] [.c (.int .i64 (i : Int)), .c (.ptr 0 0), .c (.ptr 1 0), .c (.ptr 2 0), .c (.ptr 3 0), .c (.ptr 8 0), .c (.ptr 10 0), .c (.int .i64 (n : Int)), .c (.int .i64 (k : Int))], zipO 0 os, nx⟩
def tryI0 (d s : List Pc) (r : Int × Int) (m i : Nat) (P T : List Nat) (L : List Int) (j : Nat) (σ : St) : Prop :=
  ∃ (k : Nat) (P' : List Nat) (st' : Option (List Nat)), k ≤ d.length ∧ j = d.length - k ∧ P'.length = s.length ∧ P'.take i = T ∧ st' = (enumK d s r.1 m T k).foldl (updV (wV d s r)) none ∧ (∀ b, st' = some b → b.length = s.length ∧ ∀ x ∈ b, x < d.length) ∧
    ((st' = none ∧ σ = stLoop0 i (d.map encPc).length k (tryO0 d s r (toI P') L) 11) ∨ σ = stLoop0 i (d.map encPc).length k (tryN0 d s r (toI P') L (stF st') (stW d s r st') (stB st')) 12)
set_option maxRecDepth 100000 in
set_option maxHeartbeats 4000000 in
theorem try0_zero (d s : List Pc) (r : Int × Int) (ha : allErr d s r = 0) (h1 : d.length ≤ 6) (h2 : s.length ≤ 10) (P : List Nat) (L : List Int) (hP : P ∈ enumP d s r.1 s.length []) :
    PCq 38 (tryArgs0 s.length) (tryO0 d s r (toI P) L) (TryQ0 d s r s.length P L (some P)) := by
  have hsm : (s.map encPc).length = s.length := List.length_map ..
  obtain ⟨he, hle⟩ := (enum_left ha P).1 hP
  have hPl := he.len
  have cW := rWasteRow_pc d s r (toI P) hle
  have cC := rCutFrom_pc P d.length he.lt (by omega)
  have hw : ∀ x : List Nat, wV d s r x = (wasteV d s r (toI x), usedDr x d.length) := fun _ => rfl
  have cK := cloneIr_pc (toI P) (by rw [toI_len]; omega)
  have hPP : ∀ b, some P = some b → b.length = s.length ∧ ∀ x ∈ b, x < d.length := fun b hb => by cases hb; exact ⟨hPl, he.lt⟩
  refine fn_soundX (mt := mts) tab_fits tab_mixed Tryz.func38 (by rfl) (by kernel_rfl) (by kernel_rfl) Tryz.results38 (Nat.le_of_ble_eq_true (by kernel_rfl)) ?_
  conv => whnf
  repeat' (first | ((first | refine Split.mk (fun h => ?_) (fun h => ?_) | refine CondG.mk (fun h => ?_) (fun h => ?_)) <;> (try simp only [decide_eq_true_eq, decide_eq_false_iff_not, Bool.not_eq_true', Bool.not_eq_false', beq_iff_eq, beq_eq_false_iff_ne, bne_iff_ne, bne_eq_false_iff_eq] at h) <;> (first | (exfalso; first | omega | exact h trivial) | (conv => whnf))) | (refine CallX.mk _ _ (by first | exact cW | exact cC | exact cK) ?_; conv => whnf) | (refine CallG.mk _ _ (by first | exact cW | exact cC | exact cK) ?_; conv => whnf) | (refine Ask.mk (by first | omega | (unfold roomOK; simp [cutRows]; done) | (unfold roomOK; simp [cutRows]; omega) | (simp [cutRows]; done) | (simp [cutRows]; omega)) ?_; conv => whnf) | (refine AppG.mk (by first | omega | (unfold roomOK; simp [cutRows]; done) | (unfold roomOK; simp [cutRows]; omega) | (simp [cutRows]; done) | (simp [cutRows]; omega)) ?_; conv => whnf) | (refine SliceG.fr ?_; conv => whnf) | (refine idx_at _ (by with_reducible rfl) (by first | assumption | omega) ?_; conv => whnf) | ((with_reducible refine row_map (by first | assumption | omega) ?_); conv => whnf) | ((with_reducible refine row_set (by first | assumption | omega | (simp only [List.length_set]; omega) | (simp; omega)) ?_); conv => whnf) | fail)
  all_goals first | (cases ‹false = true›; done) | skip
  refine FinX.mk _ _ ?_ (.mk ⟨rfl, rfl⟩)
  unfold TryQ0
  exact ⟨P, hPl, rfl, rfl, hPP, .inr rfl⟩
set_option maxRecDepth 100000 in
set_option maxHeartbeats 4000000 in
theorem try0_step (d s : List Pc) (r : Int × Int) (ha : allErr d s r = 0) (h1 : d.length ≤ 6) (h2 : s.length ≤ 10) (m i : Nat) (him : i + (m + 1) = s.length) (P : List Nat) (hPl : P.length = s.length) (hP : P.take i ∈ enumP d s r.1 i [])
    (ih0 : ∀ (P : List Nat), P.length = s.length → P.take (i + 1) ∈ enumP d s r.1 (i + 1) [] →
      PCq 38 (tryArgs0 (i + 1)) (tryO0 d s r (toI P) (leftL d s r.1 (toI (P.take (i + 1))) (i + 1))) (TryQ0 d s r (i + 1) P (leftL d s r.1 (toI (P.take (i + 1))) (i + 1)) ((enumP d s r.1 m (P.take (i + 1))).foldl (updV (wV d s r)) none)))
    (ih : ∀ (P : List Nat) (st : Option (List Nat)), P.length = s.length → P.take (i + 1) ∈ enumP d s r.1 (i + 1) [] → (∀ b, st = some b → b.length = s.length ∧ ∀ x ∈ b, x < d.length) →
      PCq 38 (tryArgs (i + 1)) (tryO d s r (toI P) (leftL d s r.1 (toI (P.take (i + 1))) (i + 1)) (stF st) (stW d s r st) (stB st)) (TryQ d s r (i + 1) P (leftL d s r.1 (toI (P.take (i + 1))) (i + 1)) st ((enumP d s r.1 m (P.take (i + 1))).foldl (updV (wV d s r)) st))) :
    PCq 38 (tryArgs0 i) (tryO0 d s r (toI P) (leftL d s r.1 (toI (P.take i)) i)) (TryQ0 d s r i P (leftL d s r.1 (toI (P.take i)) i) ((enumP d s r.1 (m + 1) (P.take i)).foldl (updV (wV d s r)) none)) := by
  have hsm : (s.map encPc).length = s.length := List.length_map ..
  have hdm : (d.map encPc).length = d.length := List.length_map ..
  obtain ⟨f1, f2, f3, f4, f5, f6⟩ := allErr_ok ha
  have hs := (pcFault_ok f2).2
  have hd := (pcFault_ok f1).2
  have his : i < s.length := by omega
  have hTl : (P.take i).length = i := by rw [List.length_take]; omega
  have hLl := leftL_len d s r.1 (toI (P.take i)) i
  have hE : enumP d s r.1 (m + 1) (P.take i) = enumK d s r.1 m (P.take i) d.length := rfl
  rw [hE]
  generalize hT : P.take i = T at *
  generalize hLg : leftL d s r.1 (toI T) i = L at *
  have hLm : (L.map encI).length = d.length := by rw [List.length_map, hLl]
  refine fn_soundX (mt := mts) tab_fits tab_mixed Tryz.func38 (by rfl) (by kernel_rfl) (by kernel_rfl) Tryz.results38 (Nat.le_of_ble_eq_true (by kernel_rfl)) ?_
  conv => whnf
  repeat' (first | ((first | refine Split.mk (fun h => ?_) (fun h => ?_) | refine CondG.mk (fun h => ?_) (fun h => ?_)) <;> (try simp only [decide_eq_true_eq, decide_eq_false_iff_not, Bool.not_eq_true', Bool.not_eq_false', beq_iff_eq, beq_eq_false_iff_ne, bne_iff_ne, bne_eq_false_iff_eq] at h) <;> (first | (exfalso; first | omega | exact h trivial) | (conv => whnf))) | (refine Ask.mk (by first | omega | (unfold roomOK; simp [cutRows]; done) | (unfold roomOK; simp [cutRows]; omega) | (simp [cutRows]; done) | (simp [cutRows]; omega)) ?_; conv => whnf) | (refine AppG.mk (by first | omega | (unfold roomOK; simp [cutRows]; done) | (unfold roomOK; simp [cutRows]; omega) | (simp [cutRows]; done) | (simp [cutRows]; omega)) ?_; conv => whnf) | (refine SliceG.fr ?_; conv => whnf) | (refine idx_at _ (by with_reducible rfl) (by first | assumption | omega) ?_; conv => whnf) | ((with_reducible refine row_map (by first | assumption | omega) ?_); conv => whnf) | ((with_reducible refine row_set (by first | assumption | omega | (simp only [List.length_set]; omega) | (simp; omega)) ?_); conv => whnf) | fail)
  refine .mk [] [0, 1, 2, 3, 4, 8, 9, 46, 47] (tryI0 d s r m i P T L) d.length ?_ ?_
  · conv => whnf
    exact ⟨0, P, none, Nat.zero_le _, rfl, hPl, hT, rfl, (fun b hb => by cases hb), .inl ⟨rfl, rfl⟩⟩
  · rintro j σ ⟨k, P', st', hkn, rfl, hP'l, hP't, hst', hok, hσ⟩
    rcases Nat.lt_or_ge k d.length with hk | hk
    · have hil : (T ++ [k]).length = i + 1 := by simp [hTl]
      have hkT : T ++ [k] = (P'.set i k).take (i + 1) := by
        rw [List.take_succ_eq_append_getElem (by rw [List.length_set]; omega), List.getElem_set_self, List.take_set_of_le (Nat.le_refl _), hP't]
      have hdg : d.getD k default = d[k] := by simp [List.getD_eq_getElem?_getD, List.getElem?_eq_getElem hk]
      have hsg : s.getD i default = s[i] := by simp [List.getD_eq_getElem?_getD, List.getElem?_eq_getElem his]
      have hsi := hs _ (List.getElem_mem his)
      have hdk := hd _ (List.getElem_mem hk)
      have hn1 := needV_in hs f3 f4 (toI T) k i (by omega)
      have hkL : k < L.length := by omega
      have hLk : L[k] = d[k].long - needV s r.1 (toI T) k i := by
        have := leftL_get (d := d) (s := s) (lost := r.1) (plan := toI T) (m := i) (j := k) (by rw [hLg]; exact hkL)
        rw [hdg] at this
        rw [← this]; simp only [hLg]
      have hw1 : IntKind.i64.wrap (s[i].long + r.1) = s[i].long + r.1 := wrap_in (by omega) (by omega)
      have hw2 : IntKind.i64.wrap (L[k] - (s[i].long + r.1)) = L[k] - (s[i].long + r.1) := wrap_in (by omega) (by omega)
      have hfe : feas d s r.1 T k = decide (d[k].kind = s[i].kind ∧ s[i].long + r.1 ≤ L[k]) := by
        unfold feas; rw [hTl, hdg, hsg, hLk]
      have hKs := enumK_succ d s r.1 m T k
      have hPm : ((toI P').map encI).length = s.length := by rw [List.length_map, toI_len, hP'l]
      have hP2 : (toI P').length = s.length := by rw [toI_len, hP'l]
      have hno : feas d s r.1 T k = false → (enumK d s r.1 m T (k + 1)).foldl (updV (wV d s r)) none = st' := fun h => by
        rw [hKs, if_neg (by rw [h]; decide), List.append_nil, hst']
      have hiw : IntKind.i64.wrap ((i : Int) + 1) = ((i + 1 : Nat) : Int) := by rw [wrap_in (by omega) (by omega)]; omega
      have hP3 : ((toI P').map encI).set i [V.int .i64 ((k : Nat) : Int)] = (toI (P'.set i k)).map encI := by
        unfold toI; rw [List.map_set, List.map_set]; rfl
      have hgL : L.getD k 0 = L[k] := by simp [List.getD_eq_getElem?_getD, List.getElem?_eq_getElem hkL]
      have hdn := left_dn d s r.1 T hk (L[k] - (s[i].long + r.1)) (by rw [hTl, hLg, hgL, hsg])
      rw [hTl, hLg, hkT] at hdn
      have hup := fun (x : Int) hx => left_up d s r.1 T hk x hx
      rw [hTl, hkT, hLg] at hup
      have hL2l := leftL_len d s r.1 (toI ((P'.set i k).take (i + 1))) (i + 1)
      obtain ⟨L2, hL2⟩ : ∃ L2, L2 = leftL d s r.1 (toI ((P'.set i k).take (i + 1))) (i + 1) := ⟨_, rfl⟩
      rw [← hL2] at hdn hup hL2l
      have hL3 : (L.map encI).set k [V.int .i64 (L[k] - (s[i].long + r.1))] = L2.map encI := by
        have := congrArg (List.map encI) hdn
        rw [List.map_set] at this; exact this
      have hL2m : (L2.map encI).length = d.length := by rw [List.length_map, hL2l]
      have hkL2 : k < L2.length := by omega
      have hL2k : L2[k] = L[k] - (s[i].long + r.1) := by simp only [← hdn, List.getElem_set_self]
      have hup := hup L[k] (by
        rw [hsg, List.getD_eq_getElem?_getD, List.getElem?_eq_getElem hkL2, Option.getD_some, hL2k]; omega)
      have hw3 : IntKind.i64.wrap (L2[k] + (s[i].long + r.1)) = L[k] := by rw [hL2k, wrap_in (by omega) (by omega)]; omega
      have hL4 : (L2.map encI).set k [V.int .i64 L[k]] = L.map encI := by
        have := congrArg (List.map encI) hup
        rw [List.map_set] at this; exact this
      have hmem : feas d s r.1 T k = true → T ++ [k] ∈ enumP d s r.1 (i + 1) [] := fun hf => by
        obtain ⟨_, e2, e3⟩ := (enumP_mem d s r.1 i [] T).1 hP
        refine (enumP_mem d s r.1 (i + 1) [] (T ++ [k])).2 ⟨List.nil_prefix, by simp [hTl], fun j hj _ => ?_⟩
        by_cases e : j < T.length
        · rw [List.getElem_append_left e, List.take_append_of_le_length (by omega)]
          exact e3 j e (Nat.zero_le _)
        · have : j = T.length := by simp only [List.length_append, List.length_cons, List.length_nil] at hj; omega
          subst this
          rw [List.take_left' rfl]
          simp only [List.getElem_append_right (Nat.le_refl _), Nat.sub_self, List.getElem_cons_zero]
          exact ⟨hk, hf⟩
      rcases hσ with ⟨hB, rfl⟩ | rfl
      · conv => whnf
        repeat' (first | ((first | refine Split.mk (fun h => ?_) (fun h => ?_) | refine CondG.mk (fun h => ?_) (fun h => ?_)) <;> (try simp only [decide_eq_true_eq, decide_eq_false_iff_not, Bool.not_eq_true', Bool.not_eq_false', beq_iff_eq, beq_eq_false_iff_ne, bne_iff_ne, bne_eq_false_iff_eq] at h) <;> (first | (exfalso; first | omega | exact h trivial) | (conv => whnf))) | (refine Ask.mk (by first | omega | (unfold roomOK; simp [cutRows]; done) | (unfold roomOK; simp [cutRows]; omega) | (simp [cutRows]; done) | (simp [cutRows]; omega)) ?_; conv => whnf) | (refine AppG.mk (by first | omega | (unfold roomOK; simp [cutRows]; done) | (unfold roomOK; simp [cutRows]; omega) | (simp [cutRows]; done) | (simp [cutRows]; omega)) ?_; conv => whnf) | (refine SliceG.fr ?_; conv => whnf) | (refine idx_at _ (by with_reducible rfl) (by first | assumption | omega) ?_; conv => whnf) | ((with_reducible refine row_map (by first | assumption | omega) ?_); conv => whnf) | ((with_reducible refine row_set (by first | assumption | omega | (simp only [List.length_set]; omega) | (simp; omega)) ?_); conv => whnf) | ((refine idx_map k hk rfl ?_); conv => whnf) | ((refine idx_map i his rfl ?_); conv => whnf) | fail)
        all_goals simp only [Int.toNat_natCast] at *
        · have hf : feas d s r.1 T k = true := by rw [hfe, decide_eq_true_iff]; exact ⟨toList_inj (by assumption), by rw [← hw1]; assumption⟩
          simp only [putL1, hw1, hw2, hP3, hL3, hiw]
          have cI := ih0 (P'.set i k) (by rw [List.length_set, hP'l]) (by rw [← hkT]; exact hmem hf)
          rw [← hL2] at cI
          refine .ex _ cI ?_
          intro R os hQ
          unfold TryQ0 at hQ
          obtain ⟨P2, g1, g2, rfl, g4, hos⟩ := hQ
          have hfold : (enumK d s r.1 m T (k + 1)).foldl (updV (wV d s r)) none = (enumP d s r.1 m ((P'.set i k).take (i + 1))).foldl (updV (wV d s r)) st' := by rw [hKs, if_pos hf, List.foldl_append, ← hst', hkT]
          rw [hB] at hfold
          rw [← hfold] at g4 hos
          obtain ⟨st2, hst2⟩ : ∃ x, x = (enumK d s r.1 m T (k + 1)).foldl (updV (wV d s r)) none := ⟨_, rfl⟩
          rw [← hst2] at g4 hos
          have hPT : P2.take i = T := by
            have := congrArg (List.take i) g2
            rw [List.take_take, List.take_take, Nat.min_eq_left (by omega), List.take_set_of_le (Nat.le_refl _), hP't] at this
            exact this
          rcases hos with ⟨g5, rfl⟩ | rfl
          · conv => whnf
            repeat' (first | ((first | refine Split.mk (fun h => ?_) (fun h => ?_) | refine CondG.mk (fun h => ?_) (fun h => ?_)) <;> (try simp only [decide_eq_true_eq, decide_eq_false_iff_not, Bool.not_eq_true', Bool.not_eq_false', beq_iff_eq, beq_eq_false_iff_ne, bne_iff_ne, bne_eq_false_iff_eq] at h) <;> (first | (exfalso; first | omega | exact h trivial) | (conv => whnf))) | (refine Ask.mk (by first | omega | (unfold roomOK; simp [cutRows]; done) | (unfold roomOK; simp [cutRows]; omega) | (simp [cutRows]; done) | (simp [cutRows]; omega)) ?_; conv => whnf) | (refine AppG.mk (by first | omega | (unfold roomOK; simp [cutRows]; done) | (unfold roomOK; simp [cutRows]; omega) | (simp [cutRows]; done) | (simp [cutRows]; omega)) ?_; conv => whnf) | (refine SliceG.fr ?_; conv => whnf) | (refine idx_at _ (by with_reducible rfl) (by first | assumption | omega) ?_; conv => whnf) | ((with_reducible refine row_map (by first | assumption | omega) ?_); conv => whnf) | ((with_reducible refine row_set (by first | assumption | omega | (simp only [List.length_set]; omega) | (simp; omega)) ?_); conv => whnf) | ((refine idx_map k hk rfl ?_); conv => whnf) | ((refine idx_map i his rfl ?_); conv => whnf) | fail)
            all_goals simp only [Int.toNat_natCast] at *
            refine ⟨d.length - (k + 1), by omega, ?_⟩
            unfold tryI0
            exact ⟨k + 1, P2, st2, by omega, rfl, g1, hPT, hst2, g4,   .inl ⟨g5, by rw [wrap_succ hk (by omega)]; simp only [putL1, hw1, hw3, hL4] <;> rfl⟩⟩
          · conv => whnf
            repeat' (first | ((first | refine Split.mk (fun h => ?_) (fun h => ?_) | refine CondG.mk (fun h => ?_) (fun h => ?_)) <;> (try simp only [decide_eq_true_eq, decide_eq_false_iff_not, Bool.not_eq_true', Bool.not_eq_false', beq_iff_eq, beq_eq_false_iff_ne, bne_iff_ne, bne_eq_false_iff_eq] at h) <;> (first | (exfalso; first | omega | exact h trivial) | (conv => whnf))) | (refine Ask.mk (by first | omega | (unfold roomOK; simp [cutRows]; done) | (unfold roomOK; simp [cutRows]; omega) | (simp [cutRows]; done) | (simp [cutRows]; omega)) ?_; conv => whnf) | (refine AppG.mk (by first | omega | (unfold roomOK; simp [cutRows]; done) | (unfold roomOK; simp [cutRows]; omega) | (simp [cutRows]; done) | (simp [cutRows]; omega)) ?_; conv => whnf) | (refine SliceG.fr ?_; conv => whnf) | (refine idx_at _ (by with_reducible rfl) (by first | assumption | omega) ?_; conv => whnf) | ((with_reducible refine row_map (by first | assumption | omega) ?_); conv => whnf) | ((with_reducible refine row_set (by first | assumption | omega | (simp only [List.length_set]; omega) | (simp; omega)) ?_); conv => whnf) | ((refine idx_map k hk rfl ?_); conv => whnf) | ((refine idx_map i his rfl ?_); conv => whnf) | fail)
            all_goals simp only [Int.toNat_natCast] at *
            refine ⟨d.length - (k + 1), by omega, ?_⟩
            unfold tryI0
            exact ⟨k + 1, P2, st2, by omega, rfl, g1, hPT, hst2, g4, .inr (by rw [wrap_succ hk (by omega)]; simp only [putL1, hw1, hw3, hL4] <;> rfl)⟩
        all_goals
          have hf : feas d s r.1 T k = false := by
            rw [hfe, decide_eq_false_iff_not]
            rintro ⟨e1, e2⟩
            first
              | exact absurd (by rw [hw1]; exact e2) ‹¬ IntKind.i64.wrap (s[i].long + r.1) ≤ L[k]›
              | exact absurd (congrArg ByteArray.toList e1) ‹d[k].kind.toList ≠ s[i].kind.toList›
          refine ⟨d.length - (k + 1), by omega, ?_⟩
          unfold tryI0
          exact ⟨k + 1, P', st', by omega, rfl, hP'l, hP't, (hno hf).symm, hok, .inl ⟨hB, by rw [wrap_succ hk (by omega)] <;> rfl⟩⟩
      · conv => whnf
        repeat' (first | ((first | refine Split.mk (fun h => ?_) (fun h => ?_) | refine CondG.mk (fun h => ?_) (fun h => ?_)) <;> (try simp only [decide_eq_true_eq, decide_eq_false_iff_not, Bool.not_eq_true', Bool.not_eq_false', beq_iff_eq, beq_eq_false_iff_ne, bne_iff_ne, bne_eq_false_iff_eq] at h) <;> (first | (exfalso; first | omega | exact h trivial) | (conv => whnf))) | (refine Ask.mk (by first | omega | (unfold roomOK; simp [cutRows]; done) | (unfold roomOK; simp [cutRows]; omega) | (simp [cutRows]; done) | (simp [cutRows]; omega)) ?_; conv => whnf) | (refine AppG.mk (by first | omega | (unfold roomOK; simp [cutRows]; done) | (unfold roomOK; simp [cutRows]; omega) | (simp [cutRows]; done) | (simp [cutRows]; omega)) ?_; conv => whnf) | (refine SliceG.fr ?_; conv => whnf) | (refine idx_at _ (by with_reducible rfl) (by first | assumption | omega) ?_; conv => whnf) | ((with_reducible refine row_map (by first | assumption | omega) ?_); conv => whnf) | ((with_reducible refine row_set (by first | assumption | omega | (simp only [List.length_set]; omega) | (simp; omega)) ?_); conv => whnf) | ((refine idx_map k hk rfl ?_); conv => whnf) | ((refine idx_map i his rfl ?_); conv => whnf) | fail)
        all_goals simp only [Int.toNat_natCast] at *
        · have hf : feas d s r.1 T k = true := by rw [hfe, decide_eq_true_iff]; exact ⟨toList_inj (by assumption), by rw [← hw1]; assumption⟩
          simp only [putL1, hw1, hw2, hP3, hL3, hiw]
          have cI := ih (P'.set i k) st' (by rw [List.length_set, hP'l]) (by rw [← hkT]; exact hmem hf) hok
          rw [← hL2] at cI
          refine .ex _ cI ?_
          intro R os hQ
          unfold TryQ at hQ
          obtain ⟨P2, g1, g2, rfl, g4, hos⟩ := hQ
          have hfold : (enumK d s r.1 m T (k + 1)).foldl (updV (wV d s r)) none = (enumP d s r.1 m ((P'.set i k).take (i + 1))).foldl (updV (wV d s r)) st' := by rw [hKs, if_pos hf, List.foldl_append, ← hst', hkT]
          rw [← hfold] at g4 hos
          obtain ⟨st2, hst2⟩ : ∃ x, x = (enumK d s r.1 m T (k + 1)).foldl (updV (wV d s r)) none := ⟨_, rfl⟩
          rw [← hst2] at g4 hos
          have hPT : P2.take i = T := by
            have := congrArg (List.take i) g2
            rw [List.take_take, List.take_take, Nat.min_eq_left (by omega), List.take_set_of_le (Nat.le_refl _), hP't] at this
            exact this
          rcases hos with ⟨g5, rfl⟩ | rfl
          · conv => whnf
            repeat' (first | ((first | refine Split.mk (fun h => ?_) (fun h => ?_) | refine CondG.mk (fun h => ?_) (fun h => ?_)) <;> (try simp only [decide_eq_true_eq, decide_eq_false_iff_not, Bool.not_eq_true', Bool.not_eq_false', beq_iff_eq, beq_eq_false_iff_ne, bne_iff_ne, bne_eq_false_iff_eq] at h) <;> (first | (exfalso; first | omega | exact h trivial) | (conv => whnf))) | (refine Ask.mk (by first | omega | (unfold roomOK; simp [cutRows]; done) | (unfold roomOK; simp [cutRows]; omega) | (simp [cutRows]; done) | (simp [cutRows]; omega)) ?_; conv => whnf) | (refine AppG.mk (by first | omega | (unfold roomOK; simp [cutRows]; done) | (unfold roomOK; simp [cutRows]; omega) | (simp [cutRows]; done) | (simp [cutRows]; omega)) ?_; conv => whnf) | (refine SliceG.fr ?_; conv => whnf) | (refine idx_at _ (by with_reducible rfl) (by first | assumption | omega) ?_; conv => whnf) | ((with_reducible refine row_map (by first | assumption | omega) ?_); conv => whnf) | ((with_reducible refine row_set (by first | assumption | omega | (simp only [List.length_set]; omega) | (simp; omega)) ?_); conv => whnf) | ((refine idx_map k hk rfl ?_); conv => whnf) | ((refine idx_map i his rfl ?_); conv => whnf) | fail)
            all_goals simp only [Int.toNat_natCast] at *
            refine ⟨d.length - (k + 1), by omega, ?_⟩
            unfold tryI0
            exact ⟨k + 1, P2, st2, by omega, rfl, g1, hPT, hst2, g4, .inr (by rw [wrap_succ hk (by omega)]; simp only [putL1, hw1, hw3, hL4, g5] <;> rfl)⟩
          · conv => whnf
            repeat' (first | ((first | refine Split.mk (fun h => ?_) (fun h => ?_) | refine CondG.mk (fun h => ?_) (fun h => ?_)) <;> (try simp only [decide_eq_true_eq, decide_eq_false_iff_not, Bool.not_eq_true', Bool.not_eq_false', beq_iff_eq, beq_eq_false_iff_ne, bne_iff_ne, bne_eq_false_iff_eq] at h) <;> (first | (exfalso; first | omega | exact h trivial) | (conv => whnf))) | (refine Ask.mk (by first | omega | (unfold roomOK; simp [cutRows]; done) | (unfold roomOK; simp [cutRows]; omega) | (simp [cutRows]; done) | (simp [cutRows]; omega)) ?_; conv => whnf) | (refine AppG.mk (by first | omega | (unfold roomOK; simp [cutRows]; done) | (unfold roomOK; simp [cutRows]; omega) | (simp [cutRows]; done) | (simp [cutRows]; omega)) ?_; conv => whnf) | (refine SliceG.fr ?_; conv => whnf) | (refine idx_at _ (by with_reducible rfl) (by first | assumption | omega) ?_; conv => whnf) | ((with_reducible refine row_map (by first | assumption | omega) ?_); conv => whnf) | ((with_reducible refine row_set (by first | assumption | omega | (simp only [List.length_set]; omega) | (simp; omega)) ?_); conv => whnf) | ((refine idx_map k hk rfl ?_); conv => whnf) | ((refine idx_map i his rfl ?_); conv => whnf) | fail)
            all_goals simp only [Int.toNat_natCast] at *
            refine ⟨d.length - (k + 1), by omega, ?_⟩
            unfold tryI0
            exact ⟨k + 1, P2, st2, by omega, rfl, g1, hPT, hst2, g4, .inr (by rw [wrap_succ hk (by omega)]; simp only [putL1, hw1, hw3, hL4] <;> rfl)⟩
        all_goals
          have hf : feas d s r.1 T k = false := by
            rw [hfe, decide_eq_false_iff_not]
            rintro ⟨e1, e2⟩
            first
              | exact absurd (by rw [hw1]; exact e2) ‹¬ IntKind.i64.wrap (s[i].long + r.1) ≤ L[k]›
              | exact absurd (congrArg ByteArray.toList e1) ‹d[k].kind.toList ≠ s[i].kind.toList›
          refine ⟨d.length - (k + 1), by omega, ?_⟩
          unfold tryI0
          exact ⟨k + 1, P', st', by omega, rfl, hP'l, hP't, (hno hf).symm, hok, .inr (by rw [wrap_succ hk (by omega)] <;> rfl)⟩
    · have hkd : k = d.length := by omega
      subst hkd
      rcases hσ with ⟨hB, rfl⟩ | rfl
      · conv => whnf
        repeat' (first | ((first | refine Split.mk (fun h => ?_) (fun h => ?_) | refine CondG.mk (fun h => ?_) (fun h => ?_)) <;> (try simp only [decide_eq_true_eq, decide_eq_false_iff_not, Bool.not_eq_true', Bool.not_eq_false', beq_iff_eq, beq_eq_false_iff_ne, bne_iff_ne, bne_eq_false_iff_eq] at h) <;> (first | (exfalso; first | omega | exact h trivial) | (conv => whnf))) | (refine Ask.mk (by first | omega | (unfold roomOK; simp [cutRows]; done) | (unfold roomOK; simp [cutRows]; omega) | (simp [cutRows]; done) | (simp [cutRows]; omega)) ?_; conv => whnf) | (refine AppG.mk (by first | omega | (unfold roomOK; simp [cutRows]; done) | (unfold roomOK; simp [cutRows]; omega) | (simp [cutRows]; done) | (simp [cutRows]; omega)) ?_; conv => whnf) | (refine SliceG.fr ?_; conv => whnf) | (refine idx_at _ (by with_reducible rfl) (by first | assumption | omega) ?_; conv => whnf) | ((with_reducible refine row_map (by first | assumption | omega) ?_); conv => whnf) | ((with_reducible refine row_set (by first | assumption | omega | (simp only [List.length_set]; omega) | (simp; omega)) ?_); conv => whnf) | fail)
        refine FinX.mk _ _ ?_ (.mk ⟨rfl, rfl⟩)
        unfold TryQ0
        exact ⟨P', hP'l, by rw [hP't, hT], rfl, by rw [← hst']; exact hok, .inl ⟨by rw [← hst']; exact hB, rfl⟩⟩
      · conv => whnf
        repeat' (first | ((first | refine Split.mk (fun h => ?_) (fun h => ?_) | refine CondG.mk (fun h => ?_) (fun h => ?_)) <;> (try simp only [decide_eq_true_eq, decide_eq_false_iff_not, Bool.not_eq_true', Bool.not_eq_false', beq_iff_eq, beq_eq_false_iff_ne, bne_iff_ne, bne_eq_false_iff_eq] at h) <;> (first | (exfalso; first | omega | exact h trivial) | (conv => whnf))) | (refine Ask.mk (by first | omega | (unfold roomOK; simp [cutRows]; done) | (unfold roomOK; simp [cutRows]; omega) | (simp [cutRows]; done) | (simp [cutRows]; omega)) ?_; conv => whnf) | (refine AppG.mk (by first | omega | (unfold roomOK; simp [cutRows]; done) | (unfold roomOK; simp [cutRows]; omega) | (simp [cutRows]; done) | (simp [cutRows]; omega)) ?_; conv => whnf) | (refine SliceG.fr ?_; conv => whnf) | (refine idx_at _ (by with_reducible rfl) (by first | assumption | omega) ?_; conv => whnf) | ((with_reducible refine row_map (by first | assumption | omega) ?_); conv => whnf) | ((with_reducible refine row_set (by first | assumption | omega | (simp only [List.length_set]; omega) | (simp; omega)) ?_); conv => whnf) | fail)
        refine FinX.mk _ _ ?_ (.mk ⟨rfl, rfl⟩)
        unfold TryQ0
        exact ⟨P', hP'l, by rw [hP't, hT], rfl, by rw [← hst']; exact hok, .inr (by rw [← hst'])⟩
theorem try0_all (d s : List Pc) (r : Int × Int) (ha : allErr d s r = 0) (h1 : d.length ≤ 6) (h2 : s.length ≤ 10) : ∀ (m i : Nat), i + m = s.length → ∀ (P : List Nat), P.length = s.length → P.take i ∈ enumP d s r.1 i [] →
    PCq 38 (tryArgs0 i) (tryO0 d s r (toI P) (leftL d s r.1 (toI (P.take i)) i)) (TryQ0 d s r i P (leftL d s r.1 (toI (P.take i)) i) ((enumP d s r.1 m (P.take i)).foldl (updV (wV d s r)) none))
  | 0, i, him, P, hPl, hP => by
    have : i = s.length := by omega
    subst this
    have hPP : P.take s.length = P := List.take_of_length_le (by omega)
    rw [hPP] at hP ⊢
    exact try0_zero d s r ha h1 h2 P _ hP
  | m + 1, i, him, P, hPl, hP => try0_step d s r ha h1 h2 m i him P hPl hP (fun P a b => try0_all d s r ha h1 h2 m (i + 1) (by omega) P a b) (fun P st a b c => try_all d s r ha h1 h2 m (i + 1) (by omega) P st a b c)
end Go.Proofs.YtobcplhaabaemaaGreatDoor

/- The document's plan. -/
namespace Go.Proofs.YtobcplhaabaemaaGreatDoor
set_option linter.unusedVariables false
set_option linter.unusedSimpArgs false
open Abs

set_option maxRecDepth 100000 in
set_option maxHeartbeats 4000000 in
theorem rPlanOf_pc (d s : List Pc) (r : Int × Int) (ha : allErr d s r = 0) :
    PCq 14 [.c (.lst 3 (d.map encPc)), .c (.lst 3 (s.map encPc)), .agg [.int .i64 r.1, .int .i64 r.2]] [] fun R os => ∃ (p : List Nat) (w : Int) (ok : Bool), R = .tup [.c (.row 0), .c (.int .i64 w), .c (.bool ok), .c (.int .i64 (planE d s r))] ∧ os = [.row 3 1 ((toI p).map encI)] ∧ (planE d s r = 0 → (∀ q, planD d s r = some q → p = q ∧ w = wasteV d s r (toI q) ∧ ok = true) ∧ (planD d s r = none → p = [] ∧ w = 0 ∧ ok = false)) ∧ (planE d s r ≠ 0 → p = [] ∧ w = 0 ∧ ok = false) := by
  have hsm : (s.map encPc).length = s.length := List.length_map ..
  have hdm : (d.map encPc).length = d.length := List.length_map ..
  have hE : planE d s r = if 6 < d.length ∨ 10 < s.length then 2 else 0 := by unfold planE; rw [if_neg (by omega)]
  have cL := (rLeft_pc d s r [] ha (by simp)).wk (gs := [.c (.lst 3 (d.map encPc)), .c (.lst 3 (s.map encPc)), .agg [.int .i64 r.1, .int .i64 r.2], .c .nils]) (P2.cons (.refl _) (P2.cons (.refl _) (P2.cons (.refl _) (P2.cons (.c (.nils 1)) P2.nil))))
  have hz : List.replicate (((s.map encPc).length : Nat) : Int).toNat [V.int .i64 0] = (toI (List.replicate s.length 0)).map encI := by
    rw [hsm, Int.toNat_natCast]; simp [toI, encI]
  by_cases hbig : 6 < d.length ∨ 10 < s.length
  · rw [if_pos hbig] at hE
    rw [hE]
    refine fn_soundX (mt := mts) tab_fits tab_mixed Tryz.func14 (by rfl) (by kernel_rfl) (by kernel_rfl) Tryz.results14 (Nat.le_of_ble_eq_true (by kernel_rfl)) ?_
    conv => whnf
    repeat' (first | ((first | refine Split.mk (fun h => ?_) (fun h => ?_) | refine CondG.mk (fun h => ?_) (fun h => ?_)) <;> (try simp only [decide_eq_true_eq, decide_eq_false_iff_not, Bool.not_eq_true', Bool.not_eq_false', beq_iff_eq, beq_eq_false_iff_ne, bne_iff_ne, bne_eq_false_iff_eq] at h) <;> (first | (exfalso; first | omega | exact h trivial) | (conv => whnf))) | (refine Ask.mk (by first | omega | (unfold roomOK; simp [cutRows]; done) | (unfold roomOK; simp [cutRows]; omega) | (simp [cutRows]; done) | (simp [cutRows]; omega)) ?_; conv => whnf) | (refine AppG.mk (by first | omega | (unfold roomOK; simp [cutRows]; done) | (unfold roomOK; simp [cutRows]; omega) | (simp [cutRows]; done) | (simp [cutRows]; omega)) ?_; conv => whnf) | (refine SliceG.fr ?_; conv => whnf) | (refine idx_at _ (by with_reducible rfl) (by first | assumption | omega) ?_; conv => whnf) | ((with_reducible refine row_map (by first | assumption | omega) ?_); conv => whnf) | ((with_reducible refine row_set (by first | assumption | omega | (simp only [List.length_set]; omega) | (simp; omega)) ?_); conv => whnf) | fail)
    all_goals first
      | exact .mk _ _ ⟨[], 0, false, rfl, rfl, ⟨fun q => absurd q (by decide), fun _ => ⟨rfl, rfl, rfl⟩⟩⟩ (.own2 3 1 _ rfl rfl rfl)
      | (exfalso; omega)
      | skip
  · rw [if_neg hbig] at hE
    rw [hE]
    have cT : PCq 38 (tryArgs0 0) (tryO0 d s r (toI (List.replicate s.length 0)) (leftL d s r.1 [] ([] : List Int).length)) (TryQ0 d s r 0 (List.replicate s.length 0) (leftL d s r.1 [] ([] : List Int).length) (planD d s r)) :=
      try0_all d s r ha (by omega) (by omega) s.length 0 (by omega) (List.replicate s.length 0) (by simp) (by simp [enumP])
    simp only [tryO0, tryArgs0] at cT
    rw [← hz] at cT
    refine fn_soundX (mt := mts) tab_fits tab_mixed Tryz.func14 (by rfl) (by kernel_rfl) (by kernel_rfl) Tryz.results14 (Nat.le_of_ble_eq_true (by kernel_rfl)) ?_
    conv => whnf
    repeat' (first | ((first | refine Split.mk (fun h => ?_) (fun h => ?_) | refine CondG.mk (fun h => ?_) (fun h => ?_)) <;> (try simp only [decide_eq_true_eq, decide_eq_false_iff_not, Bool.not_eq_true', Bool.not_eq_false', beq_iff_eq, beq_eq_false_iff_ne, bne_iff_ne, bne_eq_false_iff_eq] at h) <;> (first | (exfalso; first | omega | exact h trivial) | (conv => whnf))) | (refine CallX.mk _ _ (by first | exact cL) ?_; conv => whnf) | (refine CallG.mk _ _ (by first | exact cL) ?_; conv => whnf) | (refine Ask.mk (by first | omega | (unfold roomOK; simp [cutRows]; done) | (unfold roomOK; simp [cutRows]; omega) | (simp [cutRows]; done) | (simp [cutRows]; omega)) ?_; conv => whnf) | (refine AppG.mk (by first | omega | (unfold roomOK; simp [cutRows]; done) | (unfold roomOK; simp [cutRows]; omega) | (simp [cutRows]; done) | (simp [cutRows]; omega)) ?_; conv => whnf) | (refine SliceG.fr ?_; conv => whnf) | (refine idx_at _ (by with_reducible rfl) (by first | assumption | omega) ?_; conv => whnf) | ((with_reducible refine row_map (by first | assumption | omega) ?_); conv => whnf) | ((with_reducible refine row_set (by first | assumption | omega | (simp only [List.length_set]; omega) | (simp; omega)) ?_); conv => whnf) | fail)
    refine .ex _ cT ?_
    intro R os hQ
    unfold TryQ0 at hQ
    obtain ⟨P', g1, g2, rfl, g4, ⟨g5, rfl⟩ | rfl⟩ := hQ
    · conv => whnf
      repeat' (first | ((first | refine Split.mk (fun h => ?_) (fun h => ?_) | refine CondG.mk (fun h => ?_) (fun h => ?_)) <;> (try simp only [decide_eq_true_eq, decide_eq_false_iff_not, Bool.not_eq_true', Bool.not_eq_false', beq_iff_eq, beq_eq_false_iff_ne, bne_iff_ne, bne_eq_false_iff_eq] at h) <;> (first | (exfalso; first | omega | exact h trivial) | (conv => whnf))) | (refine Ask.mk (by first | omega | (unfold roomOK; simp [cutRows]; done) | (unfold roomOK; simp [cutRows]; omega) | (simp [cutRows]; done) | (simp [cutRows]; omega)) ?_; conv => whnf) | (refine AppG.mk (by first | omega | (unfold roomOK; simp [cutRows]; done) | (unfold roomOK; simp [cutRows]; omega) | (simp [cutRows]; done) | (simp [cutRows]; omega)) ?_; conv => whnf) | (refine SliceG.fr ?_; conv => whnf) | (refine idx_at _ (by with_reducible rfl) (by first | assumption | omega) ?_; conv => whnf) | ((with_reducible refine row_map (by first | assumption | omega) ?_); conv => whnf) | ((with_reducible refine row_set (by first | assumption | omega | (simp only [List.length_set]; omega) | (simp; omega)) ?_); conv => whnf) | fail)
      exact .mk _ _ ⟨[], 0, false, rfl, rfl, ⟨fun _ => ⟨fun q hq => (by rw [g5] at hq; cases hq), fun _ => ⟨rfl, rfl, rfl⟩⟩, fun q => absurd rfl q⟩⟩ (.own2 3 1 _ rfl rfl rfl)
    · cases hp : planD d s r with
      | none =>
        conv => whnf
        repeat' (first | ((first | refine Split.mk (fun h => ?_) (fun h => ?_) | refine CondG.mk (fun h => ?_) (fun h => ?_)) <;> (try simp only [decide_eq_true_eq, decide_eq_false_iff_not, Bool.not_eq_true', Bool.not_eq_false', beq_iff_eq, beq_eq_false_iff_ne, bne_iff_ne, bne_eq_false_iff_eq] at h) <;> (first | (exfalso; first | omega | exact h trivial) | (conv => whnf))) | (refine Ask.mk (by first | omega | (unfold roomOK; simp [cutRows]; done) | (unfold roomOK; simp [cutRows]; omega) | (simp [cutRows]; done) | (simp [cutRows]; omega)) ?_; conv => whnf) | (refine AppG.mk (by first | omega | (unfold roomOK; simp [cutRows]; done) | (unfold roomOK; simp [cutRows]; omega) | (simp [cutRows]; done) | (simp [cutRows]; omega)) ?_; conv => whnf) | (refine SliceG.fr ?_; conv => whnf) | (refine idx_at _ (by with_reducible rfl) (by first | assumption | omega) ?_; conv => whnf) | ((with_reducible refine row_map (by first | assumption | omega) ?_); conv => whnf) | ((with_reducible refine row_set (by first | assumption | omega | (simp only [List.length_set]; omega) | (simp; omega)) ?_); conv => whnf) | fail)
        exact .mk _ _ ⟨[], 0, false, rfl, rfl, ⟨fun _ => ⟨fun q hq => (by cases hq), fun _ => ⟨rfl, rfl, rfl⟩⟩, fun q => absurd rfl q⟩⟩ (.mk ⟨rfl, rfl⟩)
      | some q =>
        conv => whnf
        repeat' (first | ((first | refine Split.mk (fun h => ?_) (fun h => ?_) | refine CondG.mk (fun h => ?_) (fun h => ?_)) <;> (try simp only [decide_eq_true_eq, decide_eq_false_iff_not, Bool.not_eq_true', Bool.not_eq_false', beq_iff_eq, beq_eq_false_iff_ne, bne_iff_ne, bne_eq_false_iff_eq] at h) <;> (first | (exfalso; first | omega | exact h trivial) | (conv => whnf))) | (refine Ask.mk (by first | omega | (unfold roomOK; simp [cutRows]; done) | (unfold roomOK; simp [cutRows]; omega) | (simp [cutRows]; done) | (simp [cutRows]; omega)) ?_; conv => whnf) | (refine AppG.mk (by first | omega | (unfold roomOK; simp [cutRows]; done) | (unfold roomOK; simp [cutRows]; omega) | (simp [cutRows]; done) | (simp [cutRows]; omega)) ?_; conv => whnf) | (refine SliceG.fr ?_; conv => whnf) | (refine idx_at _ (by with_reducible rfl) (by first | assumption | omega) ?_; conv => whnf) | ((with_reducible refine row_map (by first | assumption | omega) ?_); conv => whnf) | ((with_reducible refine row_set (by first | assumption | omega | (simp only [List.length_set]; omega) | (simp; omega)) ?_); conv => whnf) | fail)
        exact .mk _ _ ⟨q, _, true, rfl, rfl, ⟨fun _ => ⟨fun q' hq => (by cases hq; exact ⟨rfl, rfl, rfl⟩), fun hq => (by cases hq)⟩, fun q => absurd rfl q⟩⟩ (.mk ⟨rfl, rfl⟩)
end Go.Proofs.YtobcplhaabaemaaGreatDoor

/- What is in the store at a moment, by the document; sums by type in maps; pairs. -/
namespace Go.Proofs.YtobcplhaabaemaaGreatDoor
set_option linter.unusedVariables false
set_option linter.unusedSimpArgs false
open Abs

/-- sums by type -/
abbrev MI := SM ByteArray Int
def sumsM : List Pc → MI
  | [] => SM.nil
  | p :: r => (sumsM r).put p.kind (IntKind.i64.wrap (((sumsM r).get p.kind).getD 0 + p.long))
theorem sumsM_ok : ∀ l, (sumsM l).ok
  | [] => SM.ok_nil
  | p :: r => (sumsM_ok r).put _ _
theorem sumsM_len : ∀ l, (sumsM l).es.length ≤ l.length
  | [] => Nat.le_refl _
  | p :: r => Nat.le_trans (eput_len (sumsM r).clock (sumsM r).es p.kind _) (by have := sumsM_len r; simp; omega)
theorem sumsM_get : ∀ (l : List Pc), (∀ p ∈ l, 0 ≤ p.long ∧ p.long ≤ 200000) → l.length ≤ 1000000 → ∀ n, ((sumsM l).get n).getD 0 = sumP n l
  | [], _, _, n => rfl
  | p :: r, h, hl, n => by
    have hr : ∀ q ∈ r, 0 ≤ q.long ∧ q.long ≤ 200000 := fun q hq => h q (by simp [hq])
    have hl' : r.length ≤ 1000000 := by simp at hl; omega
    have ih := sumsM_get r hr hl'
    have hb := sumP_in p.kind r hr
    have hp := h p (by simp)
    rw [sumsM, SM.get_put, ih]
    by_cases e : p.kind = n
    · subst e
      rw [if_pos rfl, wrap_in (by omega) (by omega)]
      simp [sumP]; omega
    · rw [if_neg e, ih, sumP, if_neg e]; omega
/-- the names of what is more than nothing, in order -/
def Keys (g : ByteArray → Int) (ns : List ByteArray) : Prop := Rise id ns ∧ ∀ n, n ∈ ns ↔ 0 < g n
theorem Keys.one {g g' : ByteArray → Int} {a b : List ByteArray} (h : Keys g a) (h' : Keys g' b) (e : ∀ n, g n = g' n) : a = b :=
  rise_ext h.1 h'.1 (fun x => by rw [h.2, h'.2, e])
def nmL (es : List (Nat × ByteArray × Int)) : List ByteArray := (es.filter fun e => decide (0 < e.2.2)).map (·.2.1)
theorem nmL_mem {m : MI} (h : m.ok) (n : ByteArray) : n ∈ nmL m.es ↔ 0 < (m.get n).getD 0 := by
  unfold nmL
  constructor
  · intro hn
    obtain ⟨e, he, rfl⟩ := List.mem_map.1 hn
    obtain ⟨h1, h2⟩ := List.mem_filter.1 he
    rw [get_of_mem h h1]
    simpa using h2
  · intro hn
    cases hg : m.get n with
    | none => rw [hg] at hn; simp at hn
    | some v =>
      rw [hg] at hn
      obtain ⟨k, hk⟩ := mem_of_get hg
      exact List.mem_map.2 ⟨(k, n, v), List.mem_filter.2 ⟨hk, by simpa using hn⟩, rfl⟩
theorem nmL_nd {m : MI} (h : m.ok) : (nmL m.es).Nodup := (keys_nd h).sublist ((List.filter_sublist).map _)
theorem keys_of {m : MI} (h : m.ok) {ns : List ByteArray} (hp : ns.Perm (nmL m.es)) (hs : Rise id ns) : Keys (fun n => (m.get n).getD 0) ns :=
  ⟨hs, fun n => by rw [hp.mem_iff, nmL_mem h]⟩
def encPr (x : ByteArray × ByteArray) : List V := [.str x.1, .str x.2]
def prsV (g : ByteArray → Int) (ns : List ByteArray) : List (ByteArray × ByteArray) := ns.map fun n => (n, itoaB (g n))
end Go.Proofs.YtobcplhaabaemaaGreatDoor

/- Pairs of names and numbers out of a map. -/
namespace Go.Proofs.YtobcplhaabaemaaGreatDoor
set_option linter.unusedVariables false
set_option linter.unusedSimpArgs false
open Abs

theorem nmL_len (es : List (Nat × ByteArray × Int)) : (nmL es).length ≤ es.length := by unfold nmL; rw [List.length_map]; exact List.length_filter_le _ _
set_option maxRecDepth 100000 in
set_option maxHeartbeats 4000000 in
theorem dPairs_pc (m : MI) (hok : m.ok) (h12 : m.es.length ≤ 12) (hb : ∀ n, -9000000000000000000 ≤ (m.get n).getD 0 ∧ (m.get n).getD 0 ≤ 9000000000000000000) :
    PCq 26 [.c (.mp 0)] [smO ekS evI m] fun r os => ∃ ns, Keys (fun n => (m.get n).getD 0) ns ∧ r = .c (.lst 2 ((prsV (fun n => (m.get n).getD 0) ns).map encPr)) ∧ os = [smO ekS evI m] := by
  refine fn_soundX (mt := mts) tab_fits tab_mixed Tryz.func26 (by rfl) (by kernel_rfl) (by kernel_rfl) Tryz.results26 (Nat.le_of_ble_eq_true (by kernel_rfl)) ?_
  conv => whnf
  refine loop_meas (fun (vis : List (Nat × ByteArray × Int)) => m.es.length - vis.length) [.sl 3 9 1] [0, 3, 10] (fun (vis : List (Nat × ByteArray × Int)) => ⟨[(0, .c (.mp 0)), (3, .c (.row 1)), (10, .c (.ptr 2 0))], [(0, smO ekS evI m), (1, .row 9 1 ((nmL vis.reverse).map encS)), (2, .iter 0 m.clock (vis.map (·.1)))], 3⟩) (fun (vis : List (Nat × ByteArray × Int)) => Vis m vis) ([]) ?_ ?_
  · conv => whnf
    exact ⟨rfl, Vis.nil _⟩
  · intro vis hv
    have hvl := hv.len
    have hsl := nmL_len vis.reverse
    rw [List.length_reverse] at hsl
    have hslm : ((nmL vis.reverse).map encS).length = (nmL vis.reverse).length := List.length_map ..
    conv => whnf
    refine .mk rfl ?_
    conv => whnf
    refine sm_next hok hv (fun hp => ?_) (fun e he hn hv' hlt => ?_)
    · conv => whnf
      have hpr : (nmL vis.reverse).Perm (nmL m.es) := (((List.reverse_perm vis).trans hp).filter _).map _
      repeat' (first | ((first | refine Split.mk (fun h => ?_) (fun h => ?_) | refine CondG.mk (fun h => ?_) (fun h => ?_)) <;> (try simp only [decide_eq_true_eq, decide_eq_false_iff_not, Bool.not_eq_true', Bool.not_eq_false', beq_iff_eq, beq_eq_false_iff_ne, bne_iff_ne, bne_eq_false_iff_eq] at h) <;> (first | (exfalso; first | omega | exact h trivial) | (conv => whnf))) | (refine CallX.mk _ _ (by first | exact sortS_pc (nmL vis.reverse) (by omega)) ?_; conv => whnf) | (refine CallG.mk _ _ (by first | exact sortS_pc (nmL vis.reverse) (by omega)) ?_; conv => whnf) | (refine Ask.mk (by first | omega | (unfold roomOK; simp [cutRows]; done) | (unfold roomOK; simp [cutRows]; omega) | (simp [cutRows]; done) | (simp [cutRows]; omega)) ?_; conv => whnf) | (refine AppG.mk (by first | omega | (unfold roomOK; simp [cutRows]; done) | (unfold roomOK; simp [cutRows]; omega) | (simp [cutRows]; done) | (simp [cutRows]; omega)) ?_; conv => whnf) | (refine SliceG.fr ?_; conv => whnf) | (refine idx_at _ (by with_reducible rfl) (by first | assumption | omega) ?_; conv => whnf) | ((with_reducible refine row_map (by first | assumption | omega) ?_); conv => whnf) | ((with_reducible refine row_set (by first | assumption | omega | (simp only [List.length_set]; omega) | (simp; omega)) ?_); conv => whnf) | fail)
      have hk : Keys (fun n => (m.get n).getD 0) (insSort cmpS (nmL vis.reverse)) := by
        refine keys_of hok ((insSort_perm ..).trans hpr) (rise_of (key := id) (insSort_srt (swo_key id) _) ?_)
        rw [List.map_id]
        exact (((insSort_perm ..).trans hpr).nodup_iff).2 (nmL_nd hok)
      have hnl : (insSort cmpS (nmL vis.reverse)).length ≤ 12 := by rw [insSort_len]; omega
      generalize insSort cmpS (nmL vis.reverse) = ns at hk hnl ⊢
      have hnm : (ns.map encS).length = ns.length := List.length_map ..
      refine loop_for (ns.length) [.sl 6 51 2] [0, 6, 24, 25, 26] (fun k (_ : Unit) => [(26, .c (.int .i64 (k : Int)))]) (fun k (_ : Unit) => [(1, .row 51 2 ((prsV (fun n => (m.get n).getD 0) (ns.take k)).map encPr))]) (fun k (_ : Unit) => True) (()) ?_
      conv => whnf
      refine ⟨(by first | rfl | (simp; done) | (simp; rfl)), (by trivial), ?_, ?_⟩
      · intro k _ hk _
        have htl : (ns.take k).length = k := by rw [List.length_take]; omega
        have hpm : (prsV (fun n => (m.get n).getD 0) (ns.take k)).length = k := by unfold prsV; rw [List.length_map, htl]
        have hslm : ((prsV (fun n => (m.get n).getD 0) (ns.take k)).map encPr).length = k := by rw [List.length_map, hpm]
        have hbe := hb ns[k]
        conv => whnf
        repeat' (first | ((first | refine Split.mk (fun h => ?_) (fun h => ?_) | refine CondG.mk (fun h => ?_) (fun h => ?_)) <;> (try simp only [decide_eq_true_eq, decide_eq_false_iff_not, Bool.not_eq_true', Bool.not_eq_false', beq_iff_eq, beq_eq_false_iff_ne, bne_iff_ne, bne_eq_false_iff_eq] at h) <;> (first | (exfalso; first | omega | exact h trivial) | (conv => whnf))) | (refine CallX.mk _ _ (by first | exact itoa_pc _ (Int.le_trans (by decide) (hb _).1) (Int.le_trans (hb _).2 (by decide))) ?_; conv => whnf) | (refine CallG.mk _ _ (by first | exact itoa_pc _ (Int.le_trans (by decide) (hb _).1) (Int.le_trans (hb _).2 (by decide))) ?_; conv => whnf) | (refine Ask.mk (by first | omega | (unfold roomOK; simp [cutRows]; done) | (unfold roomOK; simp [cutRows]; omega) | (simp [cutRows]; done) | (simp [cutRows]; omega)) ?_; conv => whnf) | (refine AppG.mk (by first | omega | (unfold roomOK; simp [cutRows]; done) | (unfold roomOK; simp [cutRows]; omega) | (simp [cutRows]; done) | (simp [cutRows]; omega)) ?_; conv => whnf) | (refine SliceG.fr ?_; conv => whnf) | (refine idx_at _ (by with_reducible rfl) (by first | assumption | omega) ?_; conv => whnf) | ((with_reducible refine row_map (by first | assumption | omega) ?_); conv => whnf) | ((with_reducible refine row_set (by first | assumption | omega | (simp only [List.length_set]; omega) | (simp; omega)) ?_); conv => whnf) | ((with_reducible refine sm_look (ek := ekS) (ev := evI) keyStr _ _ ((0 : Int)) ?_ ?_); exact rfl; conv => whnf) | ((with_reducible refine sm_upd (ek := ekS) (ev := evI) keyStr _ _ _ ?_); conv => whnf) | ((with_reducible refine sm_del (ek := ekS) (ev := evI) keyStr _ _ ?_); conv => whnf) | ((with_reducible refine sm_entry (ek := ekS) (ev := evI) keyStr _ _ ((0 : Int)) ?_ ?_); exact rfl; conv => whnf) | fail)
        have h1 : prsV (fun n => (m.get n).getD 0) (ns.take (k + 1)) = prsV (fun n => (m.get n).getD 0) (ns.take k) ++ [(ns[k], itoaB ((m.get ns[k]).getD 0))] := by rw [List.take_succ_eq_append_getElem hk]; unfold prsV; rw [List.map_append]; rfl
        exact count_next () hk (by rw [wrap_succ hk (by omega), h1, List.map_append]; rfl) trivial
      · intro _ _
        rw [List.take_length]
        conv => whnf
        repeat' (first | ((first | refine Split.mk (fun h => ?_) (fun h => ?_) | refine CondG.mk (fun h => ?_) (fun h => ?_)) <;> (try simp only [decide_eq_true_eq, decide_eq_false_iff_not, Bool.not_eq_true', Bool.not_eq_false', beq_iff_eq, beq_eq_false_iff_ne, bne_iff_ne, bne_eq_false_iff_eq] at h) <;> (first | (exfalso; first | omega | exact h trivial) | (conv => whnf))) | (refine Ask.mk (by first | omega | (unfold roomOK; simp [cutRows]; done) | (unfold roomOK; simp [cutRows]; omega) | (simp [cutRows]; done) | (simp [cutRows]; omega)) ?_; conv => whnf) | (refine AppG.mk (by first | omega | (unfold roomOK; simp [cutRows]; done) | (unfold roomOK; simp [cutRows]; omega) | (simp [cutRows]; done) | (simp [cutRows]; omega)) ?_; conv => whnf) | (refine SliceG.fr ?_; conv => whnf) | (refine idx_at _ (by with_reducible rfl) (by first | assumption | omega) ?_; conv => whnf) | ((with_reducible refine row_map (by first | assumption | omega) ?_); conv => whnf) | ((with_reducible refine row_set (by first | assumption | omega | (simp only [List.length_set]; omega) | (simp; omega)) ?_); conv => whnf) | fail)
        first
          | exact .mk _ _ ⟨ns, hk, rfl, rfl⟩ (.frz 1 _ _ _ rfl (.weak [_, _] (.fro 1 _ _ rfl) rfl (Nat.le_refl _)))
          | exact .mk _ _ ⟨ns, hk, rfl, rfl⟩ (.frz 1 _ _ _ rfl (.weak [_] (.fro 1 _ _ rfl) rfl (Nat.le_refl _)))
    · conv => whnf
      refine .mk rfl ?_
      conv => whnf
      refine sm_at hok he ?_
      conv => whnf
      repeat' (first | ((first | refine Split.mk (fun h => ?_) (fun h => ?_) | refine CondG.mk (fun h => ?_) (fun h => ?_)) <;> (try simp only [decide_eq_true_eq, decide_eq_false_iff_not, Bool.not_eq_true', Bool.not_eq_false', beq_iff_eq, beq_eq_false_iff_ne, bne_iff_ne, bne_eq_false_iff_eq] at h) <;> (first | (exfalso; first | omega | exact h trivial) | (conv => whnf))) | (refine Ask.mk (by first | omega | (unfold roomOK; simp [cutRows]; done) | (unfold roomOK; simp [cutRows]; omega) | (simp [cutRows]; done) | (simp [cutRows]; omega)) ?_; conv => whnf) | (refine AppG.mk (by first | omega | (unfold roomOK; simp [cutRows]; done) | (unfold roomOK; simp [cutRows]; omega) | (simp [cutRows]; done) | (simp [cutRows]; omega)) ?_; conv => whnf) | (refine SliceG.fr ?_; conv => whnf) | (refine idx_at _ (by with_reducible rfl) (by first | assumption | omega) ?_; conv => whnf) | ((with_reducible refine row_map (by first | assumption | omega) ?_); conv => whnf) | ((with_reducible refine row_set (by first | assumption | omega | (simp only [List.length_set]; omega) | (simp; omega)) ?_); conv => whnf) | fail)
      · have h1 : nmL (e :: vis).reverse = nmL vis.reverse ++ [e.2.1] := by simp [nmL, h]
        exact meas_next (e :: vis) (by simp only [List.length_cons]; omega) (by rw [h1, List.map_append]; rfl) hv'
      · have h1 : nmL (e :: vis).reverse = nmL vis.reverse := by simp [nmL, show ¬ 0 < e.2.2 by omega]
        exact meas_next (e :: vis) (by simp only [List.length_cons]; omega) (by rw [h1]; rfl) hv'
set_option maxRecDepth 100000 in
set_option maxHeartbeats 4000000 in
theorem pairsC_pc (a b : ByteArray × ByteArray) : PCp 65 [.agg (encPr a), .agg (encPr b)] [] (.c (.int .i64 (cmpS a.1 b.1))) [] := by
  refine fn_sound (mt := mts) tab_fits tab_mixed Tryz.func65 (by rfl) (by kernel_rfl) (by kernel_rfl) Tryz.results65 (Nat.le_of_ble_eq_true (by kernel_rfl)) ?_
  conv => whnf
  repeat' (first | ((first | refine Split.mk (fun h => ?_) (fun h => ?_) | refine CondG.mk (fun h => ?_) (fun h => ?_)) <;> (try simp only [decide_eq_true_eq, decide_eq_false_iff_not, Bool.not_eq_true', Bool.not_eq_false', beq_iff_eq, beq_eq_false_iff_ne] at h) <;> (first | (exfalso; first | omega | exact h trivial) | (conv => whnf))) | (refine CallX.mk _ _ (by first | exact sCompare_pc _ _) ?_; conv => whnf) | (refine CallG.mk _ _ (by first | exact sCompare_pc _ _) ?_; conv => whnf) | (refine Ask.mk (by first | omega | (unfold roomOK; simp [cutRows]; done) | (unfold roomOK; simp [cutRows]; omega)) ?_; conv => whnf) | (refine AppG.mk (by first | omega | (unfold roomOK; simp [cutRows]; done) | (unfold roomOK; simp [cutRows]; omega)) ?_; conv => whnf) | (refine SliceG.fr ?_; conv => whnf) | fail)
  exact fini rfl
set_option maxRecDepth 100000 in
set_option maxHeartbeats 4000000 in
theorem rPairs_pc (m : MI) (hok : m.ok) (h12 : m.es.length ≤ 12) (hb : ∀ n, -9000000000000000000 ≤ (m.get n).getD 0 ∧ (m.get n).getD 0 ≤ 9000000000000000000) :
    PCq 37 [.c (.mp 0)] [smO ekS evI m] fun r os => ∃ ns, Keys (fun n => (m.get n).getD 0) ns ∧ r = .c (.row 1) ∧ os = [smO ekS evI m, .row 51 2 ((prsV (fun n => (m.get n).getD 0) ns).map encPr)] := by
  refine fn_soundX (mt := mts) tab_fits tab_mixed Tryz.func37 (by rfl) (by kernel_rfl) (by kernel_rfl) Tryz.results37 (Nat.le_of_ble_eq_true (by kernel_rfl)) ?_
  conv => whnf
  refine loop_meas (fun (vis : List (Nat × ByteArray × Int)) => m.es.length - vis.length) [.sl 3 51 2] [3, 7] (fun (vis : List (Nat × ByteArray × Int)) => ⟨[(3, .c (.row 1)), (7, .c (.ptr 2 0))], [(0, smO ekS evI m), (1, .row 51 2 ((prsV (fun n => (m.get n).getD 0) (nmL vis.reverse)).map encPr)), (2, .iter 0 m.clock (vis.map (·.1)))], 3⟩) (fun (vis : List (Nat × ByteArray × Int)) => Vis m vis) ([]) ?_ ?_
  · conv => whnf
    exact ⟨rfl, Vis.nil _⟩
  · intro vis hv
    have hvl := hv.len
    have hsl := nmL_len vis.reverse
    rw [List.length_reverse] at hsl
    have hpm : (prsV (fun n => (m.get n).getD 0) (nmL vis.reverse)).length = (nmL vis.reverse).length := List.length_map ..
    have hslm : ((prsV (fun n => (m.get n).getD 0) (nmL vis.reverse)).map encPr).length = (nmL vis.reverse).length := by rw [List.length_map, hpm]
    conv => whnf
    refine .mk rfl ?_
    conv => whnf
    refine sm_next hok hv (fun hp => ?_) (fun e he hn hv' hlt => ?_)
    · conv => whnf
      have hpr : (nmL vis.reverse).Perm (nmL m.es) := (((List.reverse_perm vis).trans hp).filter _).map _
      have hS := sort_pcx layPair (encA := encPr) (c := fun a b : ByteArray × ByteArray => cmpS a.1 b.1) (by decide) (fun w => (tab_fits 51 _ rfl).isAgg w) (fun w => (tab_fits 51 _ rfl).sizeOf w) (fun x => rfl) (swo_key Prod.fst) pairsC_pc 51 (prsV (fun n => (m.get n).getD 0) (nmL vis.reverse)) (by omega)
      refine .ex _ hS ?_
      rintro _ _ ⟨ps, hs, rfl, rfl⟩
      have hfst : (prsV (fun n => (m.get n).getD 0) (nmL vis.reverse)).map Prod.fst = nmL vis.reverse := by unfold prsV; rw [List.map_map]; exact List.map_id' _
      have hrise : Rise Prod.fst ps := rise_of hs.2 (by
        refine ((hs.1.map Prod.fst).nodup_iff).2 ?_
        rw [hfst]
        exact (hpr.nodup_iff).2 (nmL_nd hok))
      have hps : ps = prsV (fun n => (m.get n).getD 0) (ps.map Prod.fst) := by
        unfold prsV
        rw [List.map_map]
        refine (List.map_id' ps).symm.trans (List.map_congr_left fun x hx => ?_)
        obtain ⟨n, hn, rfl⟩ := List.mem_map.1 (hs.1.mem_iff.1 hx)
        rfl
      have hk : Keys (fun n => (m.get n).getD 0) (ps.map Prod.fst) := by
        refine keys_of hok (((hs.1.map Prod.fst).trans (by rw [hfst])).trans hpr) ?_
        exact rise_map hrise
      rw [hps]
      conv => whnf
      exact .mk _ _ ⟨_, hk, rfl, rfl⟩ (.mk ⟨rfl, rfl⟩)
    · conv => whnf
      refine .mk rfl ?_
      conv => whnf
      refine sm_at hok he ?_
      conv => whnf
      have hge : (m.get e.2.1).getD 0 = e.2.2 := by rw [get_of_mem hok he]; rfl
      have hbe := hb e.2.1
      rw [hge] at hbe
      repeat' (first | ((first | refine Split.mk (fun h => ?_) (fun h => ?_) | refine CondG.mk (fun h => ?_) (fun h => ?_)) <;> (try simp only [decide_eq_true_eq, decide_eq_false_iff_not, Bool.not_eq_true', Bool.not_eq_false', beq_iff_eq, beq_eq_false_iff_ne, bne_iff_ne, bne_eq_false_iff_eq] at h) <;> (first | (exfalso; first | omega | exact h trivial) | (conv => whnf))) | (refine CallX.mk _ _ (by first | exact itoa_pc e.2.2 (by omega) (by omega)) ?_; conv => whnf) | (refine CallG.mk _ _ (by first | exact itoa_pc e.2.2 (by omega) (by omega)) ?_; conv => whnf) | (refine Ask.mk (by first | omega | (unfold roomOK; simp [cutRows]; done) | (unfold roomOK; simp [cutRows]; omega) | (simp [cutRows]; done) | (simp [cutRows]; omega)) ?_; conv => whnf) | (refine AppG.mk (by first | omega | (unfold roomOK; simp [cutRows]; done) | (unfold roomOK; simp [cutRows]; omega) | (simp [cutRows]; done) | (simp [cutRows]; omega)) ?_; conv => whnf) | (refine SliceG.fr ?_; conv => whnf) | (refine idx_at _ (by with_reducible rfl) (by first | assumption | omega) ?_; conv => whnf) | ((with_reducible refine row_map (by first | assumption | omega) ?_); conv => whnf) | ((with_reducible refine row_set (by first | assumption | omega | (simp only [List.length_set]; omega) | (simp; omega)) ?_); conv => whnf) | fail)
      · have h1 : prsV (fun n => (m.get n).getD 0) (nmL (e :: vis).reverse) = prsV (fun n => (m.get n).getD 0) (nmL vis.reverse) ++ [(e.2.1, itoaB e.2.2)] := by simp [nmL, prsV, h, hge]
        exact meas_next (e :: vis) (by simp only [List.length_cons]; omega) (by rw [h1, List.map_append]; rfl) hv'
      · have h1 : nmL (e :: vis).reverse = nmL vis.reverse := by simp [nmL, show ¬ 0 < e.2.2 by omega]
        exact meas_next (e :: vis) (by simp only [List.length_cons]; omega) (by rw [h1]; rfl) hv'
end Go.Proofs.YtobcplhaabaemaaGreatDoor

/- What the rule of thumb does not cut, by type. -/
namespace Go.Proofs.YtobcplhaabaemaaGreatDoor
set_option linter.unusedVariables false
set_option linter.unusedSimpArgs false
open Abs

def misP (s : List Pc) (O : List Int) : Nat → List Pc
  | 0 => []
  | k + 1 => if O.getD k 0 < 0 then s.getD k default :: misP s O k else misP s O k
theorem misP_len (s : List Pc) (O : List Int) : ∀ k, (misP s O k).length ≤ k
  | 0 => by simp [misP]
  | k + 1 => by
    have := misP_len s O k
    rw [misP]; split
    · simp; omega
    · omega
theorem misP_in {s : List Pc} (hs : ∀ x ∈ s, 1 ≤ x.long ∧ x.long ≤ 200000) (O : List Int) : ∀ k, k ≤ s.length → ∀ p ∈ misP s O k, 0 ≤ p.long ∧ p.long ≤ 200000
  | 0, _, p, hp => by cases hp
  | k + 1, h, p, hp => by
    rw [misP] at hp
    split at hp
    · rcases List.mem_cons.1 hp with rfl | hp
      · have hk : k < s.length := by omega
        have e : s.getD k default = s[k] := by simp [List.getD_eq_getElem?_getD, List.getElem?_eq_getElem hk]
        rw [e]
        have := hs _ (List.getElem_mem hk)
        omega
      · exact misP_in hs O k (by omega) p hp
    · exact misP_in hs O k (by omega) p hp
/-- how many metres of a type are not cut -/
def misG (d s : List Pc) (lost : Int) (n : ByteArray) : Int := sumP n (misP s (fstV d s lost) s.length)
theorem misM_in {s : List Pc} (hs : ∀ x ∈ s, 1 ≤ x.long ∧ x.long ≤ 200000) (h12 : s.length ≤ 12) (O : List Int) (n : ByteArray) : -9000000000000000000 ≤ ((sumsM (misP s O s.length)).get n).getD 0 ∧ ((sumsM (misP s O s.length)).get n).getD 0 ≤ 9000000000000000000 := by
  have hl := misP_len s O s.length
  rw [sumsM_get _ (misP_in hs O s.length (Nat.le_refl _)) (by omega)]
  have := sumP_in n _ (misP_in hs O s.length (Nat.le_refl _))
  omega
set_option maxRecDepth 100000 in
set_option maxHeartbeats 4000000 in
theorem dMissing_bad (d s : List Pc) (r : Int × Int) (ha : allErr d s r ≠ 0) : PCp 10 [.c (.lst 3 (d.map encPc)), .c (.lst 3 (s.map encPc)), .agg [.int .i64 r.1, .int .i64 r.2]] [] (.tup [.c .nils, .c (.int .i64 (allErr d s r))]) [] := by
  refine fn_sound (mt := mts) tab_fits tab_mixed Tryz.func10 (by rfl) (by kernel_rfl) (by kernel_rfl) Tryz.results10 (Nat.le_of_ble_eq_true (by kernel_rfl)) ?_
  conv => whnf
  repeat' (first | ((first | refine Split.mk (fun h => ?_) (fun h => ?_) | refine CondG.mk (fun h => ?_) (fun h => ?_)) <;> (try simp only [decide_eq_true_eq, decide_eq_false_iff_not, Bool.not_eq_true', Bool.not_eq_false', beq_iff_eq, beq_eq_false_iff_ne, bne_iff_ne, bne_eq_false_iff_eq] at h) <;> (first | (exfalso; first | omega | exact h trivial | contradiction | (simp_all [eqRes]; done)) | (conv => whnf))) | (refine CallX.mk _ _ (by first | exact dFault_pc d s r) ?_; conv => whnf) | (refine CallG.mk _ _ (by first | exact dFault_pc d s r) ?_; conv => whnf) | (refine Ask.mk (by first | omega | (unfold roomOK; simp [cutRows]; done) | (unfold roomOK; simp [cutRows]; omega) | (simp [cutRows]; done) | (simp [cutRows]; omega)) ?_; conv => whnf) | (refine AppG.mk (by first | omega | (unfold roomOK; simp [cutRows]; done) | (unfold roomOK; simp [cutRows]; omega) | (simp [cutRows]; done) | (simp [cutRows]; omega)) ?_; conv => whnf) | (refine SliceG.fr ?_; conv => whnf) | (refine idx_at _ (by with_reducible rfl) (by first | assumption | omega) ?_; conv => whnf) | ((with_reducible refine row_map (by first | assumption | omega) ?_); conv => whnf) | ((with_reducible refine row_set (by first | assumption | omega | (simp only [List.length_set]; omega) | (simp; omega)) ?_); conv => whnf) | fail)
  all_goals exact .mk ⟨rfl, rfl⟩
set_option maxRecDepth 100000 in
set_option maxHeartbeats 4000000 in
theorem dMissing_ok (d s : List Pc) (r : Int × Int) (ha : allErr d s r = 0) (h12 : s.length ≤ 12) :
    PCq 10 [.c (.lst 3 (d.map encPc)), .c (.lst 3 (s.map encPc)), .agg [.int .i64 r.1, .int .i64 r.2]] [] fun R os => ∃ ns, Keys (misG d s r.1) ns ∧ R = .tup [.c (.lst 2 ((prsV (misG d s r.1) ns).map encPr)), .c (.int .i64 0)] ∧ os = [] := by
  obtain ⟨f1, f2, f3, f4, f5, f6⟩ := allErr_ok ha
  have hs := (pcFault_ok f2).2
  have hsm : (s.map encPc).length = s.length := List.length_map ..
  have c1 := dfirst_pc d s r ha h12
  have hl := fstV_len ha
  have hG : ∀ n, misG d s r.1 n = ((sumsM (misP s (fstV d s r.1) s.length)).get n).getD 0 := fun n => by
    have := misP_len s (fstV d s r.1) s.length
    rw [sumsM_get _ (misP_in hs _ s.length (Nat.le_refl _)) (by omega)]; rfl
  have hGf : misG d s r.1 = fun n => ((sumsM (misP s (fstV d s r.1) s.length)).get n).getD 0 := funext hG
  rw [hGf]
  have cf := dFault_pc d s r
  rw [ha] at cf
  generalize fstV d s r.1 = O at *
  have hom : (O.map encI).length = s.length := by rw [List.length_map, hl]
  refine fn_soundX (mt := mts) tab_fits tab_mixed Tryz.func10 (by rfl) (by kernel_rfl) (by kernel_rfl) Tryz.results10 (Nat.le_of_ble_eq_true (by kernel_rfl)) ?_
  conv => whnf
  repeat' (first | ((first | refine Split.mk (fun h => ?_) (fun h => ?_) | refine CondG.mk (fun h => ?_) (fun h => ?_)) <;> (try simp only [decide_eq_true_eq, decide_eq_false_iff_not, Bool.not_eq_true', Bool.not_eq_false', beq_iff_eq, beq_eq_false_iff_ne, bne_iff_ne, bne_eq_false_iff_eq] at h) <;> (first | (exfalso; first | omega | exact h trivial | contradiction | (simp_all [eqRes]; done)) | (conv => whnf))) | (refine CallX.mk _ _ (by first | exact cf | exact c1) ?_; conv => whnf) | (refine CallG.mk _ _ (by first | exact cf | exact c1) ?_; conv => whnf) | (refine Ask.mk (by first | omega | (unfold roomOK; simp [cutRows]; done) | (unfold roomOK; simp [cutRows]; omega) | (simp [cutRows]; done) | (simp [cutRows]; omega)) ?_; conv => whnf) | (refine AppG.mk (by first | omega | (unfold roomOK; simp [cutRows]; done) | (unfold roomOK; simp [cutRows]; omega) | (simp [cutRows]; done) | (simp [cutRows]; omega)) ?_; conv => whnf) | (refine SliceG.fr ?_; conv => whnf) | (refine idx_at _ (by with_reducible rfl) (by first | assumption | omega) ?_; conv => whnf) | ((with_reducible refine row_map (by first | assumption | omega) ?_); conv => whnf) | ((with_reducible refine row_set (by first | assumption | omega | (simp only [List.length_set]; omega) | (simp; omega)) ?_); conv => whnf) | fail)
  refine loop_for (s.length) [] [1, 9, 23, 24, 25] (fun k (_ : Unit) => [(25, .c (.int .i64 (k : Int)))]) (fun k (_ : Unit) => [(0, smO ekS evI (sumsM (misP s O k)))]) (fun k (_ : Unit) => True) (()) ?_
  conv => whnf
  refine ⟨?_, (by trivial), ?_, ?_⟩
  · rfl
  · intro k _ hk _
    have hok := sumsM_ok (misP s O k)
    have hkO : k < O.length := by omega
    have hg : O.getD k 0 = O[k] := by simp [List.getD_eq_getElem?_getD, List.getElem?_eq_getElem hkO]
    have hsg : s.getD k default = s[k] := by simp [List.getD_eq_getElem?_getD, List.getElem?_eq_getElem hk]
    have hM : misP s O (k + 1) = if O[k] < 0 then s[k] :: misP s O k else misP s O k := by rw [misP, hg, hsg]
    conv => whnf
    repeat' (first | ((first | refine Split.mk (fun h => ?_) (fun h => ?_) | refine CondG.mk (fun h => ?_) (fun h => ?_)) <;> (try simp only [decide_eq_true_eq, decide_eq_false_iff_not, Bool.not_eq_true', Bool.not_eq_false', beq_iff_eq, beq_eq_false_iff_ne, bne_iff_ne, bne_eq_false_iff_eq] at h) <;> (first | (exfalso; first | omega | exact h trivial) | (conv => whnf))) | (refine Ask.mk (by first | omega | (unfold roomOK; simp [cutRows]; done) | (unfold roomOK; simp [cutRows]; omega) | (simp [cutRows]; done) | (simp [cutRows]; omega)) ?_; conv => whnf) | (refine AppG.mk (by first | omega | (unfold roomOK; simp [cutRows]; done) | (unfold roomOK; simp [cutRows]; omega) | (simp [cutRows]; done) | (simp [cutRows]; omega)) ?_; conv => whnf) | (refine SliceG.fr ?_; conv => whnf) | (refine idx_at _ (by with_reducible rfl) (by first | assumption | omega) ?_; conv => whnf) | ((with_reducible refine row_map (by first | assumption | omega) ?_); conv => whnf) | ((with_reducible refine row_set (by first | assumption | omega | (simp only [List.length_set]; omega) | (simp; omega)) ?_); conv => whnf) | ((with_reducible refine sm_stamp (ek := ekS) (ev := evI) hok _ _ _ ?_ ?_); exact rfl; conv => whnf) | ((with_reducible refine sm_look (ek := ekS) (ev := evI) keyStr _ _ ((0 : Int)) ?_ ?_); exact rfl; conv => whnf) | ((with_reducible refine sm_upd (ek := ekS) (ev := evI) keyStr _ _ _ ?_); conv => whnf) | ((with_reducible refine sm_del (ek := ekS) (ev := evI) keyStr _ _ ?_); conv => whnf) | ((with_reducible refine sm_entry (ek := ekS) (ev := evI) keyStr _ _ ((0 : Int)) ?_ ?_); exact rfl; conv => whnf) | fail)
    all_goals simp only [Int.toNat_natCast] at *
    · rw [if_pos (by assumption)] at hM
      exact count_next () hk (by rw [wrap_succ hk (by omega), hM]; rfl) trivial
    · rw [if_neg (by assumption)] at hM
      exact count_next () hk (by rw [wrap_succ hk (by omega), hM]; rfl) trivial
  · intro _ _
    have hml := sumsM_len (misP s O s.length)
    have hpl := misP_len s O s.length
    conv => whnf
    repeat' (first | ((first | refine Split.mk (fun h => ?_) (fun h => ?_) | refine CondG.mk (fun h => ?_) (fun h => ?_)) <;> (try simp only [decide_eq_true_eq, decide_eq_false_iff_not, Bool.not_eq_true', Bool.not_eq_false', beq_iff_eq, beq_eq_false_iff_ne, bne_iff_ne, bne_eq_false_iff_eq] at h) <;> (first | (exfalso; first | omega | exact h trivial) | (conv => whnf))) | (refine Ask.mk (by first | omega | (unfold roomOK; simp [cutRows]; done) | (unfold roomOK; simp [cutRows]; omega) | (simp [cutRows]; done) | (simp [cutRows]; omega)) ?_; conv => whnf) | (refine AppG.mk (by first | omega | (unfold roomOK; simp [cutRows]; done) | (unfold roomOK; simp [cutRows]; omega) | (simp [cutRows]; done) | (simp [cutRows]; omega)) ?_; conv => whnf) | (refine SliceG.fr ?_; conv => whnf) | (refine idx_at _ (by with_reducible rfl) (by first | assumption | omega) ?_; conv => whnf) | ((with_reducible refine row_map (by first | assumption | omega) ?_); conv => whnf) | ((with_reducible refine row_set (by first | assumption | omega | (simp only [List.length_set]; omega) | (simp; omega)) ?_); conv => whnf) | fail)
    refine .ex _ (dPairs_pc (sumsM (misP s O s.length)) (sumsM_ok _) (by omega) (misM_in hs h12 O)) ?_
    rintro _ _ ⟨ns, hk, rfl, rfl⟩
    conv => whnf
    exact .mk _ _ ⟨ns, hk, rfl, rfl⟩ (by first | exact .mk ⟨rfl, rfl⟩ | exact .weak _ (.refl _) rfl (Nat.le_refl _))
set_option maxRecDepth 100000 in
set_option maxHeartbeats 4000000 in
theorem rMissing_pc (d s : List Pc) (r : Int × Int) (ha : allErr d s r = 0) (h12 : s.length ≤ 12) :
    PCq 13 [.c (.lst 3 (d.map encPc)), .c (.lst 3 (s.map encPc)), .agg [.int .i64 r.1, .int .i64 r.2]] [] fun R os => ∃ ns, Keys (misG d s r.1) ns ∧ R = .c (.row 0) ∧ os = [.row 51 2 ((prsV (misG d s r.1) ns).map encPr)] := by
  obtain ⟨f1, f2, f3, f4, f5, f6⟩ := allErr_ok ha
  have hs := (pcFault_ok f2).2
  have hsm : (s.map encPc).length = s.length := List.length_map ..
  have c1 := rFirst_pc d s r ha h12
  have hl := fstV_len ha
  have hG : ∀ n, misG d s r.1 n = ((sumsM (misP s (fstV d s r.1) s.length)).get n).getD 0 := fun n => by
    have := misP_len s (fstV d s r.1) s.length
    rw [sumsM_get _ (misP_in hs _ s.length (Nat.le_refl _)) (by omega)]; rfl
  have hGf : misG d s r.1 = fun n => ((sumsM (misP s (fstV d s r.1) s.length)).get n).getD 0 := funext hG
  rw [hGf]
  generalize fstV d s r.1 = O at *
  have hom : (O.map encI).length = s.length := by rw [List.length_map, hl]
  refine fn_soundX (mt := mts) tab_fits tab_mixed Tryz.func13 (by rfl) (by kernel_rfl) (by kernel_rfl) Tryz.results13 (Nat.le_of_ble_eq_true (by kernel_rfl)) ?_
  conv => whnf
  repeat' (first | ((first | refine Split.mk (fun h => ?_) (fun h => ?_) | refine CondG.mk (fun h => ?_) (fun h => ?_)) <;> (try simp only [decide_eq_true_eq, decide_eq_false_iff_not, Bool.not_eq_true', Bool.not_eq_false', beq_iff_eq, beq_eq_false_iff_ne, bne_iff_ne, bne_eq_false_iff_eq] at h) <;> (first | (exfalso; first | omega | exact h trivial) | (conv => whnf))) | (refine CallX.mk _ _ (by first | exact c1) ?_; conv => whnf) | (refine CallG.mk _ _ (by first | exact c1) ?_; conv => whnf) | (refine Ask.mk (by first | omega | (unfold roomOK; simp [cutRows]; done) | (unfold roomOK; simp [cutRows]; omega) | (simp [cutRows]; done) | (simp [cutRows]; omega)) ?_; conv => whnf) | (refine AppG.mk (by first | omega | (unfold roomOK; simp [cutRows]; done) | (unfold roomOK; simp [cutRows]; omega) | (simp [cutRows]; done) | (simp [cutRows]; omega)) ?_; conv => whnf) | (refine SliceG.fr ?_; conv => whnf) | (refine idx_at _ (by with_reducible rfl) (by first | assumption | omega) ?_; conv => whnf) | ((with_reducible refine row_map (by first | assumption | omega) ?_); conv => whnf) | ((with_reducible refine row_set (by first | assumption | omega | (simp only [List.length_set]; omega) | (simp; omega)) ?_); conv => whnf) | fail)
  refine loop_for (s.length) [] [1, 9, 20, 21, 22] (fun k (_ : Unit) => [(22, .c (.int .i64 (k : Int)))]) (fun k (_ : Unit) => [(0, smO ekS evI (sumsM (misP s O k)))]) (fun k (_ : Unit) => True) (()) ?_
  conv => whnf
  refine ⟨?_, (by trivial), ?_, ?_⟩
  · rfl
  · intro k _ hk _
    have hok := sumsM_ok (misP s O k)
    have hkO : k < O.length := by omega
    have hg : O.getD k 0 = O[k] := by simp [List.getD_eq_getElem?_getD, List.getElem?_eq_getElem hkO]
    have hsg : s.getD k default = s[k] := by simp [List.getD_eq_getElem?_getD, List.getElem?_eq_getElem hk]
    have hM : misP s O (k + 1) = if O[k] < 0 then s[k] :: misP s O k else misP s O k := by rw [misP, hg, hsg]
    conv => whnf
    repeat' (first | ((first | refine Split.mk (fun h => ?_) (fun h => ?_) | refine CondG.mk (fun h => ?_) (fun h => ?_)) <;> (try simp only [decide_eq_true_eq, decide_eq_false_iff_not, Bool.not_eq_true', Bool.not_eq_false', beq_iff_eq, beq_eq_false_iff_ne, bne_iff_ne, bne_eq_false_iff_eq] at h) <;> (first | (exfalso; first | omega | exact h trivial) | (conv => whnf))) | (refine Ask.mk (by first | omega | (unfold roomOK; simp [cutRows]; done) | (unfold roomOK; simp [cutRows]; omega) | (simp [cutRows]; done) | (simp [cutRows]; omega)) ?_; conv => whnf) | (refine AppG.mk (by first | omega | (unfold roomOK; simp [cutRows]; done) | (unfold roomOK; simp [cutRows]; omega) | (simp [cutRows]; done) | (simp [cutRows]; omega)) ?_; conv => whnf) | (refine SliceG.fr ?_; conv => whnf) | (refine idx_at _ (by with_reducible rfl) (by first | assumption | omega) ?_; conv => whnf) | ((with_reducible refine row_map (by first | assumption | omega) ?_); conv => whnf) | ((with_reducible refine row_set (by first | assumption | omega | (simp only [List.length_set]; omega) | (simp; omega)) ?_); conv => whnf) | ((with_reducible refine sm_stamp (ek := ekS) (ev := evI) hok _ _ _ ?_ ?_); exact rfl; conv => whnf) | ((with_reducible refine sm_look (ek := ekS) (ev := evI) keyStr _ _ ((0 : Int)) ?_ ?_); exact rfl; conv => whnf) | ((with_reducible refine sm_upd (ek := ekS) (ev := evI) keyStr _ _ _ ?_); conv => whnf) | ((with_reducible refine sm_del (ek := ekS) (ev := evI) keyStr _ _ ?_); conv => whnf) | ((with_reducible refine sm_entry (ek := ekS) (ev := evI) keyStr _ _ ((0 : Int)) ?_ ?_); exact rfl; conv => whnf) | fail)
    all_goals simp only [Int.toNat_natCast] at *
    · rw [if_pos (by assumption)] at hM
      exact count_next () hk (by rw [wrap_succ hk (by omega), hM]; rfl) trivial
    · rw [if_neg (by assumption)] at hM
      exact count_next () hk (by rw [wrap_succ hk (by omega), hM]; rfl) trivial
  · intro _ _
    have hml := sumsM_len (misP s O s.length)
    have hpl := misP_len s O s.length
    conv => whnf
    repeat' (first | ((first | refine Split.mk (fun h => ?_) (fun h => ?_) | refine CondG.mk (fun h => ?_) (fun h => ?_)) <;> (try simp only [decide_eq_true_eq, decide_eq_false_iff_not, Bool.not_eq_true', Bool.not_eq_false', beq_iff_eq, beq_eq_false_iff_ne, bne_iff_ne, bne_eq_false_iff_eq] at h) <;> (first | (exfalso; first | omega | exact h trivial) | (conv => whnf))) | (refine Ask.mk (by first | omega | (unfold roomOK; simp [cutRows]; done) | (unfold roomOK; simp [cutRows]; omega) | (simp [cutRows]; done) | (simp [cutRows]; omega)) ?_; conv => whnf) | (refine AppG.mk (by first | omega | (unfold roomOK; simp [cutRows]; done) | (unfold roomOK; simp [cutRows]; omega) | (simp [cutRows]; done) | (simp [cutRows]; omega)) ?_; conv => whnf) | (refine SliceG.fr ?_; conv => whnf) | (refine idx_at _ (by with_reducible rfl) (by first | assumption | omega) ?_; conv => whnf) | ((with_reducible refine row_map (by first | assumption | omega) ?_); conv => whnf) | ((with_reducible refine row_set (by first | assumption | omega | (simp only [List.length_set]; omega) | (simp; omega)) ?_); conv => whnf) | fail)
    refine .ex _ (rPairs_pc (sumsM (misP s O s.length)) (sumsM_ok _) (by omega) (misM_in hs h12 O)) ?_
    rintro _ _ ⟨ns, hk, rfl, rfl⟩
    conv => whnf
    exact .mk _ _ ⟨ns, hk, rfl, rfl⟩ (by first | exact .mk ⟨rfl, rfl⟩ | exact .weak _ (.refl _) rfl (Nat.le_refl _))
end Go.Proofs.YtobcplhaabaemaaGreatDoor

/- Totals by type, by the program and by the document. -/
namespace Go.Proofs.YtobcplhaabaemaaGreatDoor
set_option linter.unusedVariables false
set_option linter.unusedSimpArgs false
open Abs

end Go.Proofs.YtobcplhaabaemaaGreatDoor

/- Lists of acts joined and sorted: by the program and by the document. -/
namespace Go.Proofs.YtobcplhaabaemaaGreatDoor
set_option linter.unusedVariables false
set_option linter.unusedSimpArgs false
open Abs

end Go.Proofs.YtobcplhaabaemaaGreatDoor

/- MergedActs: the document's list. -/
namespace Go.Proofs.YtobcplhaabaemaaGreatDoor
set_option linter.unusedVariables false
set_option linter.unusedSimpArgs false
open Abs

end Go.Proofs.YtobcplhaabaemaaGreatDoor

/- Refused acts, by the program. -/
namespace Go.Proofs.YtobcplhaabaemaaGreatDoor
set_option linter.unusedVariables false
set_option linter.unusedSimpArgs false
open Abs

end Go.Proofs.YtobcplhaabaemaaGreatDoor

/- Lists that are the same. -/
namespace Go.Proofs.YtobcplhaabaemaaGreatDoor
set_option linter.unusedVariables false
set_option linter.unusedSimpArgs false
open Abs

end Go.Proofs.YtobcplhaabaemaaGreatDoor

/- Both sides of what is refused, in stock, and in all. -/
namespace Go.Proofs.YtobcplhaabaemaaGreatDoor
set_option linter.unusedVariables false
set_option linter.unusedSimpArgs false
open Abs

end Go.Proofs.YtobcplhaabaemaaGreatDoor

/- The law StoresFollowed. -/
namespace Go.Proofs.YtobcplhaabaemaaGreatDoor
set_option linter.unusedVariables false
set_option linter.unusedSimpArgs false
open Abs

end Go.Proofs.YtobcplhaabaemaaGreatDoor

/- The law of plans that are made: the walk. -/
namespace Go.Proofs.YtobcplhaabaemaaGreatDoor
set_option linter.unusedVariables false
set_option linter.unusedSimpArgs false
open Abs

set_option maxRecDepth 100000 in
set_option maxHeartbeats 4000000 in
theorem eqInS4_pc (l : List Int) (hl : l.length ≤ 1000000) : PCp 15 [.c (.lst 1 (l.map encI)), .c (.lst 1 (l.map encI))] [] (.c (.bool true)) [] := by
  have hlm : (l.map encI).length = l.length := List.length_map ..
  refine fn_sound (mt := mts) tab_fits tab_mixed Tryz.func15 (by rfl) (by kernel_rfl) (by kernel_rfl) Tryz.results15 (Nat.le_of_ble_eq_true (by kernel_rfl)) ?_
  conv => whnf
  repeat' (first | ((first | refine Split.mk (fun h => ?_) (fun h => ?_) | refine CondG.mk (fun h => ?_) (fun h => ?_)) <;> (try simp only [decide_eq_true_eq, decide_eq_false_iff_not, Bool.not_eq_true', Bool.not_eq_false', beq_iff_eq, beq_eq_false_iff_ne, bne_iff_ne, bne_eq_false_iff_eq] at h) <;> (first | (exfalso; first | omega | exact h trivial | contradiction | (simp_all [eqRes]; done)) | (conv => whnf))) | (refine Ask.mk (by first | omega | (unfold roomOK; simp [cutRows]; done) | (unfold roomOK; simp [cutRows]; omega) | (simp [cutRows]; done) | (simp [cutRows]; omega)) ?_; conv => whnf) | (refine AppG.mk (by first | omega | (unfold roomOK; simp [cutRows]; done) | (unfold roomOK; simp [cutRows]; omega) | (simp [cutRows]; done) | (simp [cutRows]; omega)) ?_; conv => whnf) | (refine SliceG.fr ?_; conv => whnf) | (refine idx_at _ (by with_reducible rfl) (by first | assumption | omega) ?_; conv => whnf) | ((with_reducible refine row_map (by first | assumption | omega) ?_); conv => whnf) | ((with_reducible refine row_set (by first | assumption | omega | (simp only [List.length_set]; omega) | (simp; omega)) ?_); conv => whnf) | fail)
  refine loop_for (l.length) [] [0, 1, 12, 13] (fun k (_ : Unit) => [(13, .c (.int .i64 (k : Int)))]) (fun k (_ : Unit) => []) (fun k (_ : Unit) => True) (()) ?_
  conv => whnf
  refine ⟨(by first | rfl | (simp; done) | (simp; rfl)), (by trivial), ?_, ?_⟩
  · intro k _ hk _
    conv => whnf
    repeat' (first | ((first | refine Split.mk (fun h => ?_) (fun h => ?_) | refine CondG.mk (fun h => ?_) (fun h => ?_)) <;> (try simp only [decide_eq_true_eq, decide_eq_false_iff_not, Bool.not_eq_true', Bool.not_eq_false', beq_iff_eq, beq_eq_false_iff_ne, bne_iff_ne, bne_eq_false_iff_eq] at h) <;> (first | (exfalso; first | omega | exact h trivial | contradiction | (simp_all [eqRes]; done)) | (conv => whnf))) | (refine Ask.mk (by first | omega | (unfold roomOK; simp [cutRows]; done) | (unfold roomOK; simp [cutRows]; omega) | (simp [cutRows]; done) | (simp [cutRows]; omega)) ?_; conv => whnf) | (refine AppG.mk (by first | omega | (unfold roomOK; simp [cutRows]; done) | (unfold roomOK; simp [cutRows]; omega) | (simp [cutRows]; done) | (simp [cutRows]; omega)) ?_; conv => whnf) | (refine SliceG.fr ?_; conv => whnf) | (refine idx_at _ (by with_reducible rfl) (by first | assumption | omega) ?_; conv => whnf) | ((with_reducible refine row_map (by first | assumption | omega) ?_); conv => whnf) | ((with_reducible refine row_set (by first | assumption | omega | (simp only [List.length_set]; omega) | (simp; omega)) ?_); conv => whnf) | fail)
    all_goals exact count_next () hk (by rw [wrap_succ hk (by omega)]; rfl) trivial
  · intro _ _
    conv => whnf
    repeat' (first | ((first | refine Split.mk (fun h => ?_) (fun h => ?_) | refine CondG.mk (fun h => ?_) (fun h => ?_)) <;> (try simp only [decide_eq_true_eq, decide_eq_false_iff_not, Bool.not_eq_true', Bool.not_eq_false', beq_iff_eq, beq_eq_false_iff_ne, bne_iff_ne, bne_eq_false_iff_eq] at h) <;> (first | (exfalso; first | omega | exact h trivial | contradiction | (simp_all [eqRes]; done)) | (conv => whnf))) | (refine Ask.mk (by first | omega | (unfold roomOK; simp [cutRows]; done) | (unfold roomOK; simp [cutRows]; omega) | (simp [cutRows]; done) | (simp [cutRows]; omega)) ?_; conv => whnf) | (refine AppG.mk (by first | omega | (unfold roomOK; simp [cutRows]; done) | (unfold roomOK; simp [cutRows]; omega) | (simp [cutRows]; done) | (simp [cutRows]; omega)) ?_; conv => whnf) | (refine SliceG.fr ?_; conv => whnf) | (refine idx_at _ (by with_reducible rfl) (by first | assumption | omega) ?_; conv => whnf) | ((with_reducible refine row_map (by first | assumption | omega) ?_); conv => whnf) | ((with_reducible refine row_set (by first | assumption | omega | (simp only [List.length_set]; omega) | (simp; omega)) ?_); conv => whnf) | fail)
    all_goals exact .mk ⟨rfl, rfl⟩
set_option maxRecDepth 100000 in
set_option maxHeartbeats 4000000 in
theorem eqStS4_pc (l : List ByteArray) (hl : l.length ≤ 1000000) : PCp 16 [.c (.lst 1 (l.map encS)), .c (.lst 1 (l.map encS))] [] (.c (.bool true)) [] := by
  have hlm : (l.map encS).length = l.length := List.length_map ..
  refine fn_sound (mt := mts) tab_fits tab_mixed Tryz.func16 (by rfl) (by kernel_rfl) (by kernel_rfl) Tryz.results16 (Nat.le_of_ble_eq_true (by kernel_rfl)) ?_
  conv => whnf
  repeat' (first | ((first | refine Split.mk (fun h => ?_) (fun h => ?_) | refine CondG.mk (fun h => ?_) (fun h => ?_)) <;> (try simp only [decide_eq_true_eq, decide_eq_false_iff_not, Bool.not_eq_true', Bool.not_eq_false', beq_iff_eq, beq_eq_false_iff_ne, bne_iff_ne, bne_eq_false_iff_eq] at h) <;> (first | (exfalso; first | omega | exact h trivial | contradiction | (simp_all [eqRes]; done)) | (conv => whnf))) | (refine Ask.mk (by first | omega | (unfold roomOK; simp [cutRows]; done) | (unfold roomOK; simp [cutRows]; omega) | (simp [cutRows]; done) | (simp [cutRows]; omega)) ?_; conv => whnf) | (refine AppG.mk (by first | omega | (unfold roomOK; simp [cutRows]; done) | (unfold roomOK; simp [cutRows]; omega) | (simp [cutRows]; done) | (simp [cutRows]; omega)) ?_; conv => whnf) | (refine SliceG.fr ?_; conv => whnf) | (refine idx_at _ (by with_reducible rfl) (by first | assumption | omega) ?_; conv => whnf) | ((with_reducible refine row_map (by first | assumption | omega) ?_); conv => whnf) | ((with_reducible refine row_set (by first | assumption | omega | (simp only [List.length_set]; omega) | (simp; omega)) ?_); conv => whnf) | fail)
  refine loop_for (l.length) [] [0, 1, 12, 13] (fun k (_ : Unit) => [(13, .c (.int .i64 (k : Int)))]) (fun k (_ : Unit) => []) (fun k (_ : Unit) => True) (()) ?_
  conv => whnf
  refine ⟨(by first | rfl | (simp; done) | (simp; rfl)), (by trivial), ?_, ?_⟩
  · intro k _ hk _
    conv => whnf
    repeat' (first | ((first | refine Split.mk (fun h => ?_) (fun h => ?_) | refine CondG.mk (fun h => ?_) (fun h => ?_)) <;> (try simp only [decide_eq_true_eq, decide_eq_false_iff_not, Bool.not_eq_true', Bool.not_eq_false', beq_iff_eq, beq_eq_false_iff_ne, bne_iff_ne, bne_eq_false_iff_eq] at h) <;> (first | (exfalso; first | omega | exact h trivial | contradiction | (simp_all [eqRes]; done)) | (conv => whnf))) | (refine Ask.mk (by first | omega | (unfold roomOK; simp [cutRows]; done) | (unfold roomOK; simp [cutRows]; omega) | (simp [cutRows]; done) | (simp [cutRows]; omega)) ?_; conv => whnf) | (refine AppG.mk (by first | omega | (unfold roomOK; simp [cutRows]; done) | (unfold roomOK; simp [cutRows]; omega) | (simp [cutRows]; done) | (simp [cutRows]; omega)) ?_; conv => whnf) | (refine SliceG.fr ?_; conv => whnf) | (refine idx_at _ (by with_reducible rfl) (by first | assumption | omega) ?_; conv => whnf) | ((with_reducible refine row_map (by first | assumption | omega) ?_); conv => whnf) | ((with_reducible refine row_set (by first | assumption | omega | (simp only [List.length_set]; omega) | (simp; omega)) ?_); conv => whnf) | fail)
    all_goals exact count_next () hk (by rw [wrap_succ hk (by omega)]; rfl) trivial
  · intro _ _
    conv => whnf
    repeat' (first | ((first | refine Split.mk (fun h => ?_) (fun h => ?_) | refine CondG.mk (fun h => ?_) (fun h => ?_)) <;> (try simp only [decide_eq_true_eq, decide_eq_false_iff_not, Bool.not_eq_true', Bool.not_eq_false', beq_iff_eq, beq_eq_false_iff_ne, bne_iff_ne, bne_eq_false_iff_eq] at h) <;> (first | (exfalso; first | omega | exact h trivial | contradiction | (simp_all [eqRes]; done)) | (conv => whnf))) | (refine Ask.mk (by first | omega | (unfold roomOK; simp [cutRows]; done) | (unfold roomOK; simp [cutRows]; omega) | (simp [cutRows]; done) | (simp [cutRows]; omega)) ?_; conv => whnf) | (refine AppG.mk (by first | omega | (unfold roomOK; simp [cutRows]; done) | (unfold roomOK; simp [cutRows]; omega) | (simp [cutRows]; done) | (simp [cutRows]; omega)) ?_; conv => whnf) | (refine SliceG.fr ?_; conv => whnf) | (refine idx_at _ (by with_reducible rfl) (by first | assumption | omega) ?_; conv => whnf) | ((with_reducible refine row_map (by first | assumption | omega) ?_); conv => whnf) | ((with_reducible refine row_set (by first | assumption | omega | (simp only [List.length_set]; omega) | (simp; omega)) ?_); conv => whnf) | fail)
    all_goals exact .mk ⟨rfl, rfl⟩
set_option maxRecDepth 100000 in
set_option maxHeartbeats 4000000 in
theorem eqPrS4_pc (l : List (ByteArray × ByteArray)) (hl : l.length ≤ 1000000) : PCp 17 [.c (.lst 2 (l.map encPr)), .c (.lst 2 (l.map encPr))] [] (.c (.bool true)) [] := by
  have hlm : (l.map encPr).length = l.length := List.length_map ..
  refine fn_sound (mt := mts) tab_fits tab_mixed Tryz.func17 (by rfl) (by kernel_rfl) (by kernel_rfl) Tryz.results17 (Nat.le_of_ble_eq_true (by kernel_rfl)) ?_
  conv => whnf
  repeat' (first | ((first | refine Split.mk (fun h => ?_) (fun h => ?_) | refine CondG.mk (fun h => ?_) (fun h => ?_)) <;> (try simp only [decide_eq_true_eq, decide_eq_false_iff_not, Bool.not_eq_true', Bool.not_eq_false', beq_iff_eq, beq_eq_false_iff_ne, bne_iff_ne, bne_eq_false_iff_eq] at h) <;> (first | (exfalso; first | omega | exact h trivial | contradiction | (simp_all [eqRes]; done)) | (conv => whnf))) | (refine Ask.mk (by first | omega | (unfold roomOK; simp [cutRows]; done) | (unfold roomOK; simp [cutRows]; omega) | (simp [cutRows]; done) | (simp [cutRows]; omega)) ?_; conv => whnf) | (refine AppG.mk (by first | omega | (unfold roomOK; simp [cutRows]; done) | (unfold roomOK; simp [cutRows]; omega) | (simp [cutRows]; done) | (simp [cutRows]; omega)) ?_; conv => whnf) | (refine SliceG.fr ?_; conv => whnf) | (refine idx_at _ (by with_reducible rfl) (by first | assumption | omega) ?_; conv => whnf) | ((with_reducible refine row_map (by first | assumption | omega) ?_); conv => whnf) | ((with_reducible refine row_set (by first | assumption | omega | (simp only [List.length_set]; omega) | (simp; omega)) ?_); conv => whnf) | fail)
  refine loop_for (l.length) [] [0, 1, 12, 13] (fun k (_ : Unit) => [(13, .c (.int .i64 (k : Int)))]) (fun k (_ : Unit) => []) (fun k (_ : Unit) => True) (()) ?_
  conv => whnf
  refine ⟨(by first | rfl | (simp; done) | (simp; rfl)), (by trivial), ?_, ?_⟩
  · intro k _ hk _
    conv => whnf
    repeat' (first | ((first | refine Split.mk (fun h => ?_) (fun h => ?_) | refine CondG.mk (fun h => ?_) (fun h => ?_)) <;> (try simp only [decide_eq_true_eq, decide_eq_false_iff_not, Bool.not_eq_true', Bool.not_eq_false', beq_iff_eq, beq_eq_false_iff_ne, bne_iff_ne, bne_eq_false_iff_eq] at h) <;> (first | (exfalso; first | omega | exact h trivial | contradiction | (simp_all [eqRes]; done)) | (conv => whnf))) | (refine Ask.mk (by first | omega | (unfold roomOK; simp [cutRows]; done) | (unfold roomOK; simp [cutRows]; omega) | (simp [cutRows]; done) | (simp [cutRows]; omega)) ?_; conv => whnf) | (refine AppG.mk (by first | omega | (unfold roomOK; simp [cutRows]; done) | (unfold roomOK; simp [cutRows]; omega) | (simp [cutRows]; done) | (simp [cutRows]; omega)) ?_; conv => whnf) | (refine SliceG.fr ?_; conv => whnf) | (refine idx_at _ (by with_reducible rfl) (by first | assumption | omega) ?_; conv => whnf) | ((with_reducible refine row_map (by first | assumption | omega) ?_); conv => whnf) | ((with_reducible refine row_set (by first | assumption | omega | (simp only [List.length_set]; omega) | (simp; omega)) ?_); conv => whnf) | fail)
    all_goals exact count_next () hk (by rw [wrap_succ hk (by omega)]; rfl) trivial
  · intro _ _
    conv => whnf
    repeat' (first | ((first | refine Split.mk (fun h => ?_) (fun h => ?_) | refine CondG.mk (fun h => ?_) (fun h => ?_)) <;> (try simp only [decide_eq_true_eq, decide_eq_false_iff_not, Bool.not_eq_true', Bool.not_eq_false', beq_iff_eq, beq_eq_false_iff_ne, bne_iff_ne, bne_eq_false_iff_eq] at h) <;> (first | (exfalso; first | omega | exact h trivial | contradiction | (simp_all [eqRes]; done)) | (conv => whnf))) | (refine Ask.mk (by first | omega | (unfold roomOK; simp [cutRows]; done) | (unfold roomOK; simp [cutRows]; omega) | (simp [cutRows]; done) | (simp [cutRows]; omega)) ?_; conv => whnf) | (refine AppG.mk (by first | omega | (unfold roomOK; simp [cutRows]; done) | (unfold roomOK; simp [cutRows]; omega) | (simp [cutRows]; done) | (simp [cutRows]; omega)) ?_; conv => whnf) | (refine SliceG.fr ?_; conv => whnf) | (refine idx_at _ (by with_reducible rfl) (by first | assumption | omega) ?_; conv => whnf) | ((with_reducible refine row_map (by first | assumption | omega) ?_); conv => whnf) | ((with_reducible refine row_set (by first | assumption | omega | (simp only [List.length_set]; omega) | (simp; omega)) ?_); conv => whnf) | fail)
    all_goals exact .mk ⟨rfl, rfl⟩
theorem plan_two {d s : List Pc} {r : Int × Int} (ha : allErr d s r = 0) {p p2 : List Nat} {w w2 : Int} {ok ok2 : Bool} (h : PlanR d s r p w ok)
    (h2 : (planE d s r = 0 → (∀ q, planD d s r = some q → p2 = q ∧ w2 = wasteV d s r (toI q) ∧ ok2 = true) ∧ (planD d s r = none → p2 = [] ∧ w2 = 0 ∧ ok2 = false)) ∧ (planE d s r ≠ 0 → p2 = [] ∧ w2 = 0 ∧ ok2 = false)) : p2 = p ∧ w2 = w ∧ ok2 = ok := by
  by_cases hE : planE d s r = 0
  · have hb : ¬ (6 < d.length ∨ 10 < s.length) := fun q => by
      unfold planE at hE
      rw [if_neg (by omega), if_pos q] at hE; cases hE
    obtain ⟨g1, g2⟩ := h2.1 hE
    cases ok with
    | false =>
      obtain ⟨e1, e2, e3⟩ := h.no hE rfl
      obtain ⟨a1, a2, a3⟩ := g2 (plan_not ha (by omega) (by omega) e3)
      rw [a1, a2, a3, e1, e2]; exact ⟨rfl, rfl, rfl⟩
    | true =>
      obtain ⟨sc, hP, hw⟩ := h.yes hE rfl
      obtain ⟨a1, a2, a3⟩ := g1 p (plan_same ha (by omega) (by omega) hP)
      rw [a1, a2, a3, hw, (plan_waste ha (by omega) (by omega) hP.ext hP.sum).2.1]
      exact ⟨rfl, rfl, rfl⟩
  · obtain ⟨a1, a2, a3⟩ := h2.2 hE
    obtain ⟨e1, e2, e3⟩ := h.bad hE
    rw [a1, a2, a3, e1, e2, e3]; exact ⟨rfl, rfl, rfl⟩
end Go.Proofs.YtobcplhaabaemaaGreatDoor

/- The law of plans that are made: the walk. -/
namespace Go.Proofs.YtobcplhaabaemaaGreatDoor
set_option linter.unusedVariables false
set_option linter.unusedSimpArgs false
open Abs

theorem pickV_memM (L : List Int) (p : Int) (l : List Int) (h : 1 ≤ l.length) (hl : l.length ≤ 1000000) : pickV L p l ∈ l := by
  have := nextV_lt L p l.length (by omega)
  unfold pickV
  rw [List.getD_eq_getElem?_getD, List.getElem?_eq_getElem (show (nextV L p l.length).toNat < l.length by omega)]
  exact List.getElem_mem _
theorem eqInN4 : PCp 15 [.c (.lst 1 []), .c .nils] [] (.c (.bool true)) [] := (eqInS4_pc [] (by simp)).wk (P2.cons (.refl _) (P2.cons (.c (.nils 1)) P2.nil))
theorem eqStN4 : PCp 16 [.c (.lst 1 []), .c .nils] [] (.c (.bool true)) [] := (eqStS4_pc [] (by simp)).wk (P2.cons (.refl _) (P2.cons (.c (.nils 1)) P2.nil))
theorem eqPrN4 : PCp 17 [.c .nils, .c .nils] [] (.c (.bool true)) [] := (eqPrS4_pc [] (by simp)).wk (P2.cons (.c (.nils 2)) (P2.cons (.c (.nils 2)) P2.nil))
theorem sub5 (s : List Pc) : sub (s.map encPc) 0 (if (5 : Int) < (((s.map encPc).length : Nat) : Int) then 5 else (((s.map encPc).length : Nat) : Int)).toNat = (s.take 5).map encPc := by
  have hl : (s.map encPc).length = s.length := List.length_map ..
  rw [hl, List.map_take]
  unfold sub
  by_cases h : (5 : Int) < (s.length : Int)
  · rw [if_pos h]; rfl
  · rw [if_neg h, Int.toNat_natCast]
    simp only [List.drop_zero, Nat.sub_zero]
    rw [List.take_of_length_le (by omega), List.take_of_length_le (by omega)]
theorem sumP_no {n : ByteArray} : ∀ {l : List Pc}, n ∉ l.map Pc.kind → sumP n l = 0
  | [], _ => rfl
  | p :: r, h => by
    rw [List.map_cons, List.mem_cons, not_or] at h
    have ih := sumP_no h.2
    have hne : ¬ p.kind = n := fun e => h.1 e.symm
    simp only [sumP, if_neg hne, ih]; omega
theorem nm_len {d x : List Pc} {lost : Int} {nm : List ByteArray} (hk : Keys (misG d x lost) nm) : nm.length ≤ x.length := by
  have hn : nm.Nodup := hk.1.imp (fun h => ltB_ne h)
  have h1 := nodup_sub_len (m := (misP x (fstV d x lost) x.length).map Pc.kind) hn (fun n hn' => by
    refine Classical.byContradiction fun hc => ?_
    have := (hk.2 n).1 hn'
    unfold misG at this
    rw [sumP_no hc] at this
    omega)
  rw [List.length_map] at h1
  have := misP_len x (fstV d x lost) x.length
  omega
theorem planR_len {d x : List Pc} {r : Int × Int} {p : List Nat} {w : Int} {ok : Bool} (h : PlanR d x r p w ok) (hx : x.length ≤ 1000000) : p.length ≤ 1000000 := by
  by_cases hE : planE d x r = 0
  · cases ok with
    | false => rw [(h.no hE rfl).1]; simp
    | true => obtain ⟨sc, hP, _⟩ := h.yes hE rfl; rw [hP.ext.len]; exact hx
  · rw [(h.bad hE).1]; simp
set_option maxRecDepth 100000 in
set_option maxHeartbeats 4000000 in
theorem plansMade_pc (L : List Int) (hL : L.length ≤ 9223372036854775807) : PCp 3 [.c (.lst 1 (L.map encI))] [] (.c (.bool true)) [] := by
  have st0 : StOk L 0 := ⟨hL, by omega, by omega⟩
  have cA := pick_ok st0 [3, 3, 7] (by decide) (by decide)
  have bA : pickV L 0 [3, 3, 7] = 3 ∨ pickV L 0 [3, 3, 7] = 7 := by
    have := pickV_memM L 0 [3, 3, 7] (by decide)
    simpa using this
  generalize pickV L 0 [3, 3, 7] = nd at *
  have st1 : StOk L 1 := ⟨hL, by omega, by omega⟩
  have c1 := drums_pc st1 (by omega) nd (by omega) (by omega)
  have b1 := drumsV_in L 1 nd (by omega)
  generalize drumsV L 1 nd = D at c1 b1
  obtain ⟨d, p1⟩ := D
  simp only at c1 b1
  have hp1 : StOk L p1 := ⟨hL, by omega, by omega⟩
  have cB := pick_ok hp1 [5, 5, 11] (by decide) (by decide)
  have bB : pickV L p1 [5, 5, 11] = 5 ∨ pickV L p1 [5, 5, 11] = 11 := by
    have := pickV_memM L p1 [5, 5, 11] (by decide)
    simpa using this
  generalize pickV L p1 [5, 5, 11] = ns at *
  have c2 := sects_pc (L := L) (p := p1 + 1) ⟨hL, by omega, by omega⟩ (by omega) ns (by omega) (by omega)
  have b2 := sectsV_in L (p1 + 1) ns (by omega)
  generalize sectsV L (p1 + 1) ns = D at c2 b2
  obtain ⟨s, p2⟩ := D
  simp only at c2 b2
  have c3 := aCut_pc (L := L) (p := p2) ⟨hL, by omega, by omega⟩ (by omega)
  have b3 := cutV_in L p2
  generalize cutV L p2 = D at c3 b3
  obtain ⟨r, p3⟩ := D
  simp only at c3 b3
  have hls : (s.map encPc).length = s.length := List.length_map ..
  have hld : (d.map encPc).length = d.length := List.length_map ..
  refine fn_sound (mt := mts) tab_fits tab_mixed Tryz.func3 (by rfl) (by kernel_rfl) (by kernel_rfl) Tryz.results3 (Nat.le_of_ble_eq_true (by kernel_rfl)) ?_
  conv => whnf
  repeat' (first | ((first | refine Split.mk (fun h => ?_) (fun h => ?_) | refine CondG.mk (fun h => ?_) (fun h => ?_)) <;> (try simp only [decide_eq_true_eq, decide_eq_false_iff_not, Bool.not_eq_true', Bool.not_eq_false', beq_iff_eq, beq_eq_false_iff_ne, bne_iff_ne, bne_eq_false_iff_eq] at h) <;> (first | (exfalso; first | omega | exact h trivial) | (conv => whnf))) | (refine CallX.mk _ _ (by first | exact cA | exact c1 | exact cB | exact c2 | exact c3) ?_; conv => whnf) | (refine CallG.mk _ _ (by first | exact cA | exact c1 | exact cB | exact c2 | exact c3) ?_; conv => whnf) | (refine Ask.mk (by first | omega | (unfold roomOK; simp [cutRows]; done) | (unfold roomOK; simp [cutRows]; omega) | (simp [cutRows]; done) | (simp [cutRows]; omega)) ?_; conv => whnf) | (refine AppG.mk (by first | omega | (unfold roomOK; simp [cutRows]; done) | (unfold roomOK; simp [cutRows]; omega) | (simp [cutRows]; done) | (simp [cutRows]; omega)) ?_; conv => whnf) | (refine SliceG.fr ?_; conv => whnf) | (refine idx_at _ (by with_reducible rfl) (by first | assumption | omega) ?_; conv => whnf) | ((with_reducible refine row_map (by first | assumption | omega) ?_); conv => whnf) | ((with_reducible refine row_set (by first | assumption | omega | (simp only [List.length_set]; omega) | (simp; omega)) ?_); conv => whnf) | fail)
  all_goals try rw [sub5]
  · have hxl : (s.take 5).length ≤ 11 := by rw [List.length_take]; omega
    generalize s.take 5 = x at *
    have cF := dFirst_pc d x r (by omega)
    have cC := lCut_pc d x r
    by_cases ha : allErr d x r = 0
    · have hfl := fstV_len ha
      have hul := unK_len x (fstV d x r.1) x.length
      have e1 : fstF d x r = fstV d x r.1 := by unfold fstF; rw [if_pos ha]
      have e2 : unF d x r = unK x (fstV d x r.1) x.length := by unfold unF; rw [if_pos ha]
      have cR := rFirst_pc d x r ha (by omega)
      rw [e1, e2, ha] at cF
      rw [ha] at cC
      refine .ex _ (dPlan_pc d x r) ?_
      rintro _ _ ⟨p, w, ok, rfl, rfl, hR⟩
      conv => whnf
      repeat' (first | ((first | refine Split.mk (fun h => ?_) (fun h => ?_) | refine CondG.mk (fun h => ?_) (fun h => ?_)) <;> (try simp only [decide_eq_true_eq, decide_eq_false_iff_not, Bool.not_eq_true', Bool.not_eq_false', beq_iff_eq, beq_eq_false_iff_ne, bne_iff_ne, bne_eq_false_iff_eq] at h) <;> (first | (exfalso; first | omega | exact h trivial | contradiction | (simp_all [eqRes]; done)) | (conv => whnf))) | (refine CallX.mk _ _ (by first | exact cF) ?_; conv => whnf) | (refine CallG.mk _ _ (by first | exact cF) ?_; conv => whnf) | (refine Ask.mk (by first | omega | (unfold roomOK; simp [cutRows]; done) | (unfold roomOK; simp [cutRows]; omega) | (simp [cutRows]; done) | (simp [cutRows]; omega)) ?_; conv => whnf) | (refine AppG.mk (by first | omega | (unfold roomOK; simp [cutRows]; done) | (unfold roomOK; simp [cutRows]; omega) | (simp [cutRows]; done) | (simp [cutRows]; omega)) ?_; conv => whnf) | (refine SliceG.fr ?_; conv => whnf) | (refine idx_at _ (by with_reducible rfl) (by first | assumption | omega) ?_; conv => whnf) | ((with_reducible refine row_map (by first | assumption | omega) ?_); conv => whnf) | ((with_reducible refine row_set (by first | assumption | omega | (simp only [List.length_set]; omega) | (simp; omega)) ?_); conv => whnf) | fail)
      refine .ex _ (dMissing_ok d x r ha (by omega)) ?_
      rintro _ _ ⟨nm, hk, rfl, rfl⟩
      conv => whnf
      repeat' (first | ((first | refine Split.mk (fun h => ?_) (fun h => ?_) | refine CondG.mk (fun h => ?_) (fun h => ?_)) <;> (try simp only [decide_eq_true_eq, decide_eq_false_iff_not, Bool.not_eq_true', Bool.not_eq_false', beq_iff_eq, beq_eq_false_iff_ne, bne_iff_ne, bne_eq_false_iff_eq] at h) <;> (first | (exfalso; first | omega | exact h trivial | contradiction | (simp_all [eqRes]; done)) | (conv => whnf))) | (refine CallX.mk _ _ (by first | exact cC | exact cR) ?_; conv => whnf) | (refine CallG.mk _ _ (by first | exact cC | exact cR) ?_; conv => whnf) | (refine Ask.mk (by first | omega | (unfold roomOK; simp [cutRows]; done) | (unfold roomOK; simp [cutRows]; omega) | (simp [cutRows]; done) | (simp [cutRows]; omega)) ?_; conv => whnf) | (refine AppG.mk (by first | omega | (unfold roomOK; simp [cutRows]; done) | (unfold roomOK; simp [cutRows]; omega) | (simp [cutRows]; done) | (simp [cutRows]; omega)) ?_; conv => whnf) | (refine SliceG.fr ?_; conv => whnf) | (refine idx_at _ (by with_reducible rfl) (by first | assumption | omega) ?_; conv => whnf) | ((with_reducible refine row_map (by first | assumption | omega) ?_); conv => whnf) | ((with_reducible refine row_set (by first | assumption | omega | (simp only [List.length_set]; omega) | (simp; omega)) ?_); conv => whnf) | fail)
      refine .ex _ (rMissing_pc d x r ha (by omega)) ?_
      rintro _ _ ⟨nm2, hk2, rfl, rfl⟩
      obtain rfl := Keys.one hk2 hk (fun _ => rfl)
      conv => whnf
      repeat' (first | ((first | refine Split.mk (fun h => ?_) (fun h => ?_) | refine CondG.mk (fun h => ?_) (fun h => ?_)) <;> (try simp only [decide_eq_true_eq, decide_eq_false_iff_not, Bool.not_eq_true', Bool.not_eq_false', beq_iff_eq, beq_eq_false_iff_ne, bne_iff_ne, bne_eq_false_iff_eq] at h) <;> (first | (exfalso; first | omega | exact h trivial | contradiction | (simp_all [eqRes]; done)) | (conv => whnf))) | (refine Ask.mk (by first | omega | (unfold roomOK; simp [cutRows]; done) | (unfold roomOK; simp [cutRows]; omega) | (simp [cutRows]; done) | (simp [cutRows]; omega)) ?_; conv => whnf) | (refine AppG.mk (by first | omega | (unfold roomOK; simp [cutRows]; done) | (unfold roomOK; simp [cutRows]; omega) | (simp [cutRows]; done) | (simp [cutRows]; omega)) ?_; conv => whnf) | (refine SliceG.fr ?_; conv => whnf) | (refine idx_at _ (by with_reducible rfl) (by first | assumption | omega) ?_; conv => whnf) | ((with_reducible refine row_map (by first | assumption | omega) ?_); conv => whnf) | ((with_reducible refine row_set (by first | assumption | omega | (simp only [List.length_set]; omega) | (simp; omega)) ?_); conv => whnf) | fail)
      refine .ex _ (rPlanOf_pc d x r ha) ?_
      rintro _ _ ⟨p2, w2, ok2, rfl, rfl, hR2⟩
      obtain ⟨rfl, rfl, rfl⟩ := plan_two ha hR hR2
      have hnm := nm_len hk
      have hprs : (prsV (misG d x r.1) nm2).length ≤ 1000000 := by unfold prsV; rw [List.length_map]; omega
      have hpl : (toI p2).length ≤ 1000000 := by rw [toI_len]; exact planR_len hR (by omega)
      rcases ok2 with _ | _
      · have hz : p2 = [] ∧ w2 = 0 := by
          by_cases hE : planE d x r = 0
          · exact ⟨(hR.no hE rfl).1, (hR.no hE rfl).2.1⟩
          · exact ⟨(hR.bad hE).1, (hR.bad hE).2.1⟩
        obtain ⟨rfl, rfl⟩ := hz
        conv => whnf
        repeat' (first | ((first | refine Split.mk (fun h => ?_) (fun h => ?_) | refine CondG.mk (fun h => ?_) (fun h => ?_)) <;> (try simp only [decide_eq_true_eq, decide_eq_false_iff_not, Bool.not_eq_true', Bool.not_eq_false', beq_iff_eq, beq_eq_false_iff_ne, bne_iff_ne, bne_eq_false_iff_eq] at h) <;> (first | (exfalso; first | omega | exact h trivial | contradiction | (simp_all [eqRes]; done)) | (conv => whnf))) | (refine CallX.mk _ _ (by first | exact eqInN4 | exact eqInS4_pc (fstV d x r.1) (by omega) | exact eqStS4_pc (unK x (fstV d x r.1) x.length) (by omega) | exact eqPrS4_pc (prsV (misG d x r.1) nm2) hprs | exact stored_pc) ?_; conv => whnf) | (refine CallG.mk _ _ (by first | exact eqInN4 | exact eqInS4_pc (fstV d x r.1) (by omega) | exact eqStS4_pc (unK x (fstV d x r.1) x.length) (by omega) | exact eqPrS4_pc (prsV (misG d x r.1) nm2) hprs | exact stored_pc) ?_; conv => whnf) | (refine Ask.mk (by first | omega | (unfold roomOK; simp [cutRows]; done) | (unfold roomOK; simp [cutRows]; omega) | (simp [cutRows]; done) | (simp [cutRows]; omega)) ?_; conv => whnf) | (refine AppG.mk (by first | omega | (unfold roomOK; simp [cutRows]; done) | (unfold roomOK; simp [cutRows]; omega) | (simp [cutRows]; done) | (simp [cutRows]; omega)) ?_; conv => whnf) | (refine SliceG.fr ?_; conv => whnf) | (refine idx_at _ (by with_reducible rfl) (by first | assumption | omega) ?_; conv => whnf) | ((with_reducible refine row_map (by first | assumption | omega) ?_); conv => whnf) | ((with_reducible refine row_set (by first | assumption | omega | (simp only [List.length_set]; omega) | (simp; omega)) ?_); conv => whnf) | fail)
        all_goals first | exact .mk ⟨rfl, rfl⟩ | trace_state
      · conv => whnf
        repeat' (first | ((first | refine Split.mk (fun h => ?_) (fun h => ?_) | refine CondG.mk (fun h => ?_) (fun h => ?_)) <;> (try simp only [decide_eq_true_eq, decide_eq_false_iff_not, Bool.not_eq_true', Bool.not_eq_false', beq_iff_eq, beq_eq_false_iff_ne, bne_iff_ne, bne_eq_false_iff_eq] at h) <;> (first | (exfalso; first | omega | exact h trivial | contradiction | (simp_all [eqRes]; done)) | (conv => whnf))) | (refine CallX.mk _ _ (by first | exact eqInS4_pc (toI p2) hpl | exact eqInS4_pc (fstV d x r.1) (by omega) | exact eqStS4_pc (unK x (fstV d x r.1) x.length) (by omega) | exact eqPrS4_pc (prsV (misG d x r.1) nm2) hprs | exact stored_pc) ?_; conv => whnf) | (refine CallG.mk _ _ (by first | exact eqInS4_pc (toI p2) hpl | exact eqInS4_pc (fstV d x r.1) (by omega) | exact eqStS4_pc (unK x (fstV d x r.1) x.length) (by omega) | exact eqPrS4_pc (prsV (misG d x r.1) nm2) hprs | exact stored_pc) ?_; conv => whnf) | (refine Ask.mk (by first | omega | (unfold roomOK; simp [cutRows]; done) | (unfold roomOK; simp [cutRows]; omega) | (simp [cutRows]; done) | (simp [cutRows]; omega)) ?_; conv => whnf) | (refine AppG.mk (by first | omega | (unfold roomOK; simp [cutRows]; done) | (unfold roomOK; simp [cutRows]; omega) | (simp [cutRows]; done) | (simp [cutRows]; omega)) ?_; conv => whnf) | (refine SliceG.fr ?_; conv => whnf) | (refine idx_at _ (by with_reducible rfl) (by first | assumption | omega) ?_; conv => whnf) | ((with_reducible refine row_map (by first | assumption | omega) ?_); conv => whnf) | ((with_reducible refine row_set (by first | assumption | omega | (simp only [List.length_set]; omega) | (simp; omega)) ?_); conv => whnf) | fail)
        all_goals first | exact .mk ⟨rfl, rfl⟩ | trace_state
    · have e1 : fstF d x r = [] := by unfold fstF; rw [if_neg ha]
      have e2 : unF d x r = [] := by unfold unF; rw [if_neg ha]
      rw [e1, e2] at cF
      have cM := dMissing_bad d x r ha
      have hPE : planE d x r = allErr d x r := by unfold planE; rw [if_pos ha]
      refine .ex _ (dPlan_pc d x r) ?_
      rintro _ _ ⟨p, w, ok, rfl, rfl, hR⟩
      obtain ⟨rfl, rfl, rfl⟩ := hR.bad (by rw [hPE]; exact ha)
      rw [hPE]
      conv => whnf
      repeat' (first | ((first | refine Split.mk (fun h => ?_) (fun h => ?_) | refine CondG.mk (fun h => ?_) (fun h => ?_)) <;> (try simp only [decide_eq_true_eq, decide_eq_false_iff_not, Bool.not_eq_true', Bool.not_eq_false', beq_iff_eq, beq_eq_false_iff_ne, bne_iff_ne, bne_eq_false_iff_eq] at h) <;> (first | (exfalso; first | omega | exact h trivial | contradiction | (simp_all [eqRes]; done)) | (conv => whnf))) | (refine CallX.mk _ _ (by first | exact cF | exact cM | exact cC | exact eqInN4 | exact eqStN4 | exact eqPrN4 | exact stored_pc) ?_; conv => whnf) | (refine CallG.mk _ _ (by first | exact cF | exact cM | exact cC | exact eqInN4 | exact eqStN4 | exact eqPrN4 | exact stored_pc) ?_; conv => whnf) | (refine Ask.mk (by first | omega | (unfold roomOK; simp [cutRows]; done) | (unfold roomOK; simp [cutRows]; omega) | (simp [cutRows]; done) | (simp [cutRows]; omega)) ?_; conv => whnf) | (refine AppG.mk (by first | omega | (unfold roomOK; simp [cutRows]; done) | (unfold roomOK; simp [cutRows]; omega) | (simp [cutRows]; done) | (simp [cutRows]; omega)) ?_; conv => whnf) | (refine SliceG.fr ?_; conv => whnf) | (refine idx_at _ (by with_reducible rfl) (by first | assumption | omega) ?_; conv => whnf) | ((with_reducible refine row_map (by first | assumption | omega) ?_); conv => whnf) | ((with_reducible refine row_set (by first | assumption | omega | (simp only [List.length_set]; omega) | (simp; omega)) ?_); conv => whnf) | fail)
      all_goals first | exact .mk ⟨rfl, rfl⟩ | trace_state
  · have hxl : s.length ≤ 11 := by omega
    generalize s = x at *
    have cF := dFirst_pc d x r (by omega)
    have cC := lCut_pc d x r
    by_cases ha : allErr d x r = 0
    · have hfl := fstV_len ha
      have hul := unK_len x (fstV d x r.1) x.length
      have e1 : fstF d x r = fstV d x r.1 := by unfold fstF; rw [if_pos ha]
      have e2 : unF d x r = unK x (fstV d x r.1) x.length := by unfold unF; rw [if_pos ha]
      have cR := rFirst_pc d x r ha (by omega)
      rw [e1, e2, ha] at cF
      rw [ha] at cC
      refine .ex _ (dPlan_pc d x r) ?_
      rintro _ _ ⟨p, w, ok, rfl, rfl, hR⟩
      conv => whnf
      repeat' (first | ((first | refine Split.mk (fun h => ?_) (fun h => ?_) | refine CondG.mk (fun h => ?_) (fun h => ?_)) <;> (try simp only [decide_eq_true_eq, decide_eq_false_iff_not, Bool.not_eq_true', Bool.not_eq_false', beq_iff_eq, beq_eq_false_iff_ne, bne_iff_ne, bne_eq_false_iff_eq] at h) <;> (first | (exfalso; first | omega | exact h trivial | contradiction | (simp_all [eqRes]; done)) | (conv => whnf))) | (refine CallX.mk _ _ (by first | exact cF) ?_; conv => whnf) | (refine CallG.mk _ _ (by first | exact cF) ?_; conv => whnf) | (refine Ask.mk (by first | omega | (unfold roomOK; simp [cutRows]; done) | (unfold roomOK; simp [cutRows]; omega) | (simp [cutRows]; done) | (simp [cutRows]; omega)) ?_; conv => whnf) | (refine AppG.mk (by first | omega | (unfold roomOK; simp [cutRows]; done) | (unfold roomOK; simp [cutRows]; omega) | (simp [cutRows]; done) | (simp [cutRows]; omega)) ?_; conv => whnf) | (refine SliceG.fr ?_; conv => whnf) | (refine idx_at _ (by with_reducible rfl) (by first | assumption | omega) ?_; conv => whnf) | ((with_reducible refine row_map (by first | assumption | omega) ?_); conv => whnf) | ((with_reducible refine row_set (by first | assumption | omega | (simp only [List.length_set]; omega) | (simp; omega)) ?_); conv => whnf) | fail)
      refine .ex _ (dMissing_ok d x r ha (by omega)) ?_
      rintro _ _ ⟨nm, hk, rfl, rfl⟩
      conv => whnf
      repeat' (first | ((first | refine Split.mk (fun h => ?_) (fun h => ?_) | refine CondG.mk (fun h => ?_) (fun h => ?_)) <;> (try simp only [decide_eq_true_eq, decide_eq_false_iff_not, Bool.not_eq_true', Bool.not_eq_false', beq_iff_eq, beq_eq_false_iff_ne, bne_iff_ne, bne_eq_false_iff_eq] at h) <;> (first | (exfalso; first | omega | exact h trivial | contradiction | (simp_all [eqRes]; done)) | (conv => whnf))) | (refine CallX.mk _ _ (by first | exact cC | exact cR) ?_; conv => whnf) | (refine CallG.mk _ _ (by first | exact cC | exact cR) ?_; conv => whnf) | (refine Ask.mk (by first | omega | (unfold roomOK; simp [cutRows]; done) | (unfold roomOK; simp [cutRows]; omega) | (simp [cutRows]; done) | (simp [cutRows]; omega)) ?_; conv => whnf) | (refine AppG.mk (by first | omega | (unfold roomOK; simp [cutRows]; done) | (unfold roomOK; simp [cutRows]; omega) | (simp [cutRows]; done) | (simp [cutRows]; omega)) ?_; conv => whnf) | (refine SliceG.fr ?_; conv => whnf) | (refine idx_at _ (by with_reducible rfl) (by first | assumption | omega) ?_; conv => whnf) | ((with_reducible refine row_map (by first | assumption | omega) ?_); conv => whnf) | ((with_reducible refine row_set (by first | assumption | omega | (simp only [List.length_set]; omega) | (simp; omega)) ?_); conv => whnf) | fail)
      refine .ex _ (rMissing_pc d x r ha (by omega)) ?_
      rintro _ _ ⟨nm2, hk2, rfl, rfl⟩
      obtain rfl := Keys.one hk2 hk (fun _ => rfl)
      conv => whnf
      repeat' (first | ((first | refine Split.mk (fun h => ?_) (fun h => ?_) | refine CondG.mk (fun h => ?_) (fun h => ?_)) <;> (try simp only [decide_eq_true_eq, decide_eq_false_iff_not, Bool.not_eq_true', Bool.not_eq_false', beq_iff_eq, beq_eq_false_iff_ne, bne_iff_ne, bne_eq_false_iff_eq] at h) <;> (first | (exfalso; first | omega | exact h trivial | contradiction | (simp_all [eqRes]; done)) | (conv => whnf))) | (refine Ask.mk (by first | omega | (unfold roomOK; simp [cutRows]; done) | (unfold roomOK; simp [cutRows]; omega) | (simp [cutRows]; done) | (simp [cutRows]; omega)) ?_; conv => whnf) | (refine AppG.mk (by first | omega | (unfold roomOK; simp [cutRows]; done) | (unfold roomOK; simp [cutRows]; omega) | (simp [cutRows]; done) | (simp [cutRows]; omega)) ?_; conv => whnf) | (refine SliceG.fr ?_; conv => whnf) | (refine idx_at _ (by with_reducible rfl) (by first | assumption | omega) ?_; conv => whnf) | ((with_reducible refine row_map (by first | assumption | omega) ?_); conv => whnf) | ((with_reducible refine row_set (by first | assumption | omega | (simp only [List.length_set]; omega) | (simp; omega)) ?_); conv => whnf) | fail)
      refine .ex _ (rPlanOf_pc d x r ha) ?_
      rintro _ _ ⟨p2, w2, ok2, rfl, rfl, hR2⟩
      obtain ⟨rfl, rfl, rfl⟩ := plan_two ha hR hR2
      have hnm := nm_len hk
      have hprs : (prsV (misG d x r.1) nm2).length ≤ 1000000 := by unfold prsV; rw [List.length_map]; omega
      have hpl : (toI p2).length ≤ 1000000 := by rw [toI_len]; exact planR_len hR (by omega)
      rcases ok2 with _ | _
      · have hz : p2 = [] ∧ w2 = 0 := by
          by_cases hE : planE d x r = 0
          · exact ⟨(hR.no hE rfl).1, (hR.no hE rfl).2.1⟩
          · exact ⟨(hR.bad hE).1, (hR.bad hE).2.1⟩
        obtain ⟨rfl, rfl⟩ := hz
        conv => whnf
        repeat' (first | ((first | refine Split.mk (fun h => ?_) (fun h => ?_) | refine CondG.mk (fun h => ?_) (fun h => ?_)) <;> (try simp only [decide_eq_true_eq, decide_eq_false_iff_not, Bool.not_eq_true', Bool.not_eq_false', beq_iff_eq, beq_eq_false_iff_ne, bne_iff_ne, bne_eq_false_iff_eq] at h) <;> (first | (exfalso; first | omega | exact h trivial | contradiction | (simp_all [eqRes]; done)) | (conv => whnf))) | (refine CallX.mk _ _ (by first | exact eqInN4 | exact eqInS4_pc (fstV d x r.1) (by omega) | exact eqStS4_pc (unK x (fstV d x r.1) x.length) (by omega) | exact eqPrS4_pc (prsV (misG d x r.1) nm2) hprs | exact stored_pc) ?_; conv => whnf) | (refine CallG.mk _ _ (by first | exact eqInN4 | exact eqInS4_pc (fstV d x r.1) (by omega) | exact eqStS4_pc (unK x (fstV d x r.1) x.length) (by omega) | exact eqPrS4_pc (prsV (misG d x r.1) nm2) hprs | exact stored_pc) ?_; conv => whnf) | (refine Ask.mk (by first | omega | (unfold roomOK; simp [cutRows]; done) | (unfold roomOK; simp [cutRows]; omega) | (simp [cutRows]; done) | (simp [cutRows]; omega)) ?_; conv => whnf) | (refine AppG.mk (by first | omega | (unfold roomOK; simp [cutRows]; done) | (unfold roomOK; simp [cutRows]; omega) | (simp [cutRows]; done) | (simp [cutRows]; omega)) ?_; conv => whnf) | (refine SliceG.fr ?_; conv => whnf) | (refine idx_at _ (by with_reducible rfl) (by first | assumption | omega) ?_; conv => whnf) | ((with_reducible refine row_map (by first | assumption | omega) ?_); conv => whnf) | ((with_reducible refine row_set (by first | assumption | omega | (simp only [List.length_set]; omega) | (simp; omega)) ?_); conv => whnf) | fail)
        all_goals first | exact .mk ⟨rfl, rfl⟩ | trace_state
      · conv => whnf
        repeat' (first | ((first | refine Split.mk (fun h => ?_) (fun h => ?_) | refine CondG.mk (fun h => ?_) (fun h => ?_)) <;> (try simp only [decide_eq_true_eq, decide_eq_false_iff_not, Bool.not_eq_true', Bool.not_eq_false', beq_iff_eq, beq_eq_false_iff_ne, bne_iff_ne, bne_eq_false_iff_eq] at h) <;> (first | (exfalso; first | omega | exact h trivial | contradiction | (simp_all [eqRes]; done)) | (conv => whnf))) | (refine CallX.mk _ _ (by first | exact eqInS4_pc (toI p2) hpl | exact eqInS4_pc (fstV d x r.1) (by omega) | exact eqStS4_pc (unK x (fstV d x r.1) x.length) (by omega) | exact eqPrS4_pc (prsV (misG d x r.1) nm2) hprs | exact stored_pc) ?_; conv => whnf) | (refine CallG.mk _ _ (by first | exact eqInS4_pc (toI p2) hpl | exact eqInS4_pc (fstV d x r.1) (by omega) | exact eqStS4_pc (unK x (fstV d x r.1) x.length) (by omega) | exact eqPrS4_pc (prsV (misG d x r.1) nm2) hprs | exact stored_pc) ?_; conv => whnf) | (refine Ask.mk (by first | omega | (unfold roomOK; simp [cutRows]; done) | (unfold roomOK; simp [cutRows]; omega) | (simp [cutRows]; done) | (simp [cutRows]; omega)) ?_; conv => whnf) | (refine AppG.mk (by first | omega | (unfold roomOK; simp [cutRows]; done) | (unfold roomOK; simp [cutRows]; omega) | (simp [cutRows]; done) | (simp [cutRows]; omega)) ?_; conv => whnf) | (refine SliceG.fr ?_; conv => whnf) | (refine idx_at _ (by with_reducible rfl) (by first | assumption | omega) ?_; conv => whnf) | ((with_reducible refine row_map (by first | assumption | omega) ?_); conv => whnf) | ((with_reducible refine row_set (by first | assumption | omega | (simp only [List.length_set]; omega) | (simp; omega)) ?_); conv => whnf) | fail)
        all_goals first | exact .mk ⟨rfl, rfl⟩ | trace_state
    · have e1 : fstF d x r = [] := by unfold fstF; rw [if_neg ha]
      have e2 : unF d x r = [] := by unfold unF; rw [if_neg ha]
      rw [e1, e2] at cF
      have cM := dMissing_bad d x r ha
      have hPE : planE d x r = allErr d x r := by unfold planE; rw [if_pos ha]
      refine .ex _ (dPlan_pc d x r) ?_
      rintro _ _ ⟨p, w, ok, rfl, rfl, hR⟩
      obtain ⟨rfl, rfl, rfl⟩ := hR.bad (by rw [hPE]; exact ha)
      rw [hPE]
      conv => whnf
      repeat' (first | ((first | refine Split.mk (fun h => ?_) (fun h => ?_) | refine CondG.mk (fun h => ?_) (fun h => ?_)) <;> (try simp only [decide_eq_true_eq, decide_eq_false_iff_not, Bool.not_eq_true', Bool.not_eq_false', beq_iff_eq, beq_eq_false_iff_ne, bne_iff_ne, bne_eq_false_iff_eq] at h) <;> (first | (exfalso; first | omega | exact h trivial | contradiction | (simp_all [eqRes]; done)) | (conv => whnf))) | (refine CallX.mk _ _ (by first | exact cF | exact cM | exact cC | exact eqInN4 | exact eqStN4 | exact eqPrN4 | exact stored_pc) ?_; conv => whnf) | (refine CallG.mk _ _ (by first | exact cF | exact cM | exact cC | exact eqInN4 | exact eqStN4 | exact eqPrN4 | exact stored_pc) ?_; conv => whnf) | (refine Ask.mk (by first | omega | (unfold roomOK; simp [cutRows]; done) | (unfold roomOK; simp [cutRows]; omega) | (simp [cutRows]; done) | (simp [cutRows]; omega)) ?_; conv => whnf) | (refine AppG.mk (by first | omega | (unfold roomOK; simp [cutRows]; done) | (unfold roomOK; simp [cutRows]; omega) | (simp [cutRows]; done) | (simp [cutRows]; omega)) ?_; conv => whnf) | (refine SliceG.fr ?_; conv => whnf) | (refine idx_at _ (by with_reducible rfl) (by first | assumption | omega) ?_; conv => whnf) | ((with_reducible refine row_map (by first | assumption | omega) ?_); conv => whnf) | ((with_reducible refine row_set (by first | assumption | omega | (simp only [List.length_set]; omega) | (simp; omega)) ?_); conv => whnf) | fail)
      all_goals first | exact .mk ⟨rfl, rfl⟩ | trace_state
end Go.Proofs.YtobcplhaabaemaaGreatDoor
