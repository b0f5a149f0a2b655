/- Parts of the proof, in order. -/
import Derived.Test.YtgomipfameinoaaGreatDoorMActTexts6

/- Acts are made. -/
namespace Go.Proofs.YtgomipfameinoaaGreatDoor
set_option linter.unusedVariables false
set_option linter.unusedSimpArgs false
open Abs

def sgn (n : Int) : Int := if n < 0 then -1 else if 0 < n then 1 else 0
set_option maxRecDepth 100000 in
set_option maxHeartbeats 4000000 in
theorem sign_pc (n : Int) : PCp 168 [.c (.int .i64 n)] [] (.c (.int .i64 (sgn n))) [] := by
  refine fn_sound (mt := mts) tab_fits tab_mixed Tryz.func168 (by rfl) (by kernel_rfl) (by kernel_rfl) Tryz.results168 (Nat.le_of_ble_eq_true (by kernel_rfl)) ?_
  conv => whnf
  repeat' (first | ((first | refine Split.mk (fun h => ?_) (fun h => ?_) | refine CondG.mk (fun h => ?_) (fun h => ?_)) <;> (try simp only [decide_eq_true_eq, decide_eq_false_iff_not, Bool.not_eq_true', Bool.not_eq_false', beq_iff_eq, beq_eq_false_iff_ne] at h) <;> (first | (exfalso; first | omega | exact h trivial) | (conv => whnf))) | (refine Ask.mk (by first | omega | (unfold roomOK; simp [cutRows]; done) | (unfold roomOK; simp [cutRows]; omega)) ?_; conv => whnf) | (refine AppG.mk (by first | omega | (unfold roomOK; simp [cutRows]; done) | (unfold roomOK; simp [cutRows]; omega)) ?_; conv => whnf) | (refine SliceG.fr ?_; conv => whnf) | fail)
  all_goals exact fini (by simp_all [sgn] <;> omega)
/-- how the document orders acts -/
def ordC (a b : Ac) : Int :=
  if a.mo ≠ b.mo then sgn (IntKind.i64.wrap (a.mo - b.mo))
  else if a.drum ≠ b.drum then cmpS a.drum b.drum
  else if a.kd ≠ b.kd then sgn (IntKind.i64.wrap (a.kd - b.kd))
  else if a.ty ≠ b.ty then cmpS a.ty b.ty
  else if a.of ≠ b.of then cmpS a.of b.of
  else sgn (IntKind.i64.wrap (a.long - b.long))
theorem strEq {a b : ByteArray} : a.toList = b.toList ↔ a = b := ⟨toList_inj, fun h => by rw [h]⟩
set_option maxRecDepth 100000 in
set_option maxHeartbeats 4000000 in
theorem actOrder_pc (a b : Ac) : PCp 109 [.agg (encAc a), .agg (encAc b)] [] (.c (.int .i64 (ordC a b))) [] := by
  refine fn_sound (mt := mts) tab_fits tab_mixed Tryz.func109 (by rfl) (by kernel_rfl) (by kernel_rfl) Tryz.results109 (Nat.le_of_ble_eq_true (by kernel_rfl)) ?_
  conv => whnf
  repeat' (first | ((first | refine Split.mk (fun h => ?_) (fun h => ?_) | refine CondG.mk (fun h => ?_) (fun h => ?_)) <;> (try simp only [decide_eq_true_eq, decide_eq_false_iff_not, Bool.not_eq_true', Bool.not_eq_false', beq_iff_eq, beq_eq_false_iff_ne] at h) <;> (first | (exfalso; first | omega | exact h trivial) | (conv => whnf))) | (refine CallX.mk _ _ (by first | exact sign_pc _ | exact sCompare_pc _ _) ?_; conv => whnf) | (refine CallG.mk _ _ (by first | exact sign_pc _ | exact sCompare_pc _ _) ?_; conv => whnf) | (refine Ask.mk (by first | omega | (unfold roomOK; simp [cutRows]; done) | (unfold roomOK; simp [cutRows]; omega)) ?_; conv => whnf) | (refine AppG.mk (by first | omega | (unfold roomOK; simp [cutRows]; done) | (unfold roomOK; simp [cutRows]; omega)) ?_; conv => whnf) | (refine SliceG.fr ?_; conv => whnf) | fail)
  all_goals refine fini ?_
  all_goals unfold ordC
  all_goals simp_all [strEq]
def oddV (L : List Int) (p lo hi : Int) : Int := if nextV L p 12 == 0 then pickV L (p + 1) [lo - 1, hi + 1, lo, hi, -1099511627776, 1099511627776] else rangeV L (p + 1) lo hi
set_option maxRecDepth 100000 in
set_option maxHeartbeats 4000000 in
theorem odd_ok {L : List Int} {p : Int} (h : StOk L p) (h2 : StOk L (p + 1)) (lo hi : Int) (hlo : small lo) (hhi : small hi) (hlh : lo ≤ hi) : PCp 107 [.c (.ptr 0 0), .c (.int .i64 lo), .c (.int .i64 hi)] [stO L p] (.c (.int .i64 (oddV L p lo hi))) [stO L (p + 1 + 1)] := by
  have w1 : IntKind.i64.wrap (lo - 1) = lo - 1 := wrap_in (by unfold small at *; omega) (by unfold small at *; omega)
  have w2 : IntKind.i64.wrap (hi + 1) = hi + 1 := wrap_in (by unfold small at *; omega) (by unfold small at *; omega)
  refine fn_sound (mt := mts) tab_fits tab_mixed Tryz.func107 (by rfl) (by kernel_rfl) (by kernel_rfl) Tryz.results107 (Nat.le_of_ble_eq_true (by kernel_rfl)) ?_
  conv => whnf
  repeat' (first | ((first | refine Split.mk (fun h => ?_) (fun h => ?_) | refine CondG.mk (fun h => ?_) (fun h => ?_)) <;> (try simp only [decide_eq_true_eq, decide_eq_false_iff_not, Bool.not_eq_true', Bool.not_eq_false', beq_iff_eq, beq_eq_false_iff_ne] at h) <;> (first | (exfalso; first | omega | exact h trivial) | (conv => whnf))) | (refine CallX.mk _ _ (by first | exact flip_ok h 12 (by omega) | exact range_ok h2 lo hi hlh hlo hhi | exact (by rw [w1, w2]; exact pick_ok h2 [lo - 1, hi + 1, lo, hi, -1099511627776, 1099511627776] (by simp) (by simp))) ?_; conv => whnf) | (refine CallG.mk _ _ (by first | exact flip_ok h 12 (by omega) | exact range_ok h2 lo hi hlh hlo hhi | exact (by rw [w1, w2]; exact pick_ok h2 [lo - 1, hi + 1, lo, hi, -1099511627776, 1099511627776] (by simp) (by simp))) ?_; conv => whnf) | (refine Ask.mk (by first | omega | (unfold roomOK; simp [cutRows]; done) | (unfold roomOK; simp [cutRows]; omega)) ?_; conv => whnf) | (refine AppG.mk (by first | omega | (unfold roomOK; simp [cutRows]; done) | (unfold roomOK; simp [cutRows]; omega)) ?_; conv => whnf) | (refine SliceG.fr ?_; conv => whnf) | fail)
  · exact fini' (by rw [oddV, if_pos (by simpa using h)]) rfl
  · exact fini' (by rw [oddV, if_neg (by simpa using h)]) rfl
def bDa : ByteArray := ⟨#[100, 97]⟩
def bDb : ByteArray := ⟨#[100, 98]⟩
def names6 : List ByteArray := [bDa, bDb, ⟨#[100, 99]⟩, ⟨#[100, 100]⟩, ⟨#[]⟩, ⟨#[65]⟩]
theorem names_a (L : List Int) (p : Int) : someV L p [bDa, bDa, bDb, ⟨#[100, 99]⟩, ⟨#[100, 100]⟩] ∈ names6 := by
  have := someV_in L p [bDa, bDa, bDb, ⟨#[100, 99]⟩, ⟨#[100, 100]⟩] (by decide)
  generalize someV L p [bDa, bDa, bDb, ⟨#[100, 99]⟩, ⟨#[100, 100]⟩] = d at *
  simp only [List.mem_cons, List.not_mem_nil, or_false] at this
  unfold names6
  simp only [List.mem_cons, List.not_mem_nil, or_false]
  rcases this with h | h | h | h | h <;> simp [h]
theorem names_b (L : List Int) (p : Int) {e : ByteArray} (he : e ∈ names6) : someV L p [⟨#[]⟩, ⟨#[65]⟩, e] ∈ names6 := by
  have := someV_in L p [⟨#[]⟩, ⟨#[65]⟩, e] (by simp)
  generalize someV L p [⟨#[]⟩, ⟨#[65]⟩, e] = d at *
  simp only [List.mem_cons, List.not_mem_nil, or_false] at this
  rcases this with h | h | h
  · rw [h]; unfold names6; simp
  · rw [h]; unfold names6; simp
  · rw [h]; exact he
theorem names_push {l : List Ac} (h : ∀ x ∈ l, x.drum ∈ names6) {y : Ac} (hy : y.drum ∈ names6) : ∀ x ∈ l ++ [y], x.drum ∈ names6 := by
  intro x hx
  rcases List.mem_append.1 hx with h1 | h1
  · exact h x h1
  · simp at h1; subst h1; exact hy
set_option maxRecDepth 100000 in
set_option maxHeartbeats 4000000 in
theorem acts_pc {L : List Int} {p : Int} (hst : StOk L p) (hp : p ≤ 800000000) (n : Nat) (hn : n ≤ 14) :
    PCq 38 [.c (.ptr 0 0), .c (.int .i64 n)] [stO L p] fun r os => ∃ (l : List Ac) (p' : Int), r = .c (.lst 6 (l.map encAc)) ∧ os = [stO L p'] ∧ l.length ≤ n ∧ p ≤ p' ∧ p' ≤ p + 14 * n ∧ ∀ x ∈ l, x.drum ∈ names6 := by
  have hS : ∀ x : Int, p ≤ x → x ≤ p + 14 * 14 → StOk L x := fun x h3 h4 => ⟨hst.1, by have := hst.2.1; omega, by omega⟩
  refine fn_soundX (mt := mts) tab_fits tab_mixed Tryz.func38 (by rfl) (by kernel_rfl) (by kernel_rfl) Tryz.results38 (Nat.le_of_ble_eq_true (by kernel_rfl)) ?_
  conv => whnf
  refine loop_count3 (n) [.sl 5 79 6] [0, 5, 6, 9, 10] (fun k (at0 : Int) (q : Int) (l : List Ac) => ⟨[(0, .c (.ptr 0 0)), (5, .c (.row 1)), (6, .c (.int .i64 at0)), (9, .c (.int .i64 n)), (10, .c (.int .i64 k))], [(0, stO L q), (1, .row 79 6 (l.map encAc))], 2⟩) (fun k (at0 : Int) (q : Int) (l : List Ac) => l.length = k ∧ p ≤ q ∧ q ≤ p + 14 * k ∧ ∀ x ∈ l, x.drum ∈ names6) (0) (p) ([]) ?_ ?_ ?_
  · conv => whnf
    exact ⟨rfl, rfl, by omega, by omega, by intro x hx; cases hx⟩
  · intro k at0 q l hk ⟨h1, h2, h3, h4⟩
    have hlm : (l.map encAc).length = k := by rw [List.length_map, h1]
    have hQ : ∀ x : Int, q ≤ x → x ≤ q + 14 → StOk L x := fun x h3 h4 => hS x (by omega) (by omega)
    conv => whnf
    repeat' (first | ((first | refine Split.mk (fun h => ?_) (fun h => ?_) | refine CondG.mk (fun h => ?_) (fun h => ?_)) <;> (try simp only [decide_eq_true_eq, decide_eq_false_iff_not, Bool.not_eq_true', Bool.not_eq_false', beq_iff_eq, beq_eq_false_iff_ne] at h) <;> (first | (exfalso; first | omega | exact h trivial) | (conv => whnf))) | (refine CallX.mk _ _ (by first | exact pick_ok (hQ _ (by omega) (by omega)) [0, 1, 1, 5] (by decide) (by decide) | exact pick_ok (hQ _ (by omega) (by omega)) [2, 2, 2, 3, 4, 1] (by decide) (by decide) | exact some_ok (hQ _ (by omega) (by omega)) [bDa, bDa, bDb, ⟨#[100, 99]⟩, ⟨#[100, 100]⟩] (by decide) (by decide) | exact some_ok (hQ _ (by omega) (by omega)) [⟨#[116]⟩, ⟨#[117]⟩] (by decide) (by decide) | exact pick_ok (hQ _ (by omega) (by omega)) [60, 100] (by decide) (by decide) | exact pick_ok (hQ _ (by omega) (by omega)) [10, 20, 40, 60] (by decide) (by decide) | exact some_ok (hQ _ (by omega) (by omega)) [bDa, bDb, ⟨#[122, 122]⟩] (by decide) (by decide) | exact pick_ok (hQ _ (by omega) (by omega)) [5, 10] (by decide) (by decide) | exact flip_ok (hQ _ (by omega) (by omega)) 80 (by omega) | exact next_ok (hQ _ (by omega) (by omega)) 3 (by omega) | exact odd_ok (hQ _ (by omega) (by omega)) (hQ _ (by omega) (by omega)) 0 50 (small_lit (by decide)) (small_lit (by decide)) (by decide) | exact odd_ok (hQ _ (by omega) (by omega)) (hQ _ (by omega) (by omega)) 1 4 (small_lit (by decide)) (small_lit (by decide)) (by decide) | exact odd_ok (hQ _ (by omega) (by omega)) (hQ _ (by omega) (by omega)) 1 50 (small_lit (by decide)) (small_lit (by decide)) (by decide) | exact some_ok (hQ _ (by omega) (by omega)) [⟨#[]⟩, ⟨#[65]⟩, _] (by simp) (by simp) | exact some_ok (hQ _ (by omega) (by omega)) [⟨#[]⟩, ⟨#[116]⟩] (by decide) (by decide) | exact some_ok (hQ _ (by omega) (by omega)) [⟨#[]⟩, bDa] (by decide) (by decide)) ?_; conv => whnf) | (refine CallG.mk _ _ (by first | exact pick_ok (hQ _ (by omega) (by omega)) [0, 1, 1, 5] (by decide) (by decide) | exact pick_ok (hQ _ (by omega) (by omega)) [2, 2, 2, 3, 4, 1] (by decide) (by decide) | exact some_ok (hQ _ (by omega) (by omega)) [bDa, bDa, bDb, ⟨#[100, 99]⟩, ⟨#[100, 100]⟩] (by decide) (by decide) | exact some_ok (hQ _ (by omega) (by omega)) [⟨#[116]⟩, ⟨#[117]⟩] (by decide) (by decide) | exact pick_ok (hQ _ (by omega) (by omega)) [60, 100] (by decide) (by decide) | exact pick_ok (hQ _ (by omega) (by omega)) [10, 20, 40, 60] (by decide) (by decide) | exact some_ok (hQ _ (by omega) (by omega)) [bDa, bDb, ⟨#[122, 122]⟩] (by decide) (by decide) | exact pick_ok (hQ _ (by omega) (by omega)) [5, 10] (by decide) (by decide) | exact flip_ok (hQ _ (by omega) (by omega)) 80 (by omega) | exact next_ok (hQ _ (by omega) (by omega)) 3 (by omega) | exact odd_ok (hQ _ (by omega) (by omega)) (hQ _ (by omega) (by omega)) 0 50 (small_lit (by decide)) (small_lit (by decide)) (by decide) | exact odd_ok (hQ _ (by omega) (by omega)) (hQ _ (by omega) (by omega)) 1 4 (small_lit (by decide)) (small_lit (by decide)) (by decide) | exact odd_ok (hQ _ (by omega) (by omega)) (hQ _ (by omega) (by omega)) 1 50 (small_lit (by decide)) (small_lit (by decide)) (by decide) | exact some_ok (hQ _ (by omega) (by omega)) [⟨#[]⟩, ⟨#[65]⟩, _] (by simp) (by simp) | exact some_ok (hQ _ (by omega) (by omega)) [⟨#[]⟩, ⟨#[116]⟩] (by decide) (by decide) | exact some_ok (hQ _ (by omega) (by omega)) [⟨#[]⟩, bDa] (by decide) (by decide)) ?_; conv => whnf) | (refine Ask.mk (by first | omega | (unfold roomOK; simp [cutRows]; done) | (unfold roomOK; simp [cutRows]; omega)) ?_; conv => whnf) | (refine AppG.mk (by first | omega | (unfold roomOK; simp [cutRows]; done) | (unfold roomOK; simp [cutRows]; omega)) ?_; conv => whnf) | (refine SliceG.fr ?_; conv => whnf) | fail)
    all_goals exact count_next (_, _, l ++ [(⟨_, _, _, _, _, _⟩ : Ac)]) hk (by rw [wrap_succ hk (by omega)]; simp only [List.map_append]; rfl) ⟨by simp [h1], by simp only; omega, by simp only; omega, names_push h4 (by first | exact names_a L _ | exact names_b L _ (names_a L _))⟩
  · intro at0 q l ⟨h1, h2, h3, h4⟩
    have h5 : ∀ x ∈ cpt (insSort ordC l), x.drum ∈ names6 := fun x hx => h4 x ((insSort_perm ordC l).mem_iff.1 (mem_cpt hx))
    have hlm : (l.map encAc).length = n := by rw [List.length_map, h1]
    conv => whnf
    repeat' (first | ((first | refine Split.mk (fun h => ?_) (fun h => ?_) | refine CondG.mk (fun h => ?_) (fun h => ?_)) <;> (try simp only [decide_eq_true_eq, decide_eq_false_iff_not, Bool.not_eq_true', Bool.not_eq_false', beq_iff_eq, beq_eq_false_iff_ne] at h) <;> (first | (exfalso; first | omega | exact h trivial) | (conv => whnf))) | (refine CallX.mk _ _ (by first | exact stAct_pc _ ordC actOrder_pc l (by omega)) ?_; conv => whnf) | (refine CallG.mk _ _ (by first | exact stAct_pc _ ordC actOrder_pc l (by omega)) ?_; conv => whnf) | (refine Ask.mk (by first | omega | (unfold roomOK; simp [cutRows]; done) | (unfold roomOK; simp [cutRows]; omega)) ?_; conv => whnf) | (refine AppG.mk (by first | omega | (unfold roomOK; simp [cutRows]; done) | (unfold roomOK; simp [cutRows]; omega)) ?_; conv => whnf) | (refine SliceG.fr ?_; conv => whnf) | fail)
    have hle := cpt_len (insSort ordC l)
    rw [insSort_len] at hle
    obtain ⟨ob, ⟨rows, rfl⟩ | rfl, hc⟩ := cptAc_pc (insSort ordC l) (by rw [insSort_len]; omega)
    · refine .mk _ _ hc ?_
      conv => whnf
      exact .mk _ _ ⟨_, _, rfl, rfl, by omega, h2, by omega, h5⟩ (.mk ⟨rfl, rfl⟩)
    · refine .mk _ _ hc ?_
      conv => whnf
      exact .mk _ _ ⟨_, _, rfl, rfl, by omega, h2, by omega, h5⟩ (.mk ⟨rfl, rfl⟩)
end Go.Proofs.YtgomipfameinoaaGreatDoor

/- A store, as the program follows it. -/
namespace Go.Proofs.YtgomipfameinoaaGreatDoor
set_option linter.unusedVariables false
set_option linter.unusedSimpArgs false
open Abs

abbrev bE : ByteArray := ⟨#[]⟩
structure Sto where
  d : SM ByteArray (ByteArray × Int)
  k : SM ByteArray ByteArray
structure Sto.ok (s : Sto) : Prop where
  d : s.d.ok
  k : s.k.ok
end Go.Proofs.YtgomipfameinoaaGreatDoor

/- What was used, as the program counts it. -/
namespace Go.Proofs.YtgomipfameinoaaGreatDoor
set_option linter.unusedVariables false
set_option linter.unusedSimpArgs false
open Abs

end Go.Proofs.YtgomipfameinoaaGreatDoor

/- The least stock, as the program finds it. -/
namespace Go.Proofs.YtgomipfameinoaaGreatDoor
set_option linter.unusedVariables false
set_option linter.unusedSimpArgs false
open Abs

end Go.Proofs.YtgomipfameinoaaGreatDoor

/- The least stock, as the program finds it: all acts. -/
namespace Go.Proofs.YtgomipfameinoaaGreatDoor
set_option linter.unusedVariables false
set_option linter.unusedSimpArgs false
open Abs

abbrev acD : Ac := ⟨0, 0, bE, bE, bE, 0⟩
end Go.Proofs.YtgomipfameinoaaGreatDoor

/- The document's store. -/
namespace Go.Proofs.YtgomipfameinoaaGreatDoor
set_option linter.unusedVariables false
set_option linter.unusedSimpArgs false
open Abs

structure Rto where
  l : SM ByteArray Int
  k : SM ByteArray ByteArray
structure Rto.ok (s : Rto) : Prop where
  l : s.l.ok
  k : s.k.ok
/-- the store behind an act, what was cut, the error -/
def doR (s : Rto) (x : Ac) : Rto × Int × Int :=
  if x.kd = 1 then
    if (s.k.get x.drum).isSome then (s, 0, 6) else (⟨s.l.put x.drum x.long, s.k.put x.drum x.ty⟩, 0, 0)
  else if x.kd = 2 then
    if (s.l.get x.drum).getD 0 = 0 then (s, 0, 8)
    else if (s.l.get x.drum).getD 0 < x.long then (s, 0, 12)
    else (⟨s.l.put x.drum (IntKind.i64.wrap ((s.l.get x.drum).getD 0 - x.long)), s.k⟩, x.long, 0)
  else if x.kd = 3 then
    if (s.k.get x.drum).isSome then (s, 0, 6)
    else if (s.k.get x.of).isSome then (⟨s.l.put x.drum x.long, s.k.put x.drum ((s.k.get x.of).getD bE)⟩, IntKind.i64.wrap (0 - x.long), 0)
    else (s, 0, 8)
  else if (s.l.get x.drum).getD 0 = 0 then (s, 0, 8)
  else (⟨s.l.put x.drum 0, s.k⟩, 0, 0)
end Go.Proofs.YtgomipfameinoaaGreatDoor

/- What was used, by the document. -/
namespace Go.Proofs.YtgomipfameinoaaGreatDoor
set_option linter.unusedVariables false
set_option linter.unusedSimpArgs false
open Abs

def rtoNil : Rto := ⟨SM.nil, SM.nil⟩
def rtoAt (l : List Ac) : Nat → Rto
  | 0 => rtoNil
  | k + 1 => (doR (rtoAt l k) (l.getD k acD)).1
end Go.Proofs.YtgomipfameinoaaGreatDoor

/- Stock at a moment, by the document. -/
namespace Go.Proofs.YtgomipfameinoaaGreatDoor
set_option linter.unusedVariables false
set_option linter.unusedSimpArgs false
open Abs

def cntAt (l : List Ac) (t : Int) : Nat := (l.takeWhile fun x => decide (x.mo ≤ t)).length
end Go.Proofs.YtgomipfameinoaaGreatDoor

/- Stock at a moment, by the document: the list. -/
namespace Go.Proofs.YtgomipfameinoaaGreatDoor
set_option linter.unusedVariables false
set_option linter.unusedSimpArgs false
open Abs

abbrev LE := Nat × ByteArray × Int
def stE (s : Rto) (e : LE) : Pc := ⟨e.2.1, (s.k.get e.2.1).getD bE, e.2.2⟩
def stL (s : Rto) (es : List LE) : List Pc := (es.filter fun e => decide (0 < e.2.2)).map (stE s)
/-- metres of a type -/
def sumP (kind : ByteArray) : List Pc → Int
  | [] => 0
  | e :: r => (if e.kind = kind then e.long else 0) + sumP kind r
def ofR (l : List Ac) (kind : ByteArray) (t : Int) : Int := sumP kind (stL (rtoAt l (cntAt l t)) (rtoAt l (cntAt l t)).l.es)
end Go.Proofs.YtgomipfameinoaaGreatDoor

/- Errors of acts and windows, by the document. -/
namespace Go.Proofs.YtgomipfameinoaaGreatDoor
set_option linter.unusedVariables false
set_option linter.unusedSimpArgs false
open Abs
set_option maxRecDepth 100000 in
set_option maxHeartbeats 4000000 in
theorem rMoment_pc (n : Int) : PCp 173 [.c (.int .i64 n)] [] (.c (.bool (momB n))) [] := by
  refine fn_sound (mt := mts) tab_fits tab_mixed Tryz.func173 (by rfl) (by kernel_rfl) (by kernel_rfl) Tryz.results173 (Nat.le_of_ble_eq_true (by kernel_rfl)) ?_
  conv => whnf
  repeat' (first | ((first | refine Split.mk (fun h => ?_) (fun h => ?_) | refine CondG.mk (fun h => ?_) (fun h => ?_)) <;> (try simp only [decide_eq_true_eq, decide_eq_false_iff_not, Bool.not_eq_true', Bool.not_eq_false', beq_iff_eq, beq_eq_false_iff_ne] at h) <;> (first | (exfalso; first | omega | exact h trivial) | (conv => whnf))) | (refine CallX.mk _ _ (by first | exact rIn_pc _ _ _) ?_; conv => whnf) | (refine CallG.mk _ _ (by first | exact rIn_pc _ _ _) ?_; conv => whnf) | (refine Ask.mk (by first | omega | (unfold roomOK; simp [cutRows]; done) | (unfold roomOK; simp [cutRows]; omega)) ?_; conv => whnf) | (refine AppG.mk (by first | omega | (unfold roomOK; simp [cutRows]; done) | (unfold roomOK; simp [cutRows]; omega)) ?_; conv => whnf) | (refine SliceG.fr ?_; conv => whnf) | fail)
  exact finb (by unfold momB; rfl)
set_option maxRecDepth 100000 in
set_option maxHeartbeats 4000000 in
theorem rActFault_pc (x : Ac) : PCp 114 [.agg (encAc x)] [] (.c (.int .i64 (actErr x))) [] := by
  refine fn_sound (mt := mts) tab_fits tab_mixed Tryz.func114 (by rfl) (by kernel_rfl) (by kernel_rfl) Tryz.results114 (Nat.le_of_ble_eq_true (by kernel_rfl)) ?_
  conv => whnf
  repeat' (first | ((first | refine Split.mk (fun h => ?_) (fun h => ?_) | refine CondG.mk (fun h => ?_) (fun h => ?_)) <;> (try simp only [decide_eq_true_eq, decide_eq_false_iff_not, Bool.not_eq_true', Bool.not_eq_false', beq_iff_eq, beq_eq_false_iff_ne, bne_iff_ne, bne_eq_false_iff_eq] at h) <;> (first | (exfalso; first | omega | exact h trivial) | (conv => whnf))) | (refine CallX.mk _ _ (by first | exact rKey_pc _ | exact rMoment_pc _ | exact rIn_pc _ _ _) ?_; conv => whnf) | (refine CallG.mk _ _ (by first | exact rKey_pc _ | exact rMoment_pc _ | exact rIn_pc _ _ _) ?_; conv => whnf) | (refine Ask.mk (by first | omega | (unfold roomOK; simp [cutRows]; done) | (unfold roomOK; simp [cutRows]; omega) | (simp [cutRows]; done) | (simp [cutRows]; omega)) ?_; conv => whnf) | (refine AppG.mk (by first | omega | (unfold roomOK; simp [cutRows]; done) | (unfold roomOK; simp [cutRows]; omega) | (simp [cutRows]; done) | (simp [cutRows]; omega)) ?_; conv => whnf) | (refine SliceG.fr ?_; conv => whnf) | (refine idx_at _ (by with_reducible rfl) (by first | assumption | omega) ?_; conv => whnf) | ((with_reducible refine row_map (by first | assumption | omega) ?_); conv => whnf) | ((with_reducible refine row_set (by first | assumption | omega | (simp only [List.length_set]; omega) | (simp; omega)) ?_); conv => whnf) | fail)
  all_goals refine fini ?_
  all_goals unfold actErr
  all_goals generalize (⟨#[]⟩ : ByteArray).toList = nl at *
  all_goals (try simp only [eqRes] at *)
  all_goals first | (simp_all; done) | (simp_all; omega) | ((repeat' split) <;> first | rfl | (exfalso; first | omega | (simp_all; done) | (simp_all; omega)))
theorem cmpB_swap : ∀ a b : List UInt8, Lib.compareBytes a b = - Lib.compareBytes b a
  | [], [] => rfl
  | [], _ :: _ => rfl
  | _ :: _, [] => rfl
  | x :: xs, y :: ys => by
    have ih := cmpB_swap xs ys
    unfold Lib.compareBytes
    repeat' split
    all_goals first
      | rfl
      | exact ih
      | (exfalso; simp_all [UInt8.lt_iff_toNat_lt]; omega)
      | (exfalso; simp_all)
theorem cmpB_zero : ∀ a b : List UInt8, Lib.compareBytes a b = 0 ↔ a = b
  | [], [] => by simp [Lib.compareBytes]
  | [], _ :: _ => by simp [Lib.compareBytes]
  | _ :: _, [] => by simp [Lib.compareBytes]
  | x :: xs, y :: ys => by
    have ih := cmpB_zero xs ys
    unfold Lib.compareBytes
    split
    · rename_i h
      constructor
      · intro e; cases e
      · intro e; cases e; exact absurd h (UInt8.lt_irrefl x)
    · split
      · rename_i h
        constructor
        · intro e; cases e
        · intro e; cases e; exact absurd h (UInt8.lt_irrefl x)
      · rename_i h1 h2
        have hxy : x = y := by
          rw [UInt8.lt_iff_toNat_lt] at h1 h2
          exact UInt8.toNat_inj.1 (by omega)
        rw [ih, hxy]; simp
theorem cmpS_swap (a b : ByteArray) : cmpS a b = - cmpS b a := cmpB_swap ..
theorem cmpS_zero {a b : ByteArray} : cmpS a b = 0 ↔ a = b := by
  unfold cmpS
  rw [cmpB_zero]
  exact ⟨fun h => ByteArray.ext (Array.toList_inj.1 h), fun h => by rw [h]⟩
theorem cmpI_zero {a b : Int} : cmpI a b = 0 ↔ a = b := by unfold cmpI; repeat' split <;> omega
theorem sgn_sub {a b : Int} (ha : -1000000000000 ≤ a ∧ a ≤ 1000000000000) (hb : -1000000000000 ≤ b ∧ b ≤ 1000000000000) : sgn (IntKind.i64.wrap (a - b)) = cmpI a b := by
  rw [wrap_in (by omega) (by omega)]
  unfold sgn cmpI
  repeat' split
  all_goals omega
theorem actErr_in {x : Ac} (h : actErr x = 0) : 0 ≤ x.mo ∧ x.mo ≤ 345686399999 ∧ 1 ≤ x.kd ∧ x.kd ≤ 4 ∧ 0 ≤ x.long ∧ x.long ≤ 200000 ∧ (x.kd ≠ 4 → 1 ≤ x.long) ∧ keyB x.drum = true ∧ (x.kd = 1 → keyB x.ty = true) ∧ (x.kd = 3 → keyB x.of = true) := by
  unfold actErr at h
  split at h
  · cases h
  split at h
  · cases h
  split at h
  · cases h
  split at h
  · cases h
  split at h
  · cases h
  rename_i h1 h2 h3 h4 h5
  have h1 : momB x.mo = true := by simpa using h1
  have h1 := of_decide_eq_true h1
  simp only [Bool.or_eq_true, not_or, Bool.not_eq_true', Bool.not_eq_false, Bool.and_eq_true, beq_iff_eq, not_and] at h3
  refine ⟨h1.1, h1.2, by omega, by omega, by omega, by omega, by omega, h3.1.1, ?_, ?_⟩
  · intro e; simpa using h3.1.2 e
  · intro e; simpa using h3.2 e
/-- both orders are one -/
theorem ord_time {x y : Ac} (hx : actErr x = 0) (hy : actErr y = 0) : ordC y x = timeC y x ∧ timeC y x = - timeC x y := by
  have a := actErr_in hx
  have b := actErr_in hy
  have e1 := sgn_sub (a := y.mo) (b := x.mo) (by omega) (by omega)
  have e2 := sgn_sub (a := y.kd) (b := x.kd) (by omega) (by omega)
  have e3 := sgn_sub (a := y.long) (b := x.long) (by omega) (by omega)
  have w : ∀ p q : Int, cmpI p q = - cmpI q p := by intro p q; unfold cmpI; repeat' split <;> omega
  constructor
  · unfold ordC timeC
    rw [e1, e2, e3]
    simp only [firstErr, cmpI_zero, cmpS_zero]
    have hl : (if y.long = x.long then (0 : Int) else cmpI y.long x.long) = cmpI y.long x.long := by
      split
      · rename_i e; exact (cmpI_zero.2 e).symm
      · rfl
    rw [hl]
    by_cases h1 : y.mo = x.mo
    · rw [if_neg (fun h => h h1), if_pos h1]
      by_cases h2 : y.drum = x.drum
      · rw [if_neg (fun h => h h2), if_pos h2]
        by_cases h3 : y.kd = x.kd
        · rw [if_neg (fun h => h h3), if_pos h3]
          by_cases h4 : y.ty = x.ty
          · rw [if_neg (fun h => h h4), if_pos h4]
            by_cases h5 : y.of = x.of
            · rw [if_neg (fun h => h h5), if_pos h5]
            · rw [if_pos h5, if_neg h5]
          · rw [if_pos h4, if_neg h4]
        · rw [if_pos h3, if_neg h3]
      · rw [if_pos h2, if_neg h2]
    · rw [if_pos h1, if_neg h1]
  · have key : ∀ l : List Int, firstErr (l.map fun z => -z) = - firstErr l := by
      intro l
      induction l with
      | nil => rfl
      | cons a r ih =>
        simp only [List.map_cons, firstErr, ih, Int.neg_eq_zero]
        split <;> rfl
    unfold timeC
    rw [w y.mo x.mo, cmpS_swap y.drum x.drum, w y.kd x.kd, cmpS_swap y.ty x.ty, cmpS_swap y.of x.of, w y.long x.long]
    exact key [cmpI x.mo y.mo, cmpS x.drum y.drum, cmpI x.kd y.kd, cmpS x.ty y.ty, cmpS x.of y.of, cmpI x.long y.long]
set_option maxRecDepth 100000 in
set_option maxHeartbeats 4000000 in
theorem rActs_pc (l : List Ac) : PCp 42 [.c (.lst 6 (l.map encAc))] [] (.c (.int .i64 (actsFault l))) [] := by
  have hlm : (l.map encAc).length = l.length := List.length_map ..
  refine fn_sound (mt := mts) tab_fits tab_mixed Tryz.func42 (by rfl) (by kernel_rfl) (by kernel_rfl) Tryz.results42 (Nat.le_of_ble_eq_true (by kernel_rfl)) ?_
  conv => whnf
  repeat' (first | ((first | refine Split.mk (fun h => ?_) (fun h => ?_) | refine CondG.mk (fun h => ?_) (fun h => ?_)) <;> (try simp only [decide_eq_true_eq, decide_eq_false_iff_not, Bool.not_eq_true', Bool.not_eq_false', beq_iff_eq, beq_eq_false_iff_ne, bne_iff_ne, bne_eq_false_iff_eq] at h) <;> (first | (exfalso; first | omega | exact h trivial) | (conv => whnf))) | (refine Ask.mk (by first | omega | (unfold roomOK; simp [cutRows]; done) | (unfold roomOK; simp [cutRows]; omega) | (simp [cutRows]; done) | (simp [cutRows]; omega)) ?_; conv => whnf) | (refine AppG.mk (by first | omega | (unfold roomOK; simp [cutRows]; done) | (unfold roomOK; simp [cutRows]; omega) | (simp [cutRows]; done) | (simp [cutRows]; omega)) ?_; conv => whnf) | (refine SliceG.fr ?_; conv => whnf) | (refine idx_at _ (by with_reducible rfl) (by first | assumption | omega) ?_; conv => whnf) | ((with_reducible refine row_map (by first | assumption | omega) ?_); conv => whnf) | ((with_reducible refine row_set (by first | assumption | omega | (simp only [List.length_set]; omega) | (simp; omega)) ?_); conv => whnf) | fail)
  · exact fini (by rw [actsFault, if_pos (by omega)])
  have hF : actsFault l = actsErr none l := by rw [actsFault, if_neg (by omega)]
  refine loop_count (l.length) [] [0, 9, 10, 11] (fun k (_ : Unit) => ⟨[(0, .c (.lst 6 (l.map encAc))), (9, .c (.lst 6 (l.map encAc))), (10, .c (.int .i64 (l.map encAc).length)), (11, .c (.int .i64 k))], [], 0⟩) (fun k (_ : Unit) => actsErr (prevAt l k) (l.drop k) = actsErr none l ∧ ∀ i (h : i < l.length), i < k → actErr l[i] = 0) (()) ?_ ?_ ?_
  · conv => whnf
    exact ⟨rfl, rfl, by intro i h hi; omega⟩
  · intro k _ hk ⟨hi, hz⟩
    rw [drop_cons hk, actsErr] at hi
    have hp1 : prevAt l (k + 1) = some l[k] := by simp [prevAt, hk]
    have hz1 : actErr l[k] = 0 → ∀ i (h : i < l.length), i < k + 1 → actErr l[i] = 0 := by
      intro h0 i h hik
      rcases Nat.lt_or_ge i k with h3 | h3
      · exact hz i h h3
      · have : i = k := by omega
        subst this; exact h0
    conv => whnf
    repeat' (first | ((first | refine Split.mk (fun h => ?_) (fun h => ?_) | refine CondG.mk (fun h => ?_) (fun h => ?_)) <;> (try simp only [decide_eq_true_eq, decide_eq_false_iff_not, Bool.not_eq_true', Bool.not_eq_false', beq_iff_eq, beq_eq_false_iff_ne, bne_iff_ne, bne_eq_false_iff_eq] at h) <;> (first | (exfalso; first | omega | exact h trivial) | (conv => whnf))) | (refine CallX.mk _ _ (by first | exact rActFault_pc _) ?_; conv => whnf) | (refine CallG.mk _ _ (by first | exact rActFault_pc _) ?_; conv => whnf) | (refine Ask.mk (by first | omega | (unfold roomOK; simp [cutRows]; done) | (unfold roomOK; simp [cutRows]; omega) | (simp [cutRows]; done) | (simp [cutRows]; omega)) ?_; conv => whnf) | (refine AppG.mk (by first | omega | (unfold roomOK; simp [cutRows]; done) | (unfold roomOK; simp [cutRows]; omega) | (simp [cutRows]; done) | (simp [cutRows]; omega)) ?_; conv => whnf) | (refine SliceG.fr ?_; conv => whnf) | (refine idx_at _ (by with_reducible rfl) (by first | assumption | omega) ?_; conv => whnf) | ((with_reducible refine row_map (by first | assumption | omega) ?_); conv => whnf) | ((with_reducible refine row_set (by first | assumption | omega | (simp only [List.length_set]; omega) | (simp; omega)) ?_); conv => whnf) | fail)
    · rw [if_pos h] at hi
      exact fini (by rw [hF, ← hi])
    · rename_i h0
      rw [if_neg (by simpa using h0)] at hi
      have h0 : actErr l[k] = 0 := by simpa using h0
      have hk1 : IntKind.i64.wrap ((k : Int) - 1) = ((k - 1 : Nat) : Int) := by rw [wrap_in (by omega) (by omega)]; omega
      have hp : prevAt l k = some (l[k - 1]'(by omega)) := by rw [prevAt, if_neg (by omega)]; exact List.getElem?_eq_getElem (by omega)
      rw [hp] at hi
      have ho := ord_time (x := l[k]) (y := l[k - 1]'(by omega)) h0 (hz (k - 1) (by omega) (by omega))
      refine idx_map (k - 1) (by omega) hk1 ?_
      conv => whnf
      repeat' (first | ((first | refine Split.mk (fun h => ?_) (fun h => ?_) | refine CondG.mk (fun h => ?_) (fun h => ?_)) <;> (try simp only [decide_eq_true_eq, decide_eq_false_iff_not, Bool.not_eq_true', Bool.not_eq_false', beq_iff_eq, beq_eq_false_iff_ne, bne_iff_ne, bne_eq_false_iff_eq] at h) <;> (first | (exfalso; first | omega | exact h trivial) | (conv => whnf))) | (refine CallX.mk _ _ (by first | exact actOrder_pc _ _) ?_; conv => whnf) | (refine CallG.mk _ _ (by first | exact actOrder_pc _ _) ?_; conv => whnf) | (refine Ask.mk (by first | omega | (unfold roomOK; simp [cutRows]; done) | (unfold roomOK; simp [cutRows]; omega) | (simp [cutRows]; done) | (simp [cutRows]; omega)) ?_; conv => whnf) | (refine AppG.mk (by first | omega | (unfold roomOK; simp [cutRows]; done) | (unfold roomOK; simp [cutRows]; omega) | (simp [cutRows]; done) | (simp [cutRows]; omega)) ?_; conv => whnf) | (refine SliceG.fr ?_; conv => whnf) | (refine idx_at _ (by with_reducible rfl) (by first | assumption | omega) ?_; conv => whnf) | ((with_reducible refine row_map (by first | assumption | omega) ?_); conv => whnf) | ((with_reducible refine row_set (by first | assumption | omega | (simp only [List.length_set]; omega) | (simp; omega)) ?_); conv => whnf) | fail)
      · rw [if_pos (by simp only [badPrev, decide_eq_true_eq]; omega)] at hi
        exact fini (by rw [hF, ← hi])
      · rw [if_neg (by simp only [badPrev, decide_eq_true_eq]; omega)] at hi
        refine count_next () hk (by rw [wrap_succ hk (by omega)]; rfl) ?_
        exact ⟨by rw [hp1]; exact hi, hz1 h0⟩
    · have h0 : k = 0 := by omega
      have h1 : actErr l[k] = 0 := by simp_all
      subst h0
      rw [if_neg (by simp [h1]), if_neg (by simp [badPrev, prevAt])] at hi
      refine count_next () hk (by rw [wrap_succ hk (by omega)]; rfl) ?_
      exact ⟨by rw [hp1]; exact hi, hz1 h1⟩
  · intro _ ⟨hi, _⟩
    rw [List.drop_of_length_le (Nat.le_refl _)] at hi
    conv => whnf
    repeat' (first | ((first | refine Split.mk (fun h => ?_) (fun h => ?_) | refine CondG.mk (fun h => ?_) (fun h => ?_)) <;> (try simp only [decide_eq_true_eq, decide_eq_false_iff_not, Bool.not_eq_true', Bool.not_eq_false', beq_iff_eq, beq_eq_false_iff_ne] at h) <;> (first | (exfalso; first | omega | exact h trivial) | (conv => whnf))) | (refine Ask.mk (by first | omega | (unfold roomOK; simp [cutRows]; done) | (unfold roomOK; simp [cutRows]; omega)) ?_; conv => whnf) | (refine AppG.mk (by first | omega | (unfold roomOK; simp [cutRows]; done) | (unfold roomOK; simp [cutRows]; omega)) ?_; conv => whnf) | (refine SliceG.fr ?_; conv => whnf) | fail)
    exact fini (by rw [hF, ← hi]; rfl)
end Go.Proofs.YtgomipfameinoaaGreatDoor

/- Comparisons, one behind another; sorting by insertion keeps the order of equal ones. -/
namespace Go.Proofs.YtgomipfameinoaaGreatDoor
set_option linter.unusedVariables false
set_option linter.unusedSimpArgs false
open Abs

/-- a comparison -/
structure Cmp {α : Type} (c : α → α → Int) : Prop where
  anti : ∀ a b, c b a = - c a b
  trans : ∀ a b d, c a b ≤ 0 → c b d ≤ 0 → c a d ≤ 0
theorem Cmp.lt {α : Type} {c : α → α → Int} (h : Cmp c) {a b d : α} (h1 : c a b ≤ 0) (h2 : c b d ≤ 0) (h3 : c a b < 0 ∨ c b d < 0) : c a d < 0 := by
  have h4 := h.trans a b d h1 h2
  rcases Int.lt_or_le (c a d) 0 with h5 | h5
  · exact h5
  · have a1 := h.anti a d
    have a2 := h.anti a b
    have a3 := h.anti b d
    rcases h3 with h3 | h3
    · have := h.trans b d a h2 (by omega); omega
    · have := h.trans d a b (by omega) h1; omega
theorem Cmp.swo {α : Type} {c : α → α → Int} (h : Cmp c) : SWOc c where
  irrefl x := by have := h.anti x x; omega
  trans x y z h1 h2 := h.lt (by omega) (by omega) (.inl h1)
  ntrans x y z h1 h2 := by
    have a1 := h.anti x y
    have a2 := h.anti y z
    have a3 := h.anti x z
    have := h.trans z y x (by omega) (by omega)
    omega
end Go.Proofs.YtgomipfameinoaaGreatDoor

/- What each element affects by itself: the plain part, and sorts. -/
namespace Go.Proofs.YtgomipfameinoaaGreatDoor
set_option linter.unusedVariables false
set_option linter.unusedSimpArgs false
open Abs

/-! elements and customers, one behind another -/
/-! how they are ordered -/
end Go.Proofs.YtgomipfameinoaaGreatDoor

/- What each element affects by itself: walked. -/
namespace Go.Proofs.YtgomipfameinoaaGreatDoor
set_option linter.unusedVariables false
set_option linter.unusedSimpArgs false
open Abs

/-! the program's -/
end Go.Proofs.YtgomipfameinoaaGreatDoor

/- What each element affects by itself, by the document; the law. -/
namespace Go.Proofs.YtgomipfameinoaaGreatDoor
set_option linter.unusedVariables false
set_option linter.unusedSimpArgs false
open Abs

end Go.Proofs.YtgomipfameinoaaGreatDoor

/- Bits of numbers, as the walk gives them. -/
namespace Go.Proofs.YtgomipfameinoaaGreatDoor
set_option linter.unusedVariables false
set_option linter.unusedSimpArgs false
open Abs

theorem u64N {n : Nat} (h : n < 18446744073709551616) : IntKind.u64.wrap (n : Int) = (n : Int) := IntWalk.u64_in _ ⟨by omega, by omega⟩
theorem ofInt_nat (n : Nat) : BitVec.ofInt 64 (n : Int) = BitVec.ofNat 64 n := by
  apply BitVec.eq_of_toNat_eq
  rw [BitVec.toNat_ofInt, BitVec.toNat_ofNat]
  omega
theorem bits_and {a b : Nat} (ha : a < 18446744073709551616) (hb : b < 18446744073709551616) : bitsV .and .u64 (a : Int) (b : Int) = ((a &&& b : Nat) : Int) := by
  have h1 : (BitVec.ofInt 64 (a : Int) &&& BitVec.ofInt 64 (b : Int)).toNat = a &&& b := by
    rw [ofInt_nat, ofInt_nat, BitVec.toNat_and, BitVec.toNat_ofNat, BitVec.toNat_ofNat, Nat.mod_eq_of_lt (by simpa using ha), Nat.mod_eq_of_lt (by simpa using hb)]
  have h2 : a &&& b ≤ a := Nat.and_le_left
  show IntKind.u64.wrap (((BitVec.ofInt 64 (a : Int) &&& BitVec.ofInt 64 (b : Int)).toNat : Nat) : Int) = _
  rw [h1, u64N (by omega)]
theorem shN (x d : Nat) (si : Int) (h : (2 : Int) ^ (min si.toNat IntKind.u64.bits) = (d : Int)) : shV .shr .u64 (x : Int) si = ((x / d : Nat) : Int) := by
  show (x : Int).fdiv _ = _
  rw [h, Int.ofNat_fdiv]
end Go.Proofs.YtgomipfameinoaaGreatDoor

/- Sets as bits: sizes, orders, lists. -/
namespace Go.Proofs.YtgomipfameinoaaGreatDoor
set_option linter.unusedVariables false
set_option linter.unusedSimpArgs false
open Abs

/-! how many -/
def LowLt (a b : Nat) : Prop := ∃ i, a.testBit i = true ∧ b.testBit i = false ∧ ∀ j, j < i → a.testBit j = b.testBit j
theorem LowLt.trans {a b c : Nat} (h1 : LowLt a b) (h2 : LowLt b c) : LowLt a c := by
  obtain ⟨i, a1, a2, a3⟩ := h1
  obtain ⟨k, b1, b2, b3⟩ := h2
  rcases Nat.lt_trichotomy i k with h | h | h
  · exact ⟨i, a1, by rw [← b3 i h]; exact a2, fun j hj => by rw [a3 j hj, b3 j (by omega)]⟩
  · subst h; rw [a2] at b1; cases b1
  · exact ⟨k, by rw [a3 k h]; exact b1, b2, fun j hj => by rw [a3 j (by omega), b3 j hj]⟩
end Go.Proofs.YtgomipfameinoaaGreatDoor

/- Sets as bits: what the program counts and compares. -/
namespace Go.Proofs.YtgomipfameinoaaGreatDoor
set_option linter.unusedVariables false
set_option linter.unusedSimpArgs false
open Abs

def o1 (x : Nat) : Nat := (x / 2 &&& 6148914691236517205) + (x &&& 6148914691236517205)
def o2 (x : Nat) : Nat := (x / 4 &&& 3689348814741910323) + (x &&& 3689348814741910323)
def o3 (x : Nat) : Nat := (x / 16 + x) &&& 1085102592571150095
def o4 (x : Nat) : Nat := x + x / 256
def o5 (x : Nat) : Nat := x + x / 65536
theorem o1_lt (x : Nat) : o1 x ≤ 2 * x := by
  have h1 : x / 2 &&& 6148914691236517205 ≤ x / 2 := Nat.and_le_left
  have h2 : x &&& 6148914691236517205 ≤ x := Nat.and_le_left
  unfold o1; omega
theorem o2_lt (x : Nat) : o2 x ≤ 2 * x := by
  have h1 : x / 4 &&& 3689348814741910323 ≤ x / 4 := Nat.and_le_left
  have h2 : x &&& 3689348814741910323 ≤ x := Nat.and_le_left
  unfold o2; omega
theorem i1 (x : Nat) (h : x < 1099511627776) : IntKind.u64.wrap (bitsV .and .u64 (shV .shr .u64 (x : Int) 1) 6148914691236517205 + bitsV .and .u64 (x : Int) 6148914691236517205) = ((o1 x : Nat) : Int) := by
  have h1 := bits_and (a := x / 2) (b := 6148914691236517205) (by omega) (by decide)
  have h2 := bits_and (a := x) (b := 6148914691236517205) (by omega) (by decide)
  have h3 := o1_lt x
  rw [shN x 2 1 (by decide)]
  exact (congr (congrArg (fun a b : Int => IntKind.u64.wrap (a + b)) h1) h2).trans (u64N (n := o1 x) (by omega))
theorem i2 (x : Nat) (h : x < 1099511627776) : IntKind.u64.wrap (bitsV .and .u64 (shV .shr .u64 (x : Int) 2) 3689348814741910323 + bitsV .and .u64 (x : Int) 3689348814741910323) = ((o2 x : Nat) : Int) := by
  have h1 := bits_and (a := x / 4) (b := 3689348814741910323) (by omega) (by decide)
  have h2 := bits_and (a := x) (b := 3689348814741910323) (by omega) (by decide)
  have h3 := o2_lt x
  rw [shN x 4 2 (by decide)]
  exact (congr (congrArg (fun a b : Int => IntKind.u64.wrap (a + b)) h1) h2).trans (u64N (n := o2 x) (by omega))
theorem i3 (x : Nat) (h : x < 1099511627776) : bitsV .and .u64 (IntKind.u64.wrap (shV .shr .u64 (x : Int) 4 + (x : Int))) 1085102592571150095 = ((o3 x : Nat) : Int) := by
  have h1 := bits_and (a := x / 16 + x) (b := 1085102592571150095) (by omega) (by decide)
  rw [shN x 16 4 (by decide), show IntKind.u64.wrap (((x / 16 : Nat) : Int) + (x : Int)) = ((x / 16 + x : Nat) : Int) from u64N (by omega)]
  exact h1
theorem i4 (x : Nat) (h : x < 1099511627776) : IntKind.u64.wrap ((x : Int) + shV .shr .u64 (x : Int) 8) = ((o4 x : Nat) : Int) := by
  rw [shN x 256 8 (by decide)]
  exact u64N (n := o4 x) (by unfold o4; omega)
theorem i5 (x : Nat) (h : x < 1099511627776) : IntKind.u64.wrap ((x : Int) + shV .shr .u64 (x : Int) 16) = ((o5 x : Nat) : Int) := by
  rw [shN x 65536 16 (by decide)]
  exact u64N (n := o5 x) (by unfold o5; omega)
end Go.Proofs.YtgomipfameinoaaGreatDoor

/- Explanations in plain Lean: needs, good sets, the best ones, sorted; what is unexplained. -/
namespace Go.Proofs.YtgomipfameinoaaGreatDoor
set_option linter.unusedVariables false
set_option linter.unusedSimpArgs false
open Abs

end Go.Proofs.YtgomipfameinoaaGreatDoor

/- The explanations of the program. -/
namespace Go.Proofs.YtgomipfameinoaaGreatDoor
set_option linter.unusedVariables false
set_option linter.unusedSimpArgs false
open Abs

end Go.Proofs.YtgomipfameinoaaGreatDoor

/- What is unexplained, by the program; elements by captured lists. -/
namespace Go.Proofs.YtgomipfameinoaaGreatDoor
set_option linter.unusedVariables false
set_option linter.unusedSimpArgs false
open Abs

end Go.Proofs.YtgomipfameinoaaGreatDoor

/- Plain: the best sets are there, and they rise. -/
namespace Go.Proofs.YtgomipfameinoaaGreatDoor
set_option linter.unusedVariables false
set_option linter.unusedSimpArgs false
open Abs

end Go.Proofs.YtgomipfameinoaaGreatDoor

/- What is in all sets, by the program. -/
namespace Go.Proofs.YtgomipfameinoaaGreatDoor
set_option linter.unusedVariables false
set_option linter.unusedSimpArgs false
open Abs

end Go.Proofs.YtgomipfameinoaaGreatDoor

/- What to ask, by the program. -/
namespace Go.Proofs.YtgomipfameinoaaGreatDoor
set_option linter.unusedVariables false
set_option linter.unusedSimpArgs false
open Abs

end Go.Proofs.YtgomipfameinoaaGreatDoor

/- Ask with an error. -/
namespace Go.Proofs.YtgomipfameinoaaGreatDoor
set_option linter.unusedVariables false
set_option linter.unusedSimpArgs false
open Abs

end Go.Proofs.YtgomipfameinoaaGreatDoor

/- The document: which service needs one of a list. -/
namespace Go.Proofs.YtgomipfameinoaaGreatDoor
set_option linter.unusedVariables false
set_option linter.unusedSimpArgs false
open Abs

end Go.Proofs.YtgomipfameinoaaGreatDoor

/- The document: elements of the services that a captured list holds. -/
namespace Go.Proofs.YtgomipfameinoaaGreatDoor
set_option linter.unusedVariables false
set_option linter.unusedSimpArgs false
open Abs

end Go.Proofs.YtgomipfameinoaaGreatDoor

/- The document: suspects. -/
namespace Go.Proofs.YtgomipfameinoaaGreatDoor
set_option linter.unusedVariables false
set_option linter.unusedSimpArgs false
open Abs

end Go.Proofs.YtgomipfameinoaaGreatDoor

/- The document: what is unexplained. -/
namespace Go.Proofs.YtgomipfameinoaaGreatDoor
set_option linter.unusedVariables false
set_option linter.unusedSimpArgs false
open Abs

end Go.Proofs.YtgomipfameinoaaGreatDoor

/- Plain: both suspects are one. -/
namespace Go.Proofs.YtgomipfameinoaaGreatDoor
set_option linter.unusedVariables false
set_option linter.unusedSimpArgs false
open Abs

end Go.Proofs.YtgomipfameinoaaGreatDoor

/- Plain: the best sets of the document and of the program are one. -/
namespace Go.Proofs.YtgomipfameinoaaGreatDoor
set_option linter.unusedVariables false
set_option linter.unusedSimpArgs false
open Abs

/-! from the begin on -/
/-! the order of the sets -/
/-! the best ones, told anew -/
end Go.Proofs.YtgomipfameinoaaGreatDoor

/- Lists joined; what is in no explanation, by the program. -/
namespace Go.Proofs.YtgomipfameinoaaGreatDoor
set_option linter.unusedVariables false
set_option linter.unusedSimpArgs false
open Abs

-- slices.Grow of nil, by the kit's contract laid at the seat (needs nx_made of XF2 or XGrow)
theorem flat_len {α : Type} {n : Nat} : ∀ {L : List (List α)}, (∀ q ∈ L, q.length ≤ n) → L.flatten.length ≤ n * L.length
  | [], _ => by simp
  | a :: r, h => by
    have ih := flat_len (n := n) (L := r) (fun q hq => h q (by simp [hq]))
    have := h a (by simp)
    simp only [List.flatten_cons, List.length_append, List.length_cons, Nat.mul_succ]; omega
end Go.Proofs.YtgomipfameinoaaGreatDoor

/- Plain: the least sets, few suspects; what broken elements affect. -/
namespace Go.Proofs.YtgomipfameinoaaGreatDoor
set_option linter.unusedVariables false
set_option linter.unusedSimpArgs false
open Abs

section
variable {s : List Sv} {down up : List ByteArray}
end
/-! what broken elements affect -/
end Go.Proofs.YtgomipfameinoaaGreatDoor

/- What broken elements affect, by the program; right services are made. -/
namespace Go.Proofs.YtgomipfameinoaaGreatDoor
set_option linter.unusedVariables false
set_option linter.unusedSimpArgs false
open Abs

/-! Affected, where the services are right -/
end Go.Proofs.YtgomipfameinoaaGreatDoor

/- Texts of services: written. -/
namespace Go.Proofs.YtgomipfameinoaaGreatDoor
set_option linter.unusedVariables false
set_option linter.unusedSimpArgs false
open Abs

theorem keyB_size {s : ByteArray} (h : keyB s = true) : 1 ≤ s.size ∧ s.size ≤ 40 := by
  unfold keyB at h
  have := of_decide_eq_true h
  omega
end Go.Proofs.YtgomipfameinoaaGreatDoor

/- Events read: the program and the document. -/
namespace Go.Proofs.YtgomipfameinoaaGreatDoor
set_option linter.unusedVariables false
set_option linter.unusedSimpArgs false
open Abs

/-! a list and two things more -/
theorem fin3n {x y : S} {sz : Nat} {os : List Ob} : FinR 0 (.tup [.c (.lst sz []), x, y]) [] (.tup [.c .nils, x, y]) os :=
  .weak os (.tup _ _ rfl (by
    intro i a b ha hb
    match i with
    | 0 => cases ha; cases hb; exact .nil sz
    | 1 => cases ha; cases hb; exact .refl _
    | 2 => cases ha; cases hb; exact .refl _)) rfl (Nat.le_refl _)
theorem fin3f {x y : S} {l sz : Nat} {rows : List (List V)} {os : List Ob} (h : os[l]? = some (.frow sz rows)) : FinR 0 (.tup [.c (.lst sz rows), x, y]) [] (.tup [.c (.row l), x, y]) os :=
  .weak os (.tup _ _ rfl (by
    intro i a b ha hb
    match i with
    | 0 => cases ha; cases hb; exact .fro l sz rows h
    | 1 => cases ha; cases hb; exact .refl _
    | 2 => cases ha; cases hb; exact .refl _)) rfl (Nat.le_refl _)
theorem readV_cases {σ : Type} {f : σ → List UInt8 → σ × Bool} {z : σ} {fault : σ → Int} {tl : List UInt8} {st : σ} {i : Nat} {ok : Bool} (hq : goL f z 0 (spl 10 tl) = (st, i, ok)) (h : ¬ 200000 < tl.length) :
    (ok = false → readV f z fault tl = ⟨z, i, 9⟩) ∧ (ok = true → fault st ≠ 0 → readV f z fault tl = ⟨z, 0, fault st⟩) ∧ (ok = true → fault st = 0 → readV f z fault tl = ⟨st, 0, 0⟩) := by
  unfold readV
  rw [hq, if_neg h]
  refine ⟨fun h => ?_, fun h h2 => ?_, fun h h2 => ?_⟩
  · subst h; rw [if_pos rfl]
  · subst h; rw [if_neg (by simp), if_pos h2]
  · subst h; rw [if_neg (by simp), if_neg (by simpa using h2)]
theorem goL_len {α : Type} (f : List α → List UInt8 → List α × Bool) (hf : ∀ st x, (f st x).1.length ≤ st.length + 1) (tl : List UInt8) : (goL f [] 0 (spl 10 tl)).1.length ≤ tl.length + 1 := by
  have h1 := goL_grow f List.length hf (spl 10 tl) [] 0
  have h2 := spl_len 10 tl
  simp only [List.length_nil] at h1
  omega
end Go.Proofs.YtgomipfameinoaaGreatDoor

/- Services read: the program and the document. -/
namespace Go.Proofs.YtgomipfameinoaaGreatDoor
set_option linter.unusedVariables false
set_option linter.unusedSimpArgs false
open Abs

theorem getD0 {W : List ByteArray} {i : Nat} (h : i < W.length) : W.getD i ⟨#[]⟩ = W[i] := by
  rw [List.getD_eq_getElem?_getD, List.getElem?_eq_getElem h]; rfl
theorem noneE_mem (W : List ByteArray) : noneE W = !(decide (⟨#[]⟩ ∈ W)) := by
  rw [Bool.eq_iff_iff]
  unfold noneE
  simp only [List.all_eq_true, decide_eq_true_eq, Bool.not_eq_true', decide_eq_false_iff_not]
  constructor
  · intro h h2; exact h _ h2 rfl
  · intro h x hx h2
    refine h ?_
    rw [show (⟨#[]⟩ : ByteArray) = x from (ByteArray.ext (Array.eq_empty_of_size_eq_zero h2)).symm]
    exact hx
end Go.Proofs.YtgomipfameinoaaGreatDoor

/- The two stores are one. -/
namespace Go.Proofs.YtgomipfameinoaaGreatDoor
set_option linter.unusedVariables false
set_option linter.unusedSimpArgs false
open Abs

section
variable {κ β : Type} [DecidableEq κ]
end
/-- what the program's store has, by the document's -/
def seen (r : Rto) (d : ByteArray) : Option (ByteArray × Int) := if 0 < (r.l.get d).getD 0 then some ((r.k.get d).getD bE, (r.l.get d).getD 0) else none
theorem actsErr_all : ∀ (l : List Ac) (p : Option Ac), actsErr p l = 0 → ∀ x ∈ l, actErr x = 0
  | [], _, _, x, hx => by cases hx
  | y :: r, p, h, x, hx => by
    unfold actsErr at h
    split at h
    · rename_i h1; exact absurd h h1
    · split at h
      · cases h
      · rename_i h1 h2
        rcases List.mem_cons.1 hx with rfl | hx
        · simpa using h1
        · exact actsErr_all r _ h x hx
theorem actsFault_all {l : List Ac} (h : actsFault l = 0) : l.length ≤ 2000 ∧ ∀ x ∈ l, actErr x = 0 := by
  unfold actsFault at h
  split at h
  · cases h
  · exact ⟨by omega, actsErr_all l _ h⟩
end Go.Proofs.YtgomipfameinoaaGreatDoor

/- Texts of acts: written. -/
namespace Go.Proofs.YtgomipfameinoaaGreatDoor
set_option linter.unusedVariables false
set_option linter.unusedSimpArgs false
open Abs

def qArrive : ByteArray := ⟨#[97, 114, 114, 105, 118, 101, 32]⟩
def qCut : ByteArray := ⟨#[99, 117, 116, 32]⟩
def qReturn : ByteArray := ⟨#[114, 101, 116, 117, 114, 110, 32]⟩
def wdsV (x : Ac) : ByteArray :=
  if x.kd = 1 then qArrive ++ x.ty ++ b1 32 ++ itoaB x.long else if x.kd = 2 then qCut ++ itoaB x.long else if x.kd = 3 then qReturn ++ x.of ++ b1 32 ++ itoaB x.long else bScrap
def acLine (x : Ac) : ByteArray := itoaB x.mo ++ b1 32 ++ x.drum ++ b1 32 ++ wdsV x ++ b1 10
def acText (l : List Ac) : ByteArray := catB (l.map acLine)
def acOut (l : List Ac) : ByteArray := if actsFault l = 0 then acText l else ⟨#[]⟩
structure AcLn (x : Ac) : Prop where
  mo : 0 ≤ x.mo ∧ x.mo ≤ 345686399999
  kd : 1 ≤ x.kd ∧ x.kd ≤ 4
  long : 0 ≤ x.long ∧ x.long ≤ 200000
  drum : x.drum.size ≤ 40
  ty : x.ty.size ≤ 40
  of : x.of.size ≤ 40
  n1 : (itoaB x.mo).size ≤ 21
  n2 : (itoaB x.long).size ≤ 21
  wd : (wdsV x).size ≤ 69
  lo : 2 ≤ (acLine x).size
  hi : (acLine x).size ≤ 135
theorem acLn {x : Ac} (h : actErr x = 0) : AcLn x := by
  have h1 := actErr_in h
  have hty : x.ty.size ≤ 40 ∧ x.of.size ≤ 40 := by
    unfold actErr at h
    generalize hm : momB x.mo = bm at h
    cases bm with
    | false => simp at h
    | true =>
      simp only [Bool.not_true, Bool.false_eq_true, if_false] at h
      rw [if_neg (by omega)] at h
      split at h
      · omega
      · rename_i h2
        split at h
        · omega
        · split at h
          · omega
          · rename_i h3
            simp only [Bool.or_eq_true, Bool.not_eq_true', Bool.and_eq_true, beq_iff_eq, not_or, not_and, Bool.not_eq_false] at h2
            have h4 := h2.1.2
            have h5 := h2.2
            constructor
            · by_cases e : x.kd = 1
              · exact (keyB_size (h4 e)).2
              · have : x.ty.toList = (⟨#[]⟩ : ByteArray).toList := Classical.byContradiction fun q => h3 (.inl ⟨e, q⟩)
                rw [(emp_iff _).1 this]; omega
            · by_cases e : x.kd = 3
              · exact (keyB_size (h5 e)).2
              · have : x.of.toList = (⟨#[]⟩ : ByteArray).toList := Classical.byContradiction fun q => h3 (.inr (.inl ⟨e, q⟩))
                rw [(emp_iff _).1 this]; omega
  have hd := keyB_size h1.2.2.2.2.2.2.2.1
  have n1 := itoaB_size x.mo (by omega) (by omega)
  have n2 := itoaB_size x.long (by omega) (by omega)
  have s1 : (b1 32).size = 1 := rfl
  have s2 : (b1 10).size = 1 := rfl
  have s3 : qArrive.size = 7 := rfl
  have s4 : qCut.size = 4 := rfl
  have s5 : qReturn.size = 7 := rfl
  have s6 : bScrap.size = 5 := rfl
  have hw : (wdsV x).size ≤ 69 := by
    unfold wdsV
    (repeat' split) <;> (try simp only [ByteArray.size_append]) <;> omega
  have hs : (acLine x).size = (itoaB x.mo).size + 1 + x.drum.size + 1 + (wdsV x).size + 1 := by
    unfold acLine; simp only [ByteArray.size_append]; omega
  exact ⟨⟨h1.1, h1.2.1⟩, ⟨h1.2.2.1, h1.2.2.2.1⟩, ⟨h1.2.2.2.2.1, h1.2.2.2.2.2.1⟩, hd.2, hty.1, hty.2, n1, n2, hw, by omega, by omega⟩
theorem acText_bd {l : List Ac} (h : ∀ x ∈ l, AcLn x) : (acText l).size ≤ l.length * 135 := by
  have := catB_size (l.map acLine) 135 (fun x hx => by
    obtain ⟨q, hq, rfl⟩ := List.mem_map.1 hx
    exact (h q hq).hi)
  rwa [List.length_map] at this
set_option maxRecDepth 100000 in
set_option maxHeartbeats 4000000 in
theorem dWords_pc (x : Ac) (h : AcLn x) : PCp 113 [.agg (encAc x)] [] (.c (.str (wdsV x))) [] := by
  have i1 := itoa_pc x.long (by have := h.long; omega) (by have := h.long; omega)
  have z1 : (⟨#[32]⟩ : ByteArray).size = 1 := rfl
  have s3 : (⟨#[97, 114, 114, 105, 118, 101, 32]⟩ : ByteArray).size = 7 := rfl
  have s4 : (⟨#[99, 117, 116, 32]⟩ : ByteArray).size = 4 := rfl
  have s5 : (⟨#[114, 101, 116, 117, 114, 110, 32]⟩ : ByteArray).size = 7 := rfl
  have hty := h.ty
  have hof := h.of
  have n2 := h.n2
  have hkd := h.kd
  have v1 : (⟨#[97, 114, 114, 105, 118, 101, 32]⟩ ++ x.ty).size = 7 + x.ty.size := by rw [ByteArray.size_append, s3]
  have v2 : (⟨#[97, 114, 114, 105, 118, 101, 32]⟩ ++ x.ty ++ ⟨#[32]⟩).size = 7 + x.ty.size + 1 := by rw [ByteArray.size_append, v1, z1]
  have v3 : (⟨#[114, 101, 116, 117, 114, 110, 32]⟩ ++ x.of).size = 7 + x.of.size := by rw [ByteArray.size_append, s5]
  have v4 : (⟨#[114, 101, 116, 117, 114, 110, 32]⟩ ++ x.of ++ ⟨#[32]⟩).size = 7 + x.of.size + 1 := by rw [ByteArray.size_append, v3, z1]
  unfold wdsV
  refine fn_sound (mt := mts) tab_fits tab_mixed Tryz.func113 (by rfl) (by kernel_rfl) (by kernel_rfl) Tryz.results113 (Nat.le_of_ble_eq_true (by kernel_rfl)) ?_
  conv => whnf
  repeat' (first | ((first | refine Split.mk (fun h => ?_) (fun h => ?_) | refine CondG.mk (fun h => ?_) (fun h => ?_)) <;> (try simp only [decide_eq_true_eq, decide_eq_false_iff_not, Bool.not_eq_true', Bool.not_eq_false', beq_iff_eq, beq_eq_false_iff_ne, bne_iff_ne, bne_eq_false_iff_eq] at h) <;> (first | (exfalso; first | omega | exact h trivial) | (conv => whnf))) | (refine CallX.mk _ _ (by first | exact i1) ?_; conv => whnf) | (refine CallG.mk _ _ (by first | exact i1) ?_; conv => whnf) | (refine Ask.mk (by first | omega | (unfold roomOK; simp [cutRows]; done) | (unfold roomOK; simp [cutRows]; omega) | (simp [cutRows]; done) | (simp [cutRows]; omega)) ?_; conv => whnf) | (refine AppG.mk (by first | omega | (unfold roomOK; simp [cutRows]; done) | (unfold roomOK; simp [cutRows]; omega) | (simp [cutRows]; done) | (simp [cutRows]; omega)) ?_; conv => whnf) | (refine SliceG.fr ?_; conv => whnf) | (refine idx_at _ (by with_reducible rfl) (by first | assumption | omega) ?_; conv => whnf) | ((with_reducible refine row_map (by first | assumption | omega) ?_); conv => whnf) | ((with_reducible refine row_set (by first | assumption | omega | (simp only [List.length_set]; omega) | (simp; omega)) ?_); conv => whnf) | fail)
  all_goals first
    | (rw [if_pos (by assumption)]; exact .mk ⟨rfl, rfl⟩)
    | (rw [if_neg (by omega), if_pos (by omega)]; exact .mk ⟨rfl, rfl⟩)
    | (rw [if_neg (by omega), if_neg (by omega), if_pos (by omega)]; exact .mk ⟨rfl, rfl⟩)
    | (rw [if_neg (by omega), if_neg (by omega), if_neg (by omega)]; exact .mk ⟨rfl, rfl⟩)
set_option maxRecDepth 100000 in
set_option maxHeartbeats 4000000 in
theorem dText_pc (s : List Ac) (hl : s.length ≤ 100) : PCp 41 [.c (.lst 6 (s.map encAc))] [] (.tup [.c (.str (acOut s)), .c (.int .i64 (actsFault s))]) [] := by
  have hlm : (s.map encAc).length = s.length := List.length_map ..
  have c0 := checkActs_pc s
  unfold acOut
  by_cases he : actsFault s = 0
  · have h2 : ∀ x ∈ s, AcLn x := fun x hm => acLn ((actsFault_all he).2 x hm)
    rw [if_pos he, he]
    rw [he] at c0
    rcases Nat.eq_zero_or_pos s.length with h0 | h0
    · have : s = [] := List.length_eq_zero_iff.1 h0
      subst this
      refine fn_sound (mt := mts) tab_fits tab_mixed Tryz.func41 (by rfl) (by kernel_rfl) (by kernel_rfl) Tryz.results41 (Nat.le_of_ble_eq_true (by kernel_rfl)) ?_
      conv => whnf
      repeat' (first | ((first | refine Split.mk (fun h => ?_) (fun h => ?_) | refine CondG.mk (fun h => ?_) (fun h => ?_)) <;> (try simp only [decide_eq_true_eq, decide_eq_false_iff_not, Bool.not_eq_true', Bool.not_eq_false', beq_iff_eq, beq_eq_false_iff_ne, bne_iff_ne, bne_eq_false_iff_eq] at h) <;> (first | (exfalso; first | omega | exact h trivial) | (conv => whnf))) | (refine CallX.mk _ _ (by first | exact c0) ?_; conv => whnf) | (refine CallG.mk _ _ (by first | exact c0) ?_; conv => whnf) | (refine Ask.mk (by first | omega | (unfold roomOK; simp [cutRows]; done) | (unfold roomOK; simp [cutRows]; omega) | (simp [cutRows]; done) | (simp [cutRows]; omega)) ?_; conv => whnf) | (refine AppG.mk (by first | omega | (unfold roomOK; simp [cutRows]; done) | (unfold roomOK; simp [cutRows]; omega) | (simp [cutRows]; done) | (simp [cutRows]; omega)) ?_; conv => whnf) | (refine SliceG.fr ?_; conv => whnf) | (refine idx_at _ (by with_reducible rfl) (by first | assumption | omega) ?_; conv => whnf) | ((with_reducible refine row_map (by first | assumption | omega) ?_); conv => whnf) | ((with_reducible refine row_set (by first | assumption | omega | (simp only [List.length_set]; omega) | (simp; omega)) ?_); conv => whnf) | fail)
      refine .un 1 ?_
      conv => whnf
      repeat' (first | ((first | refine Split.mk (fun h => ?_) (fun h => ?_) | refine CondG.mk (fun h => ?_) (fun h => ?_)) <;> (try simp only [decide_eq_true_eq, decide_eq_false_iff_not, Bool.not_eq_true', Bool.not_eq_false', beq_iff_eq, beq_eq_false_iff_ne, bne_iff_ne, bne_eq_false_iff_eq] at h) <;> (first | (exfalso; first | omega | exact h trivial) | (conv => whnf))) | (refine CallX.mk _ _ (by first | exact len0_pc | exact str0_pc) ?_; conv => whnf) | (refine CallG.mk _ _ (by first | exact len0_pc | exact str0_pc) ?_; conv => whnf) | (refine Ask.mk (by first | omega | (unfold roomOK; simp [cutRows]; done) | (unfold roomOK; simp [cutRows]; omega) | (simp [cutRows]; done) | (simp [cutRows]; omega)) ?_; conv => whnf) | (refine AppG.mk (by first | omega | (unfold roomOK; simp [cutRows]; done) | (unfold roomOK; simp [cutRows]; omega) | (simp [cutRows]; done) | (simp [cutRows]; omega)) ?_; conv => whnf) | (refine SliceG.fr ?_; conv => whnf) | (refine idx_at _ (by with_reducible rfl) (by first | assumption | omega) ?_; conv => whnf) | ((with_reducible refine row_map (by first | assumption | omega) ?_); conv => whnf) | ((with_reducible refine row_set (by first | assumption | omega | (simp only [List.length_set]; omega) | (simp; omega)) ?_); conv => whnf) | fail)
      exact .mk ⟨rfl, rfl⟩
    · have hsz := acText_bd h2
      have hpos : 0 < (acText s).size := by
        have h4 := catB_mem (l := s.map acLine) (List.mem_map.2 ⟨s[0], List.getElem_mem h0, rfl⟩)
        have h6 := (h2 _ (List.getElem_mem h0)).lo
        unfold acText
        omega
      have cL := len1_pc (acText s)
      have cS := str1_pc (acText s) hpos
      refine fn_sound (mt := mts) tab_fits tab_mixed Tryz.func41 (by rfl) (by kernel_rfl) (by kernel_rfl) Tryz.results41 (Nat.le_of_ble_eq_true (by kernel_rfl)) ?_
      conv => whnf
      repeat' (first | ((first | refine Split.mk (fun h => ?_) (fun h => ?_) | refine CondG.mk (fun h => ?_) (fun h => ?_)) <;> (try simp only [decide_eq_true_eq, decide_eq_false_iff_not, Bool.not_eq_true', Bool.not_eq_false', beq_iff_eq, beq_eq_false_iff_ne, bne_iff_ne, bne_eq_false_iff_eq] at h) <;> (first | (exfalso; first | omega | exact h trivial) | (conv => whnf))) | (refine CallX.mk _ _ (by first | exact c0) ?_; conv => whnf) | (refine CallG.mk _ _ (by first | exact c0) ?_; conv => whnf) | (refine Ask.mk (by first | omega | (unfold roomOK; simp [cutRows]; done) | (unfold roomOK; simp [cutRows]; omega) | (simp [cutRows]; done) | (simp [cutRows]; omega)) ?_; conv => whnf) | (refine AppG.mk (by first | omega | (unfold roomOK; simp [cutRows]; done) | (unfold roomOK; simp [cutRows]; omega) | (simp [cutRows]; done) | (simp [cutRows]; omega)) ?_; conv => whnf) | (refine SliceG.fr ?_; conv => whnf) | (refine idx_at _ (by with_reducible rfl) (by first | assumption | omega) ?_; conv => whnf) | ((with_reducible refine row_map (by first | assumption | omega) ?_); conv => whnf) | ((with_reducible refine row_set (by first | assumption | omega | (simp only [List.length_set]; omega) | (simp; omega)) ?_); conv => whnf) | fail)
      refine loop_for (s.length) [.bx 5 1 5 1] [5, 13, 14, 15] (fun k (_ : Unit) => [(15, .c (.int .i64 (k : Int)))]) (fun k (_ : Unit) => [(0, .box [bif Nat.beq k 0 then .nilp else .ptr 0 0, .row 1] TBld), (1, .row 5 1 (byteRows (catB ((s.take k).map acLine))))]) (fun k (_ : Unit) => True) (()) ?_
      conv => whnf
      refine ⟨(by first | rfl | (simp; done) | (simp; rfl)), (by trivial), ?_, ?_⟩
      · intro k _ hk _
        have hxk := h2 _ (List.getElem_mem hk)
        have cw := dWords_pc s[k] hxk
        obtain ⟨g1, g2, g3, g4, g5, g6, g7, g8, g9, g10, g11⟩ := hxk
        have hks := acText_bd (l := s.take k) (fun x hx => h2 x (List.mem_of_mem_take hx))
        unfold acText at hks
        rw [List.length_take] at hks
        have e1 : catB ((s.take (k + 1)).map acLine) = catB ((s.take k).map acLine) ++ acLine s[k] := by rw [List.take_succ_eq_append_getElem hk, List.map_append, List.map_cons, List.map_nil, catB_snoc]
        have z1 : (⟨#[32]⟩ : ByteArray).size = 1 := rfl
        have z2 : (⟨#[10]⟩ : ByteArray).size = 1 := rfl
        have z3 : (itoaB s[k].mo ++ ⟨#[32]⟩).size = (itoaB s[k].mo).size + 1 := ByteArray.size_append
        have z4 : (itoaB s[k].mo ++ ⟨#[32]⟩ ++ s[k].drum).size = (itoaB s[k].mo).size + 1 + s[k].drum.size := by rw [ByteArray.size_append, z3]
        have z5 : (itoaB s[k].mo ++ ⟨#[32]⟩ ++ s[k].drum ++ ⟨#[32]⟩).size = (itoaB s[k].mo).size + 1 + s[k].drum.size + 1 := by rw [ByteArray.size_append, z4, z1]
        have z6 : (itoaB s[k].mo ++ ⟨#[32]⟩ ++ s[k].drum ++ ⟨#[32]⟩ ++ wdsV s[k]).size = (itoaB s[k].mo).size + 1 + s[k].drum.size + 1 + (wdsV s[k]).size := by rw [ByteArray.size_append, z5]
        have i1 := itoa_pc s[k].mo (by omega) (by omega)
        generalize catB ((s.take k).map acLine) = tx at *
        have w0 := ws0_pc tx (acLine s[k]) (by omega)
        have w1 := ws1_pc tx (acLine s[k]) (by omega)
        unfold acLine at w0 w1
        rcases Nat.eq_zero_or_pos k with rfl | hk0
        · conv => whnf
          repeat' (first | ((first | refine Split.mk (fun h => ?_) (fun h => ?_) | refine CondG.mk (fun h => ?_) (fun h => ?_)) <;> (try simp only [decide_eq_true_eq, decide_eq_false_iff_not, Bool.not_eq_true', Bool.not_eq_false', beq_iff_eq, beq_eq_false_iff_ne, bne_iff_ne, bne_eq_false_iff_eq] at h) <;> (first | (exfalso; first | omega | exact h trivial) | (conv => whnf))) | (refine CallX.mk _ _ (by first | exact i1 | exact cw | exact w0) ?_; conv => whnf) | (refine CallG.mk _ _ (by first | exact i1 | exact cw | exact w0) ?_; conv => whnf) | (refine Ask.mk (by first | omega | (unfold roomOK; simp [cutRows]; done) | (unfold roomOK; simp [cutRows]; omega) | (simp [cutRows]; done) | (simp [cutRows]; omega)) ?_; conv => whnf) | (refine AppG.mk (by first | omega | (unfold roomOK; simp [cutRows]; done) | (unfold roomOK; simp [cutRows]; omega) | (simp [cutRows]; done) | (simp [cutRows]; omega)) ?_; conv => whnf) | (refine SliceG.fr ?_; conv => whnf) | (refine idx_at _ (by with_reducible rfl) (by first | assumption | omega) ?_; conv => whnf) | ((with_reducible refine row_map (by first | assumption | omega) ?_); conv => whnf) | ((with_reducible refine row_set (by first | assumption | omega | (simp only [List.length_set]; omega) | (simp; omega)) ?_); conv => whnf) | fail)
          exact count_next () hk (by rw [wrap_succ hk (by omega), e1]; rfl) trivial
        · obtain ⟨j, rfl⟩ : ∃ j, k = j + 1 := ⟨k - 1, by omega⟩
          conv => whnf
          repeat' (first | ((first | refine Split.mk (fun h => ?_) (fun h => ?_) | refine CondG.mk (fun h => ?_) (fun h => ?_)) <;> (try simp only [decide_eq_true_eq, decide_eq_false_iff_not, Bool.not_eq_true', Bool.not_eq_false', beq_iff_eq, beq_eq_false_iff_ne, bne_iff_ne, bne_eq_false_iff_eq] at h) <;> (first | (exfalso; first | omega | exact h trivial) | (conv => whnf))) | (refine CallX.mk _ _ (by first | exact i1 | exact cw | exact w1) ?_; conv => whnf) | (refine CallG.mk _ _ (by first | exact i1 | exact cw | exact w1) ?_; conv => whnf) | (refine Ask.mk (by first | omega | (unfold roomOK; simp [cutRows]; done) | (unfold roomOK; simp [cutRows]; omega) | (simp [cutRows]; done) | (simp [cutRows]; omega)) ?_; conv => whnf) | (refine AppG.mk (by first | omega | (unfold roomOK; simp [cutRows]; done) | (unfold roomOK; simp [cutRows]; omega) | (simp [cutRows]; done) | (simp [cutRows]; omega)) ?_; conv => whnf) | (refine SliceG.fr ?_; conv => whnf) | (refine idx_at _ (by with_reducible rfl) (by first | assumption | omega) ?_; conv => whnf) | ((with_reducible refine row_map (by first | assumption | omega) ?_); conv => whnf) | ((with_reducible refine row_set (by first | assumption | omega | (simp only [List.length_set]; omega) | (simp; omega)) ?_); conv => whnf) | fail)
          exact count_next () hk (by rw [wrap_succ hk (by omega), e1]; rfl) trivial
      · intro _ _
        rw [List.take_length]
        obtain ⟨j, hj⟩ : ∃ j, s.length = j + 1 := ⟨s.length - 1, by omega⟩
        rw [hj]
        conv => whnf
        repeat' (first | ((first | refine Split.mk (fun h => ?_) (fun h => ?_) | refine CondG.mk (fun h => ?_) (fun h => ?_)) <;> (try simp only [decide_eq_true_eq, decide_eq_false_iff_not, Bool.not_eq_true', Bool.not_eq_false', beq_iff_eq, beq_eq_false_iff_ne, bne_iff_ne, bne_eq_false_iff_eq] at h) <;> (first | (exfalso; first | omega | exact h trivial) | (conv => whnf))) | (refine CallX.mk _ _ (by first | exact cL | exact cS) ?_; conv => whnf) | (refine CallG.mk _ _ (by first | exact cL | exact cS) ?_; conv => whnf) | (refine Ask.mk (by first | omega | (unfold roomOK; simp [cutRows]; done) | (unfold roomOK; simp [cutRows]; omega) | (simp [cutRows]; done) | (simp [cutRows]; omega)) ?_; conv => whnf) | (refine AppG.mk (by first | omega | (unfold roomOK; simp [cutRows]; done) | (unfold roomOK; simp [cutRows]; omega) | (simp [cutRows]; done) | (simp [cutRows]; omega)) ?_; conv => whnf) | (refine SliceG.fr ?_; conv => whnf) | (refine idx_at _ (by with_reducible rfl) (by first | assumption | omega) ?_; conv => whnf) | ((with_reducible refine row_map (by first | assumption | omega) ?_); conv => whnf) | ((with_reducible refine row_set (by first | assumption | omega | (simp only [List.length_set]; omega) | (simp; omega)) ?_); conv => whnf) | fail)
        all_goals exact .mk ⟨rfl, rfl⟩
  · rw [if_neg he]
    refine fn_sound (mt := mts) tab_fits tab_mixed Tryz.func41 (by rfl) (by kernel_rfl) (by kernel_rfl) Tryz.results41 (Nat.le_of_ble_eq_true (by kernel_rfl)) ?_
    conv => whnf
    repeat' (first | ((first | refine Split.mk (fun h => ?_) (fun h => ?_) | refine CondG.mk (fun h => ?_) (fun h => ?_)) <;> (try simp only [decide_eq_true_eq, decide_eq_false_iff_not, Bool.not_eq_true', Bool.not_eq_false', beq_iff_eq, beq_eq_false_iff_ne, bne_iff_ne, bne_eq_false_iff_eq] at h) <;> (first | (exfalso; first | omega | exact h trivial) | (conv => whnf))) | (refine CallX.mk _ _ (by first | exact c0) ?_; conv => whnf) | (refine CallG.mk _ _ (by first | exact c0) ?_; conv => whnf) | (refine Ask.mk (by first | omega | (unfold roomOK; simp [cutRows]; done) | (unfold roomOK; simp [cutRows]; omega) | (simp [cutRows]; done) | (simp [cutRows]; omega)) ?_; conv => whnf) | (refine AppG.mk (by first | omega | (unfold roomOK; simp [cutRows]; done) | (unfold roomOK; simp [cutRows]; omega) | (simp [cutRows]; done) | (simp [cutRows]; omega)) ?_; conv => whnf) | (refine SliceG.fr ?_; conv => whnf) | (refine idx_at _ (by with_reducible rfl) (by first | assumption | omega) ?_; conv => whnf) | ((with_reducible refine row_map (by first | assumption | omega) ?_); conv => whnf) | ((with_reducible refine row_set (by first | assumption | omega | (simp only [List.length_set]; omega) | (simp; omega)) ?_); conv => whnf) | fail)
    all_goals exact .mk ⟨rfl, rfl⟩
set_option maxRecDepth 100000 in
set_option maxHeartbeats 4000000 in
theorem rActWords_pc : PCp 115 [] [] (.c (.lst 1 (acWords.map encS))) [] := by
  refine fn_sound (mt := mts) tab_fits tab_mixed Tryz.func115 (by rfl) (by kernel_rfl) (by kernel_rfl) Tryz.results115 (Nat.le_of_ble_eq_true (by kernel_rfl)) ?_
  conv => whnf
  repeat' (first | ((first | refine Split.mk (fun h => ?_) (fun h => ?_) | refine CondG.mk (fun h => ?_) (fun h => ?_)) <;> (try simp only [decide_eq_true_eq, decide_eq_false_iff_not, Bool.not_eq_true', Bool.not_eq_false', beq_iff_eq, beq_eq_false_iff_ne, bne_iff_ne, bne_eq_false_iff_eq] at h) <;> (first | (exfalso; first | omega | exact h trivial) | (conv => whnf))) | (refine Ask.mk (by first | omega | (unfold roomOK; simp [cutRows]; done) | (unfold roomOK; simp [cutRows]; omega) | (simp [cutRows]; done) | (simp [cutRows]; omega)) ?_; conv => whnf) | (refine AppG.mk (by first | omega | (unfold roomOK; simp [cutRows]; done) | (unfold roomOK; simp [cutRows]; omega) | (simp [cutRows]; done) | (simp [cutRows]; omega)) ?_; conv => whnf) | (refine SliceG.fr ?_; conv => whnf) | (refine idx_at _ (by with_reducible rfl) (by first | assumption | omega) ?_; conv => whnf) | ((with_reducible refine row_map (by first | assumption | omega) ?_); conv => whnf) | ((with_reducible refine row_set (by first | assumption | omega | (simp only [List.length_set]; omega) | (simp; omega)) ?_); conv => whnf) | fail)
  all_goals first | exact .mk ⟨rfl, rfl⟩ | exact .frz 0 _ _ _ rfl (.weak [_] (.fro 0 _ _ rfl) rfl (Nat.le_refl _))
theorem acLine_eq (x : Ac) (t w : ByteArray) (hw : w = acWords.getD x.kd.toNat eB) (hk : 1 ≤ x.kd ∧ x.kd ≤ 4) :
    (x.kd = 1 → t ++ (itoaB x.mo ++ ⟨#[32]⟩ ++ x.drum ++ ⟨#[32]⟩ ++ w) ++ (⟨#[32]⟩ ++ x.ty ++ ⟨#[32]⟩ ++ itoaB x.long) ++ ⟨#[10]⟩ = t ++ acLine x) ∧
    (x.kd = 2 → t ++ (itoaB x.mo ++ ⟨#[32]⟩ ++ x.drum ++ ⟨#[32]⟩ ++ w) ++ (⟨#[32]⟩ ++ itoaB x.long) ++ ⟨#[10]⟩ = t ++ acLine x) ∧
    (x.kd = 3 → t ++ (itoaB x.mo ++ ⟨#[32]⟩ ++ x.drum ++ ⟨#[32]⟩ ++ w) ++ (⟨#[32]⟩ ++ x.of ++ ⟨#[32]⟩ ++ itoaB x.long) ++ ⟨#[10]⟩ = t ++ acLine x) ∧
    (x.kd = 4 → t ++ (itoaB x.mo ++ ⟨#[32]⟩ ++ x.drum ++ ⟨#[32]⟩ ++ w) ++ ⟨#[10]⟩ = t ++ acLine x) := by
  have q1 : qArrive = bArrive ++ ⟨#[32]⟩ := by decide
  have q2 : qCut = bCut ++ ⟨#[32]⟩ := by decide
  have q3 : qReturn = bReturn ++ ⟨#[32]⟩ := by decide
  unfold acLine wdsV
  refine ⟨fun h => ?_, fun h => ?_, fun h => ?_, fun h => ?_⟩
  · rw [h] at hw
    have hw : w = bArrive := hw
    rw [if_pos h, hw, q1]
    simp only [ByteArray.append_assoc]
  · rw [h] at hw
    have hw : w = bCut := hw
    rw [if_neg (by omega), if_pos h, hw, q2]
    simp only [ByteArray.append_assoc]
  · rw [h] at hw
    have hw : w = bReturn := hw
    rw [if_neg (by omega), if_neg (by omega), if_pos h, hw, q3]
    simp only [ByteArray.append_assoc]
  · rw [h] at hw
    have hw : w = bScrap := hw
    rw [if_neg (by omega), if_neg (by omega), if_neg (by omega), hw]
    simp only [ByteArray.append_assoc]
theorem acW_size (n : Nat) : (acWords.getD n eB).size ≤ 7 := by
  match n with
  | 0 => decide
  | 1 => decide
  | 2 => decide
  | 3 => decide
  | 4 => decide
  | n + 5 => exact (show eB.size ≤ 7 by decide)
set_option maxRecDepth 100000 in
set_option maxHeartbeats 4000000 in
theorem rAcLines_pc (s : List Ac) (hl : s.length ≤ 100) (h2 : ∀ x ∈ s, AcLn x) : PCp 43 [.c (.lst 6 (s.map encAc))] [] (.c (.str (acText s))) [] := by
  have hlm : (s.map encAc).length = s.length := List.length_map ..
  refine fn_sound (mt := mts) tab_fits tab_mixed Tryz.func43 (by rfl) (by kernel_rfl) (by kernel_rfl) Tryz.results43 (Nat.le_of_ble_eq_true (by kernel_rfl)) ?_
  conv => whnf
  refine loop_for (s.length) [] [3, 6, 7, 8] (fun k (_ : Unit) => [(3, .c (.str (catB ((s.take k).map acLine)))), (8, .c (.int .i64 (k : Int)))]) (fun k (_ : Unit) => []) (fun k (_ : Unit) => True) (()) ?_
  conv => whnf
  refine ⟨(by first | rfl | (simp; done) | (simp; rfl)), (by trivial), ?_, ?_⟩
  · intro k _ hk _
    have hxk := h2 _ (List.getElem_mem hk)
    obtain ⟨g1, g2, g3, g4, g5, g6, g7, g8, g9, g10, g11⟩ := hxk
    have hks := acText_bd (l := s.take k) (fun x hx => h2 x (List.mem_of_mem_take hx))
    unfold acText at hks
    rw [List.length_take] at hks
    have e1 : catB ((s.take (k + 1)).map acLine) = catB ((s.take k).map acLine) ++ acLine s[k] := by rw [List.take_succ_eq_append_getElem hk, List.map_append, List.map_cons, List.map_nil, catB_snoc]
    have i1 := itoa_pc s[k].mo (by omega) (by omega)
    have i2 := itoa_pc s[k].long (by omega) (by omega)
    have z1 : (⟨#[32]⟩ : ByteArray).size = 1 := rfl
    have z2 : (⟨#[10]⟩ : ByteArray).size = 1 := rfl
    generalize catB ((s.take k).map acLine) = tx at *
    have hkl : s[k].kd.toNat < acWords.length := by show _ < 5; omega
    obtain ⟨w, hw⟩ : ∃ w, acWords[s[k].kd.toNat] = w := ⟨_, rfl⟩
    have hgd : w = acWords.getD s[k].kd.toNat eB := by rw [List.getD_eq_getElem?_getD, List.getElem?_eq_getElem hkl]; exact hw.symm
    have hws : w.size ≤ 7 := by rw [hgd]; exact acW_size _
    have hE := acLine_eq s[k] tx w hgd g2
    conv => whnf
    repeat' (first | ((first | refine Split.mk (fun h => ?_) (fun h => ?_) | refine CondG.mk (fun h => ?_) (fun h => ?_)) <;> (try simp only [decide_eq_true_eq, decide_eq_false_iff_not, Bool.not_eq_true', Bool.not_eq_false', beq_iff_eq, beq_eq_false_iff_ne, bne_iff_ne, bne_eq_false_iff_eq] at h) <;> (first | (exfalso; first | omega | exact h trivial) | (conv => whnf))) | (refine CallX.mk _ _ (by first | exact i1 | exact i2 | exact rActWords_pc) ?_; conv => whnf) | (refine CallG.mk _ _ (by first | exact i1 | exact i2 | exact rActWords_pc) ?_; conv => whnf) | (refine Ask.mk (by first | omega | (unfold roomOK; simp [cutRows]; done) | (unfold roomOK; simp [cutRows]; omega) | (simp [cutRows]; done) | (simp [cutRows]; omega) | (simp only [ByteArray.size_append]; omega)) ?_; conv => whnf) | (refine AppG.mk (by first | omega | (unfold roomOK; simp [cutRows]; done) | (unfold roomOK; simp [cutRows]; omega) | (simp [cutRows]; done) | (simp [cutRows]; omega) | (simp only [ByteArray.size_append]; omega)) ?_; conv => whnf) | (refine SliceG.fr ?_; conv => whnf) | (refine idx_at _ (by with_reducible rfl) (by first | assumption | omega) ?_; conv => whnf) | ((with_reducible refine row_map (by first | assumption | omega) ?_); conv => whnf) | ((with_reducible refine row_set (by first | assumption | omega | (simp only [List.length_set]; omega) | (simp; omega)) ?_); conv => whnf) | ((refine idx_map (enc := encS) (l := acWords) s[k].kd.toNat hkl (by omega) ?_; rw [hw]); conv => whnf) | fail)
    all_goals first
      | exact count_next () hk (by rw [wrap_succ hk (by omega), hE.1 (by assumption), e1]; rfl) trivial
      | exact count_next () hk (by rw [wrap_succ hk (by omega), hE.2.1 (by assumption), e1]; rfl) trivial
      | exact count_next () hk (by rw [wrap_succ hk (by omega), hE.2.2.1 (by assumption), e1]; rfl) trivial
      | exact count_next () hk (by rw [wrap_succ hk (by omega), hE.2.2.2 (by omega), e1]; rfl) trivial
  · intro _ _
    rw [List.take_length]
    conv => whnf
    repeat' (first | ((first | refine Split.mk (fun h => ?_) (fun h => ?_) | refine CondG.mk (fun h => ?_) (fun h => ?_)) <;> (try simp only [decide_eq_true_eq, decide_eq_false_iff_not, Bool.not_eq_true', Bool.not_eq_false', beq_iff_eq, beq_eq_false_iff_ne, bne_iff_ne, bne_eq_false_iff_eq] at h) <;> (first | (exfalso; first | omega | exact h trivial) | (conv => whnf))) | (refine Ask.mk (by first | omega | (unfold roomOK; simp [cutRows]; done) | (unfold roomOK; simp [cutRows]; omega) | (simp [cutRows]; done) | (simp [cutRows]; omega)) ?_; conv => whnf) | (refine AppG.mk (by first | omega | (unfold roomOK; simp [cutRows]; done) | (unfold roomOK; simp [cutRows]; omega) | (simp [cutRows]; done) | (simp [cutRows]; omega)) ?_; conv => whnf) | (refine SliceG.fr ?_; conv => whnf) | (refine idx_at _ (by with_reducible rfl) (by first | assumption | omega) ?_; conv => whnf) | ((with_reducible refine row_map (by first | assumption | omega) ?_); conv => whnf) | ((with_reducible refine row_set (by first | assumption | omega | (simp only [List.length_set]; omega) | (simp; omega)) ?_); conv => whnf) | fail)
    exact .mk ⟨rfl, rfl⟩
end Go.Proofs.YtgomipfameinoaaGreatDoor

/- Acts read: the program and the document. -/
namespace Go.Proofs.YtgomipfameinoaaGreatDoor
set_option linter.unusedVariables false
set_option linter.unusedSimpArgs false
open Abs

theorem bd_true {W : List ByteArray} (h : decide (⟨#[]⟩ ∈ W) = true) : noneE W = false := by rw [noneE_mem, h]; rfl
theorem bd_false {W : List ByteArray} (h : decide (⟨#[]⟩ ∈ W) = false) : noneE W = true := by rw [noneE_mem, h]; rfl
theorem thr {W : List ByteArray} (h : W.length = 3) : ∃ a b c, W = [a, b, c] := by
  match W, h with
  | [a, b, c], _ => exact ⟨a, b, c, rfl⟩
theorem fou {W : List ByteArray} (h : W.length = 4) : ∃ a b c d, W = [a, b, c, d] := by
  match W, h with
  | [a, b, c, d], _ => exact ⟨a, b, c, d, rfl⟩
theorem fiv {W : List ByteArray} (h : W.length = 5) : ∃ a b c d e, W = [a, b, c, d, e] := by
  match W, h with
  | [a, b, c, d, e], _ => exact ⟨a, b, c, d, e, rfl⟩
set_option maxRecDepth 100000 in
set_option maxHeartbeats 4000000 in
theorem dReadLine_pc (line : List UInt8) (hz : line.length ≤ 999999) : PCp 117 [.c (.str (BL line))] [] (.tup [.agg (encAc (acPrg (splB 32 (BL line))).1), .c (.bool (acPrg (splB 32 (BL line))).2)]) [] := by
  have hbz := bl_size line
  have cW := split_pc 32 (BL line) (by omega)
  have hxz : ∀ x ∈ splB 32 (BL line), x.size ≤ 1000000 := fun x hx => by have := splB_memL hx; omega
  have hwl := splB_len 32 (BL line)
  generalize splB 32 (BL line) = W at *
  have hWm : (W.map encS).length = W.length := List.length_map ..
  have cC := containsS_pc ⟨#[]⟩ W (by omega)
  cases hbd : decide (⟨#[]⟩ ∈ W) with
  | true =>
    rw [hbd] at cC
    rw [show acPrg W = (ac0, false) by unfold acPrg; rw [if_pos (Or.inr (bd_true hbd))]]
    refine fn_sound (mt := mts) tab_fits tab_mixed Tryz.func117 (by rfl) (by kernel_rfl) (by kernel_rfl) Tryz.results117 (Nat.le_of_ble_eq_true (by kernel_rfl)) ?_
    conv => whnf
    repeat' (first | ((first | refine Split.mk (fun h => ?_) (fun h => ?_) | refine CondG.mk (fun h => ?_) (fun h => ?_)) <;> (try simp only [decide_eq_true_eq, decide_eq_false_iff_not, Bool.not_eq_true', Bool.not_eq_false', beq_iff_eq, beq_eq_false_iff_ne, bne_iff_ne, bne_eq_false_iff_eq] at h) <;> (first | (exfalso; first | omega | exact h trivial) | (conv => whnf))) | (refine CallX.mk _ _ (by first | exact cW | exact cC) ?_; conv => whnf) | (refine CallG.mk _ _ (by first | exact cW | exact cC) ?_; conv => whnf) | (refine Ask.mk (by first | omega | (unfold roomOK; simp [cutRows]; done) | (unfold roomOK; simp [cutRows]; omega) | (simp [cutRows]; done) | (simp [cutRows]; omega)) ?_; conv => whnf) | (refine AppG.mk (by first | omega | (unfold roomOK; simp [cutRows]; done) | (unfold roomOK; simp [cutRows]; omega) | (simp [cutRows]; done) | (simp [cutRows]; omega)) ?_; conv => whnf) | (refine SliceG.fr ?_; conv => whnf) | (refine idx_at _ (by with_reducible rfl) (by first | assumption | omega) ?_; conv => whnf) | ((with_reducible refine row_map (by first | assumption | omega) ?_); conv => whnf) | ((with_reducible refine row_set (by first | assumption | omega | (simp only [List.length_set]; omega) | (simp; omega)) ?_); conv => whnf) | fail)
    all_goals first | (cases ‹true = false›; done) | exact .mk ⟨rfl, rfl⟩
  | false =>
    rw [hbd] at cC
    have hno := bd_false hbd
    clear hbd
    by_cases h3 : W.length < 3
    · rw [show acPrg W = (ac0, false) by unfold acPrg; rw [if_pos (Or.inl h3)]]
      refine fn_sound (mt := mts) tab_fits tab_mixed Tryz.func117 (by rfl) (by kernel_rfl) (by kernel_rfl) Tryz.results117 (Nat.le_of_ble_eq_true (by kernel_rfl)) ?_
      conv => whnf
      repeat' (first | ((first | refine Split.mk (fun h => ?_) (fun h => ?_) | refine CondG.mk (fun h => ?_) (fun h => ?_)) <;> (try simp only [decide_eq_true_eq, decide_eq_false_iff_not, Bool.not_eq_true', Bool.not_eq_false', beq_iff_eq, beq_eq_false_iff_ne, bne_iff_ne, bne_eq_false_iff_eq] at h) <;> (first | (exfalso; first | omega | exact h trivial) | (conv => whnf))) | (refine CallX.mk _ _ (by first | exact cW | exact cC) ?_; conv => whnf) | (refine CallG.mk _ _ (by first | exact cW | exact cC) ?_; conv => whnf) | (refine Ask.mk (by first | omega | (unfold roomOK; simp [cutRows]; done) | (unfold roomOK; simp [cutRows]; omega) | (simp [cutRows]; done) | (simp [cutRows]; omega)) ?_; conv => whnf) | (refine AppG.mk (by first | omega | (unfold roomOK; simp [cutRows]; done) | (unfold roomOK; simp [cutRows]; omega) | (simp [cutRows]; done) | (simp [cutRows]; omega)) ?_; conv => whnf) | (refine SliceG.fr ?_; conv => whnf) | (refine idx_at _ (by with_reducible rfl) (by first | assumption | omega) ?_; conv => whnf) | ((with_reducible refine row_map (by first | assumption | omega) ?_); conv => whnf) | ((with_reducible refine row_set (by first | assumption | omega | (simp only [List.length_set]; omega) | (simp; omega)) ?_); conv => whnf) | fail)
      all_goals first | (cases ‹false = true›; done) | exact .mk ⟨rfl, rfl⟩
    · have hc : ¬ (W.length < 3 ∨ noneE W = false) := by rintro (h | h); exact h3 h; rw [hno] at h; cases h
      have cN := fun (i : Nat) (h : i < W.length) => bNumber_pc W[i] 15 (by omega) (hxz _ (List.getElem_mem h))
      have hg0 := getD0 (W := W) (i := 0) (by omega)
      have c0 := cN 0 (by omega)
      cases hn : (numP 15 W[0]).isSome with
      | false =>
        rw [hn] at c0
        rw [show acPrg W = (ac0, false) by unfold acPrg; rw [if_neg hc, if_pos (by rw [show eB = ⟨#[]⟩ from rfl, hg0, hn])]]
        refine fn_sound (mt := mts) tab_fits tab_mixed Tryz.func117 (by rfl) (by kernel_rfl) (by kernel_rfl) Tryz.results117 (Nat.le_of_ble_eq_true (by kernel_rfl)) ?_
        conv => whnf
        repeat' (first | ((first | refine Split.mk (fun h => ?_) (fun h => ?_) | refine CondG.mk (fun h => ?_) (fun h => ?_)) <;> (try simp only [decide_eq_true_eq, decide_eq_false_iff_not, Bool.not_eq_true', Bool.not_eq_false', beq_iff_eq, beq_eq_false_iff_ne, bne_iff_ne, bne_eq_false_iff_eq] at h) <;> (first | (exfalso; first | omega | exact h trivial) | (conv => whnf))) | (refine CallX.mk _ _ (by first | exact cW | exact cC | exact c0) ?_; conv => whnf) | (refine CallG.mk _ _ (by first | exact cW | exact cC | exact c0) ?_; conv => whnf) | (refine Ask.mk (by first | omega | (unfold roomOK; simp [cutRows]; done) | (unfold roomOK; simp [cutRows]; omega) | (simp [cutRows]; done) | (simp [cutRows]; omega)) ?_; conv => whnf) | (refine AppG.mk (by first | omega | (unfold roomOK; simp [cutRows]; done) | (unfold roomOK; simp [cutRows]; omega) | (simp [cutRows]; done) | (simp [cutRows]; omega)) ?_; conv => whnf) | (refine SliceG.fr ?_; conv => whnf) | (refine idx_at _ (by with_reducible rfl) (by first | assumption | omega) ?_; conv => whnf) | ((with_reducible refine row_map (by first | assumption | omega) ?_); conv => whnf) | ((with_reducible refine row_set (by first | assumption | omega | (simp only [List.length_set]; omega) | (simp; omega)) ?_); conv => whnf) | ((refine idx_map (enc := encS) (l := W) 0 (by omega) (by rfl) ?_); conv => whnf) | ((refine idx_map (enc := encS) (l := W) 1 (by omega) (by rfl) ?_); conv => whnf) | fail)
        all_goals first | (cases ‹false = true›; done) | (cases ‹true = false›; done) | exact .mk ⟨rfl, rfl⟩
      | true =>
        rw [hn] at c0
        have hn0 : ¬ (numP 15 (W.getD 0 eB)).isSome = false := by rw [show eB = ⟨#[]⟩ from rfl, hg0, hn]; decide
        have hnv : (numP 15 W[0]).getD 0 = nvP (W.getD 0 eB) := by rw [show eB = ⟨#[]⟩ from rfl, hg0]; rfl
        have hg1 : W[1] = W.getD 1 eB := (getD0 (W := W) (i := 1) (by omega)).symm
        have hg2 : W[2] = W.getD 2 eB := (getD0 (W := W) (i := 2) (by omega)).symm
        have hA : acPrg W = if W.getD 2 eB = bScrap ∧ W.length = 3 then (⟨nvP (W.getD 0 eB), 4, W.getD 1 eB, eB, eB, 0⟩, true)
            else if W.getD 2 eB = bCut ∧ W.length = 4 then (⟨nvP (W.getD 0 eB), 2, W.getD 1 eB, eB, eB, nvP (W.getD 3 eB)⟩, (numP 15 (W.getD 3 eB)).isSome)
            else if W.getD 2 eB = bArrive ∧ W.length = 5 then (⟨nvP (W.getD 0 eB), 1, W.getD 1 eB, W.getD 3 eB, eB, nvP (W.getD 4 eB)⟩, (numP 15 (W.getD 4 eB)).isSome)
            else if W.getD 2 eB = bReturn ∧ W.length = 5 then (⟨nvP (W.getD 0 eB), 3, W.getD 1 eB, eB, W.getD 3 eB, nvP (W.getD 4 eB)⟩, (numP 15 (W.getD 4 eB)).isSome)
            else (ac0, false) := by
          conv => lhs; unfold acPrg
          rw [if_neg hc, if_neg hn0]
        rw [hA]
        clear hA hn0 hc
        by_cases q4 : W.getD 2 eB = bScrap ∧ W.length = 3
        · rw [if_pos q4]
          obtain ⟨a, b, c, rfl⟩ := thr q4.2
          obtain rfl : c = bScrap := q4.1
          have hlw : (List.map encS [a, b, bScrap]).length = 3 := rfl
          refine fn_sound (mt := mts) tab_fits tab_mixed Tryz.func117 (by rfl) (by kernel_rfl) (by kernel_rfl) Tryz.results117 (Nat.le_of_ble_eq_true (by kernel_rfl)) ?_
          conv => whnf
          repeat' (first | ((first | refine Split.mk (fun h => ?_) (fun h => ?_) | refine CondG.mk (fun h => ?_) (fun h => ?_)) <;> (try simp only [decide_eq_true_eq, decide_eq_false_iff_not, Bool.not_eq_true', Bool.not_eq_false', beq_iff_eq, beq_eq_false_iff_ne, bne_iff_ne, bne_eq_false_iff_eq] at h) <;> (first | (exfalso; first | omega | exact h trivial) | (conv => whnf))) | (refine CallX.mk _ _ (by first | exact cW | exact cC | exact c0) ?_; conv => whnf) | (refine CallG.mk _ _ (by first | exact cW | exact cC | exact c0) ?_; conv => whnf) | (refine Ask.mk (by first | omega | (unfold roomOK; simp [cutRows]; done) | (unfold roomOK; simp [cutRows]; omega) | (simp [cutRows]; done) | (simp [cutRows]; omega)) ?_; conv => whnf) | (refine AppG.mk (by first | omega | (unfold roomOK; simp [cutRows]; done) | (unfold roomOK; simp [cutRows]; omega) | (simp [cutRows]; done) | (simp [cutRows]; omega)) ?_; conv => whnf) | (refine SliceG.fr ?_; conv => whnf) | (refine idx_at _ (by with_reducible rfl) (by first | assumption | omega) ?_; conv => whnf) | ((with_reducible refine row_map (by first | assumption | omega) ?_); conv => whnf) | ((with_reducible refine row_set (by first | assumption | omega | (simp only [List.length_set]; omega) | (simp; omega)) ?_); conv => whnf) | ((refine IdxG.mk _ ⟨by decide, by rfl⟩ ?_); conv => whnf) | ((refine idx_map (enc := encS) 2 (by simp) (by rfl) ?_); conv => whnf) | fail)
          all_goals first | (cases ‹false = true›; done) | (cases ‹true = false›; done) | exact .mk ⟨rfl, rfl⟩ | exact absurd (show bScrap.toList = (⟨#[115, 99, 114, 97, 112]⟩ : ByteArray).toList from rfl) (by assumption) | exact absurd (toList_inj (show bScrap.toList = (⟨#[99, 117, 116]⟩ : ByteArray).toList from (by assumption))) (by decide) | exact absurd (toList_inj (show bScrap.toList = (⟨#[97, 114, 114, 105, 118, 101]⟩ : ByteArray).toList from (by assumption))) (by decide) | exact absurd (toList_inj (show bScrap.toList = (⟨#[114, 101, 116, 117, 114, 110]⟩ : ByteArray).toList from (by assumption))) (by decide) | (exfalso; omega) | skip
        · rw [if_neg q4]
          by_cases q2 : W.getD 2 eB = bCut ∧ W.length = 4
          · rw [if_pos q2]
            obtain ⟨a, b, c, d, rfl⟩ := fou q2.2
            obtain rfl : c = bCut := q2.1
            have hlw : (List.map encS [a, b, bCut, d]).length = 4 := rfl
            have cl := cN 3 (by simp)
            refine fn_sound (mt := mts) tab_fits tab_mixed Tryz.func117 (by rfl) (by kernel_rfl) (by kernel_rfl) Tryz.results117 (Nat.le_of_ble_eq_true (by kernel_rfl)) ?_
            conv => whnf
            repeat' (first | ((first | refine Split.mk (fun h => ?_) (fun h => ?_) | refine CondG.mk (fun h => ?_) (fun h => ?_)) <;> (try simp only [decide_eq_true_eq, decide_eq_false_iff_not, Bool.not_eq_true', Bool.not_eq_false', beq_iff_eq, beq_eq_false_iff_ne, bne_iff_ne, bne_eq_false_iff_eq] at h) <;> (first | (exfalso; first | omega | exact h trivial) | (conv => whnf))) | (refine CallX.mk _ _ (by first | exact cW | exact cC | exact c0 | exact cl) ?_; conv => whnf) | (refine CallG.mk _ _ (by first | exact cW | exact cC | exact c0 | exact cl) ?_; conv => whnf) | (refine Ask.mk (by first | omega | (unfold roomOK; simp [cutRows]; done) | (unfold roomOK; simp [cutRows]; omega) | (simp [cutRows]; done) | (simp [cutRows]; omega)) ?_; conv => whnf) | (refine AppG.mk (by first | omega | (unfold roomOK; simp [cutRows]; done) | (unfold roomOK; simp [cutRows]; omega) | (simp [cutRows]; done) | (simp [cutRows]; omega)) ?_; conv => whnf) | (refine SliceG.fr ?_; conv => whnf) | (refine idx_at _ (by with_reducible rfl) (by first | assumption | omega) ?_; conv => whnf) | ((with_reducible refine row_map (by first | assumption | omega) ?_); conv => whnf) | ((with_reducible refine row_set (by first | assumption | omega | (simp only [List.length_set]; omega) | (simp; omega)) ?_); conv => whnf) | ((refine IdxG.mk _ ⟨by decide, by rfl⟩ ?_); conv => whnf) | ((refine idx_map (enc := encS) 3 (by simp) (by rfl) ?_); conv => whnf) | fail)
            all_goals first | (cases ‹false = true›; done) | (cases ‹true = false›; done) | exact .mk ⟨rfl, rfl⟩ | exact absurd (toList_inj (show bCut.toList = (⟨#[115, 99, 114, 97, 112]⟩ : ByteArray).toList from (by assumption))) (by decide) | exact absurd (show bCut.toList = (⟨#[99, 117, 116]⟩ : ByteArray).toList from rfl) (by assumption) | exact absurd (toList_inj (show bCut.toList = (⟨#[97, 114, 114, 105, 118, 101]⟩ : ByteArray).toList from (by assumption))) (by decide) | exact absurd (toList_inj (show bCut.toList = (⟨#[114, 101, 116, 117, 114, 110]⟩ : ByteArray).toList from (by assumption))) (by decide) | (exfalso; omega) | skip
          · rw [if_neg q2]
            by_cases q1 : W.getD 2 eB = bArrive ∧ W.length = 5
            · rw [if_pos q1]
              obtain ⟨a, b, c, d, e, rfl⟩ := fiv q1.2
              obtain rfl : c = bArrive := q1.1
              have hlw : (List.map encS [a, b, bArrive, d, e]).length = 5 := rfl
              have cl := cN 4 (by simp)
              refine fn_sound (mt := mts) tab_fits tab_mixed Tryz.func117 (by rfl) (by kernel_rfl) (by kernel_rfl) Tryz.results117 (Nat.le_of_ble_eq_true (by kernel_rfl)) ?_
              conv => whnf
              repeat' (first | ((first | refine Split.mk (fun h => ?_) (fun h => ?_) | refine CondG.mk (fun h => ?_) (fun h => ?_)) <;> (try simp only [decide_eq_true_eq, decide_eq_false_iff_not, Bool.not_eq_true', Bool.not_eq_false', beq_iff_eq, beq_eq_false_iff_ne, bne_iff_ne, bne_eq_false_iff_eq] at h) <;> (first | (exfalso; first | omega | exact h trivial) | (conv => whnf))) | (refine CallX.mk _ _ (by first | exact cW | exact cC | exact c0 | exact cl) ?_; conv => whnf) | (refine CallG.mk _ _ (by first | exact cW | exact cC | exact c0 | exact cl) ?_; conv => whnf) | (refine Ask.mk (by first | omega | (unfold roomOK; simp [cutRows]; done) | (unfold roomOK; simp [cutRows]; omega) | (simp [cutRows]; done) | (simp [cutRows]; omega)) ?_; conv => whnf) | (refine AppG.mk (by first | omega | (unfold roomOK; simp [cutRows]; done) | (unfold roomOK; simp [cutRows]; omega) | (simp [cutRows]; done) | (simp [cutRows]; omega)) ?_; conv => whnf) | (refine SliceG.fr ?_; conv => whnf) | (refine idx_at _ (by with_reducible rfl) (by first | assumption | omega) ?_; conv => whnf) | ((with_reducible refine row_map (by first | assumption | omega) ?_); conv => whnf) | ((with_reducible refine row_set (by first | assumption | omega | (simp only [List.length_set]; omega) | (simp; omega)) ?_); conv => whnf) | ((refine IdxG.mk _ ⟨by decide, by rfl⟩ ?_); conv => whnf) | ((refine idx_map (enc := encS) 4 (by simp) (by rfl) ?_); conv => whnf) | fail)
              all_goals first | (cases ‹false = true›; done) | (cases ‹true = false›; done) | exact .mk ⟨rfl, rfl⟩ | exact absurd (toList_inj (show bArrive.toList = (⟨#[115, 99, 114, 97, 112]⟩ : ByteArray).toList from (by assumption))) (by decide) | exact absurd (toList_inj (show bArrive.toList = (⟨#[99, 117, 116]⟩ : ByteArray).toList from (by assumption))) (by decide) | exact absurd (show bArrive.toList = (⟨#[97, 114, 114, 105, 118, 101]⟩ : ByteArray).toList from rfl) (by assumption) | exact absurd (toList_inj (show bArrive.toList = (⟨#[114, 101, 116, 117, 114, 110]⟩ : ByteArray).toList from (by assumption))) (by decide) | (exfalso; omega) | skip
            · rw [if_neg q1]
              by_cases q3 : W.getD 2 eB = bReturn ∧ W.length = 5
              · rw [if_pos q3]
                obtain ⟨a, b, c, d, e, rfl⟩ := fiv q3.2
                obtain rfl : c = bReturn := q3.1
                have hlw : (List.map encS [a, b, bReturn, d, e]).length = 5 := rfl
                have cl := cN 4 (by simp)
                refine fn_sound (mt := mts) tab_fits tab_mixed Tryz.func117 (by rfl) (by kernel_rfl) (by kernel_rfl) Tryz.results117 (Nat.le_of_ble_eq_true (by kernel_rfl)) ?_
                conv => whnf
                repeat' (first | ((first | refine Split.mk (fun h => ?_) (fun h => ?_) | refine CondG.mk (fun h => ?_) (fun h => ?_)) <;> (try simp only [decide_eq_true_eq, decide_eq_false_iff_not, Bool.not_eq_true', Bool.not_eq_false', beq_iff_eq, beq_eq_false_iff_ne, bne_iff_ne, bne_eq_false_iff_eq] at h) <;> (first | (exfalso; first | omega | exact h trivial) | (conv => whnf))) | (refine CallX.mk _ _ (by first | exact cW | exact cC | exact c0 | exact cl) ?_; conv => whnf) | (refine CallG.mk _ _ (by first | exact cW | exact cC | exact c0 | exact cl) ?_; conv => whnf) | (refine Ask.mk (by first | omega | (unfold roomOK; simp [cutRows]; done) | (unfold roomOK; simp [cutRows]; omega) | (simp [cutRows]; done) | (simp [cutRows]; omega)) ?_; conv => whnf) | (refine AppG.mk (by first | omega | (unfold roomOK; simp [cutRows]; done) | (unfold roomOK; simp [cutRows]; omega) | (simp [cutRows]; done) | (simp [cutRows]; omega)) ?_; conv => whnf) | (refine SliceG.fr ?_; conv => whnf) | (refine idx_at _ (by with_reducible rfl) (by first | assumption | omega) ?_; conv => whnf) | ((with_reducible refine row_map (by first | assumption | omega) ?_); conv => whnf) | ((with_reducible refine row_set (by first | assumption | omega | (simp only [List.length_set]; omega) | (simp; omega)) ?_); conv => whnf) | ((refine IdxG.mk _ ⟨by decide, by rfl⟩ ?_); conv => whnf) | ((refine idx_map (enc := encS) 4 (by simp) (by rfl) ?_); conv => whnf) | fail)
                all_goals first | (cases ‹false = true›; done) | (cases ‹true = false›; done) | exact .mk ⟨rfl, rfl⟩ | exact absurd (toList_inj (show bReturn.toList = (⟨#[115, 99, 114, 97, 112]⟩ : ByteArray).toList from (by assumption))) (by decide) | exact absurd (toList_inj (show bReturn.toList = (⟨#[99, 117, 116]⟩ : ByteArray).toList from (by assumption))) (by decide) | exact absurd (toList_inj (show bReturn.toList = (⟨#[97, 114, 114, 105, 118, 101]⟩ : ByteArray).toList from (by assumption))) (by decide) | exact absurd (show bReturn.toList = (⟨#[114, 101, 116, 117, 114, 110]⟩ : ByteArray).toList from rfl) (by assumption) | (exfalso; omega) | skip
              · rw [if_neg q3]
                have nq4 : ∀ (_ : W[2].toList = (⟨#[115, 99, 114, 97, 112]⟩ : ByteArray).toList) (_ : (((W.map encS).length : Nat) : Int) = 3), False := fun e1 e2 => q4 ⟨by rw [← hg2]; exact toList_inj e1, by omega⟩
                have nq2 : ∀ (_ : W[2].toList = (⟨#[99, 117, 116]⟩ : ByteArray).toList) (_ : (((W.map encS).length : Nat) : Int) = 4), False := fun e1 e2 => q2 ⟨by rw [← hg2]; exact toList_inj e1, by omega⟩
                have nq1 : ∀ (_ : W[2].toList = (⟨#[97, 114, 114, 105, 118, 101]⟩ : ByteArray).toList) (_ : (((W.map encS).length : Nat) : Int) = 5), False := fun e1 e2 => q1 ⟨by rw [← hg2]; exact toList_inj e1, by omega⟩
                have nq3 : ∀ (_ : W[2].toList = (⟨#[114, 101, 116, 117, 114, 110]⟩ : ByteArray).toList) (_ : (((W.map encS).length : Nat) : Int) = 5), False := fun e1 e2 => q3 ⟨by rw [← hg2]; exact toList_inj e1, by omega⟩
                refine fn_sound (mt := mts) tab_fits tab_mixed Tryz.func117 (by rfl) (by kernel_rfl) (by kernel_rfl) Tryz.results117 (Nat.le_of_ble_eq_true (by kernel_rfl)) ?_
                conv => whnf
                repeat' (first | ((first | refine Split.mk (fun h => ?_) (fun h => ?_) | refine CondG.mk (fun h => ?_) (fun h => ?_)) <;> (try simp only [decide_eq_true_eq, decide_eq_false_iff_not, Bool.not_eq_true', Bool.not_eq_false', beq_iff_eq, beq_eq_false_iff_ne, bne_iff_ne, bne_eq_false_iff_eq] at h) <;> (first | (exfalso; first | omega | exact h trivial) | (conv => whnf))) | (refine CallX.mk _ _ (by first | exact cW | exact cC | exact c0) ?_; conv => whnf) | (refine CallG.mk _ _ (by first | exact cW | exact cC | exact c0) ?_; conv => whnf) | (refine Ask.mk (by first | omega | (unfold roomOK; simp [cutRows]; done) | (unfold roomOK; simp [cutRows]; omega) | (simp [cutRows]; done) | (simp [cutRows]; omega)) ?_; conv => whnf) | (refine AppG.mk (by first | omega | (unfold roomOK; simp [cutRows]; done) | (unfold roomOK; simp [cutRows]; omega) | (simp [cutRows]; done) | (simp [cutRows]; omega)) ?_; conv => whnf) | (refine SliceG.fr ?_; conv => whnf) | (refine idx_at _ (by with_reducible rfl) (by first | assumption | omega) ?_; conv => whnf) | ((with_reducible refine row_map (by first | assumption | omega) ?_); conv => whnf) | ((with_reducible refine row_set (by first | assumption | omega | (simp only [List.length_set]; omega) | (simp; omega)) ?_); conv => whnf) | ((refine idx_map (enc := encS) (l := W) 0 (by omega) (by rfl) ?_); conv => whnf) | ((refine idx_map (enc := encS) (l := W) 1 (by omega) (by rfl) ?_); conv => whnf) | ((refine idx_map (enc := encS) (l := W) 2 (by omega) (by rfl) ?_); conv => whnf) | fail)
                all_goals first | (cases ‹false = true›; done) | (cases ‹true = false›; done) | exact .mk ⟨rfl, rfl⟩ | exact (nq4 (by assumption) (by assumption)).elim | exact (nq2 (by assumption) (by assumption)).elim | exact (nq1 (by assumption) (by assumption)).elim | exact (nq3 (by assumption) (by assumption)).elim | (exfalso; omega) | skip
set_option maxRecDepth 100000 in
set_option maxHeartbeats 4000000 in
theorem dRead1A_pc : Rdr 79 6 encAc 116 (acSt acPrg) := by
  intro st line hst hz
  have c1 := dReadLine_pc line hz
  have hsm : (st.map encAc).length = st.length := List.length_map ..
  unfold acSt
  generalize acPrg (splB 32 (BL line)) = q at *
  obtain ⟨x, ok⟩ := q
  refine fn_soundX (mt := mts) tab_fits tab_mixed Tryz.func116 (by rfl) (by kernel_rfl) (by kernel_rfl) Tryz.results116 (Nat.le_of_ble_eq_true (by kernel_rfl)) ?_
  conv => whnf
  repeat' (first | ((first | refine Split.mk (fun h => ?_) (fun h => ?_) | refine CondG.mk (fun h => ?_) (fun h => ?_)) <;> (try simp only [decide_eq_true_eq, decide_eq_false_iff_not, Bool.not_eq_true', Bool.not_eq_false', beq_iff_eq, beq_eq_false_iff_ne, bne_iff_ne, bne_eq_false_iff_eq] at h) <;> (first | (exfalso; first | omega | exact h trivial) | (conv => whnf))) | (refine CallX.mk _ _ (by first | exact c1) ?_; conv => whnf) | (refine CallG.mk _ _ (by first | exact c1) ?_; conv => whnf) | (refine Ask.mk (by first | omega | (unfold roomOK; simp [cutRows]; done) | (unfold roomOK; simp [cutRows]; omega) | (simp [cutRows]; done) | (simp [cutRows]; omega)) ?_; conv => whnf) | (refine AppG.mk (by first | omega | (unfold roomOK; simp [cutRows]; done) | (unfold roomOK; simp [cutRows]; omega) | (simp [cutRows]; done) | (simp [cutRows]; omega)) ?_; conv => whnf) | (refine SliceG.fr ?_; conv => whnf) | (refine idx_at _ (by with_reducible rfl) (by first | assumption | omega) ?_; conv => whnf) | ((with_reducible refine row_map (by first | assumption | omega) ?_); conv => whnf) | ((with_reducible refine row_set (by first | assumption | omega | (simp only [List.length_set]; omega) | (simp; omega)) ?_); conv => whnf) | fail)
  exact FinX.mk _ _ ⟨rfl, .inr rfl⟩ (.mk ⟨rfl, by rw [List.map_append]; rfl⟩)
end Go.Proofs.YtgomipfameinoaaGreatDoor

/- Sums over both stores. -/
namespace Go.Proofs.YtgomipfameinoaaGreatDoor
set_option linter.unusedVariables false
set_option linter.unusedSimpArgs false
open Abs

end Go.Proofs.YtgomipfameinoaaGreatDoor

/- The least stock: both say the same. -/
namespace Go.Proofs.YtgomipfameinoaaGreatDoor
set_option linter.unusedVariables false
set_option linter.unusedSimpArgs false
open Abs

end Go.Proofs.YtgomipfameinoaaGreatDoor

/- Lists of acts joined: slices.Grow by the kit's contract, slices.Concat. -/
namespace Go.Proofs.YtgomipfameinoaaGreatDoor
set_option linter.unusedVariables false
set_option linter.unusedSimpArgs false
open Abs

end Go.Proofs.YtgomipfameinoaaGreatDoor

/- The store at a moment, by the program. -/
namespace Go.Proofs.YtgomipfameinoaaGreatDoor
set_option linter.unusedVariables false
set_option linter.unusedSimpArgs false
open Abs

end Go.Proofs.YtgomipfameinoaaGreatDoor

/- What is in the store at a moment: the lists. -/
namespace Go.Proofs.YtgomipfameinoaaGreatDoor
set_option linter.unusedVariables false
set_option linter.unusedSimpArgs false
open Abs

theorem PCx.mono {P : Program} {f : Nat} {args : List S} {objs : List Ob} {Q Q' : S → List Ob → Prop} (h : PCx P f args objs Q) (hi : ∀ r os, Q r os → Q' r os) : PCx P f args objs Q' :=
  ⟨h.fn, fun F φ w cs a b c => (h.calls F φ w cs a b c).mono (by rintro e w' ⟨c, F', φ', r, os, hQ, rest⟩; exact ⟨c, F', φ', r, os, hi _ _ hQ, rest⟩)⟩
end Go.Proofs.YtgomipfameinoaaGreatDoor

/- What is in the store at a moment, by the document; sums by type in maps; pairs. -/
namespace Go.Proofs.YtgomipfameinoaaGreatDoor
set_option linter.unusedVariables false
set_option linter.unusedSimpArgs false
open Abs

/-- the names of what is more than nothing, in order -/
def Keys (g : ByteArray → Int) (ns : List ByteArray) : Prop := Rise id ns ∧ ∀ n, n ∈ ns ↔ 0 < g n
theorem Keys.one {g g' : ByteArray → Int} {a b : List ByteArray} (h : Keys g a) (h' : Keys g' b) (e : ∀ n, g n = g' n) : a = b :=
  rise_ext h.1 h'.1 (fun x => by rw [h.2, h'.2, e])
end Go.Proofs.YtgomipfameinoaaGreatDoor

/- Pairs of names and numbers out of a map. -/
namespace Go.Proofs.YtgomipfameinoaaGreatDoor
set_option linter.unusedVariables false
set_option linter.unusedSimpArgs false
open Abs

end Go.Proofs.YtgomipfameinoaaGreatDoor

/- Totals by type, by the program and by the document. -/
namespace Go.Proofs.YtgomipfameinoaaGreatDoor
set_option linter.unusedVariables false
set_option linter.unusedSimpArgs false
open Abs

end Go.Proofs.YtgomipfameinoaaGreatDoor

/- Lists of acts joined and sorted: by the program and by the document. -/
namespace Go.Proofs.YtgomipfameinoaaGreatDoor
set_option linter.unusedVariables false
set_option linter.unusedSimpArgs false
open Abs

end Go.Proofs.YtgomipfameinoaaGreatDoor

/- MergedActs: the document's list. -/
namespace Go.Proofs.YtgomipfameinoaaGreatDoor
set_option linter.unusedVariables false
set_option linter.unusedSimpArgs false
open Abs

end Go.Proofs.YtgomipfameinoaaGreatDoor

/- Refused acts, by the program. -/
namespace Go.Proofs.YtgomipfameinoaaGreatDoor
set_option linter.unusedVariables false
set_option linter.unusedSimpArgs false
open Abs

end Go.Proofs.YtgomipfameinoaaGreatDoor

/- Lists that are the same. -/
namespace Go.Proofs.YtgomipfameinoaaGreatDoor
set_option linter.unusedVariables false
set_option linter.unusedSimpArgs false
open Abs

end Go.Proofs.YtgomipfameinoaaGreatDoor

/- Both sides of what is refused, in stock, and in all. -/
namespace Go.Proofs.YtgomipfameinoaaGreatDoor
set_option linter.unusedVariables false
set_option linter.unusedSimpArgs false
open Abs

end Go.Proofs.YtgomipfameinoaaGreatDoor

/- Plain: the least stock of a window is that of some moment. -/
namespace Go.Proofs.YtgomipfameinoaaGreatDoor
set_option linter.unusedVariables false
set_option linter.unusedSimpArgs false
open Abs

theorem of_same {l : List Ac} (kind : ByteArray) {s t : Int} (h : cntAt l s = cntAt l t) : ofR l kind s = ofR l kind t := by unfold ofR; rw [h]
end Go.Proofs.YtgomipfameinoaaGreatDoor

/- Ducts are found; cables are checked. -/
namespace Go.Proofs.YtgomipfameinoaaGreatDoor
set_option linter.unusedVariables false
set_option linter.unusedSimpArgs false
open Abs

end Go.Proofs.YtgomipfameinoaaGreatDoor

/- Cables in ducts: checked by the program. -/
namespace Go.Proofs.YtgomipfameinoaaGreatDoor
set_option linter.unusedVariables false
set_option linter.unusedSimpArgs false
open Abs

structure CntOk (m : SM ByteArray Int) (ks : List ByteArray) : Prop where
  ok : m.ok
  cnt : ∀ k, (m.get k).getD 0 = (ks.count k : Nat)
theorem CntOk.nil : CntOk SM.nil [] := ⟨SM.ok_nil, fun k => by rw [SM.get_nil]; rfl⟩
theorem CntOk.push {m : SM ByteArray Int} {ks : List ByteArray} (h : CntOk m ks) (k : ByteArray) : CntOk (m.put k ((ks.count k + 1 : Nat) : Int)) (ks ++ [k]) := by
  refine ⟨h.ok.put _ _, fun x => ?_⟩
  rw [SM.get_put, List.count_append]
  by_cases e : k = x
  · subst e; simp
  · have : [k].count x = 0 := by rw [List.count_eq_zero]; simpa using fun h => e h.symm
    rw [if_neg e, h.cnt, this]; rfl
end Go.Proofs.YtgomipfameinoaaGreatDoor

/- Cables in ducts: by the document; what lies in a duct. -/
namespace Go.Proofs.YtgomipfameinoaaGreatDoor
set_option linter.unusedVariables false
set_option linter.unusedSimpArgs false
open Abs

end Go.Proofs.YtgomipfameinoaaGreatDoor

/- What lies in a duct, and what has room there. -/
namespace Go.Proofs.YtgomipfameinoaaGreatDoor
set_option linter.unusedVariables false
set_option linter.unusedSimpArgs false
open Abs

end Go.Proofs.YtgomipfameinoaaGreatDoor

/- Ducts: fills, rooms, how many more. -/
namespace Go.Proofs.YtgomipfameinoaaGreatDoor
set_option linter.unusedVariables false
set_option linter.unusedSimpArgs false
open Abs

end Go.Proofs.YtgomipfameinoaaGreatDoor

/- Ducts: what has room, how many more. -/
namespace Go.Proofs.YtgomipfameinoaaGreatDoor
set_option linter.unusedVariables false
set_option linter.unusedSimpArgs false
open Abs

end Go.Proofs.YtgomipfameinoaaGreatDoor

/- A plant of one cable, by constants. -/
namespace Go.Proofs.YtgomipfameinoaaGreatDoor
set_option linter.unusedVariables false
set_option linter.unusedSimpArgs false
open Abs

abbrev cA : V := .str ⟨#[97]⟩
abbrev cC : V := .str ⟨#[99]⟩
abbrev n1 : V := .int .i64 1
end Go.Proofs.YtgomipfameinoaaGreatDoor

/- A trace of one step, by constants. -/
namespace Go.Proofs.YtgomipfameinoaaGreatDoor
set_option linter.unusedVariables false
set_option linter.unusedSimpArgs false
open Abs

/-! the run that goes on is told -/
end Go.Proofs.YtgomipfameinoaaGreatDoor

/- The law of repairs. -/
namespace Go.Proofs.YtgomipfameinoaaGreatDoor
set_option linter.unusedVariables false
set_option linter.unusedSimpArgs false
open Abs

end Go.Proofs.YtgomipfameinoaaGreatDoor

/- The packages do something. -/
namespace Go.Proofs.YtgomipfameinoaaGreatDoor
set_option linter.unusedVariables false
set_option linter.unusedSimpArgs false
open Abs

end Go.Proofs.YtgomipfameinoaaGreatDoor

/- The law of the least stock. -/
namespace Go.Proofs.YtgomipfameinoaaGreatDoor
set_option linter.unusedVariables false
set_option linter.unusedSimpArgs false
open Abs

set_option maxRecDepth 100000 in
set_option maxHeartbeats 4000000 in
theorem rRightA_pc {L : List Int} {p : Int} (hst : StOk L p) (hp : p ≤ 700000000) (n : Nat) (hn : n ≤ 14) :
    PCq 48 [.c (.ptr 0 0), .c (.int .i64 n)] [stO L p] fun r os => ∃ (l : List Ac) (p' : Int), r = .c (.lst 6 (l.map encAc)) ∧ os = [stO L p'] ∧ actsFault l = 0 ∧ l.length ≤ n ∧ (∀ x ∈ l, x.drum ∈ names6) ∧ p ≤ p' ∧ p' ≤ p + 2000 := by
  have hS : ∀ x : Int, p ≤ x → x ≤ p + 3000 → StOk L x := fun x h3 h4 => ⟨hst.1, by have := hst.2.1; omega, by omega⟩
  refine fn_soundX (mt := mts) tab_fits tab_mixed Tryz.func48 (by rfl) (by kernel_rfl) (by kernel_rfl) Tryz.results48 (Nat.le_of_ble_eq_true (by kernel_rfl)) ?_
  conv => whnf
  refine loop_for (8) [] [0, 1, 6] (fun k (q : Int) => [(6, .c (.int .i64 (k : Int)))]) (fun k (q : Int) => [(0, stO L q)]) (fun k (q : Int) => p ≤ q ∧ q ≤ p + 200 * k) (p) ?_
  conv => whnf
  refine ⟨(by first | rfl | (simp; done) | (simp; rfl)), ?_, ?_, ?_⟩
  · exact ⟨by omega, by omega⟩
  · intro k q hk ⟨h1, h2⟩
    conv => whnf
    repeat' (first | ((first | refine Split.mk (fun h => ?_) (fun h => ?_) | refine CondG.mk (fun h => ?_) (fun h => ?_)) <;> (try simp only [decide_eq_true_eq, decide_eq_false_iff_not, Bool.not_eq_true', Bool.not_eq_false', beq_iff_eq, beq_eq_false_iff_ne, bne_iff_ne, bne_eq_false_iff_eq] at h) <;> (first | (exfalso; first | omega | exact h trivial) | (conv => whnf))) | (refine Ask.mk (by first | omega | (unfold roomOK; simp [cutRows]; done) | (unfold roomOK; simp [cutRows]; omega) | (simp [cutRows]; done) | (simp [cutRows]; omega)) ?_; conv => whnf) | (refine AppG.mk (by first | omega | (unfold roomOK; simp [cutRows]; done) | (unfold roomOK; simp [cutRows]; omega) | (simp [cutRows]; done) | (simp [cutRows]; omega)) ?_; conv => whnf) | (refine SliceG.fr ?_; conv => whnf) | (refine idx_at _ (by with_reducible rfl) (by first | assumption | omega) ?_; conv => whnf) | ((with_reducible refine row_map (by first | assumption | omega) ?_); conv => whnf) | ((with_reducible refine row_set (by first | assumption | omega | (simp only [List.length_set]; omega) | (simp; omega)) ?_); conv => whnf) | fail)
    refine .ex _ (acts_pc (hS q (by omega) (by omega)) (by omega) n hn) ?_
    rintro _ _ ⟨l, p', rfl, rfl, g1, g2, g3, g4⟩
    conv => whnf
    repeat' (first | ((first | refine Split.mk (fun h => ?_) (fun h => ?_) | refine CondG.mk (fun h => ?_) (fun h => ?_)) <;> (try simp only [decide_eq_true_eq, decide_eq_false_iff_not, Bool.not_eq_true', Bool.not_eq_false', beq_iff_eq, beq_eq_false_iff_ne, bne_iff_ne, bne_eq_false_iff_eq] at h) <;> (first | (exfalso; first | omega | exact h trivial) | (conv => whnf))) | (refine CallX.mk _ _ (by first | exact rActs_pc l) ?_; conv => whnf) | (refine CallG.mk _ _ (by first | exact rActs_pc l) ?_; conv => whnf) | (refine Ask.mk (by first | omega | (unfold roomOK; simp [cutRows]; done) | (unfold roomOK; simp [cutRows]; omega) | (simp [cutRows]; done) | (simp [cutRows]; omega)) ?_; conv => whnf) | (refine AppG.mk (by first | omega | (unfold roomOK; simp [cutRows]; done) | (unfold roomOK; simp [cutRows]; omega) | (simp [cutRows]; done) | (simp [cutRows]; omega)) ?_; conv => whnf) | (refine SliceG.fr ?_; conv => whnf) | (refine idx_at _ (by with_reducible rfl) (by first | assumption | omega) ?_; conv => whnf) | ((with_reducible refine row_map (by first | assumption | omega) ?_); conv => whnf) | ((with_reducible refine row_set (by first | assumption | omega | (simp only [List.length_set]; omega) | (simp; omega)) ?_); conv => whnf) | fail)
    · exact .mk _ _ ⟨l, p', rfl, rfl, by assumption, g1, g4, by omega, by omega⟩ (.mk ⟨rfl, rfl⟩)
    · exact count_next p' hk (by rw [wrap_succ hk (by omega)]; rfl) ⟨by omega, by omega⟩
  · intro q ⟨h1, h2⟩
    conv => whnf
    repeat' (first | ((first | refine Split.mk (fun h => ?_) (fun h => ?_) | refine CondG.mk (fun h => ?_) (fun h => ?_)) <;> (try simp only [decide_eq_true_eq, decide_eq_false_iff_not, Bool.not_eq_true', Bool.not_eq_false', beq_iff_eq, beq_eq_false_iff_ne, bne_iff_ne, bne_eq_false_iff_eq] at h) <;> (first | (exfalso; first | omega | exact h trivial) | (conv => whnf))) | (refine Ask.mk (by first | omega | (unfold roomOK; simp [cutRows]; done) | (unfold roomOK; simp [cutRows]; omega) | (simp [cutRows]; done) | (simp [cutRows]; omega)) ?_; conv => whnf) | (refine AppG.mk (by first | omega | (unfold roomOK; simp [cutRows]; done) | (unfold roomOK; simp [cutRows]; omega) | (simp [cutRows]; done) | (simp [cutRows]; omega)) ?_; conv => whnf) | (refine SliceG.fr ?_; conv => whnf) | (refine idx_at _ (by with_reducible rfl) (by first | assumption | omega) ?_; conv => whnf) | ((with_reducible refine row_map (by first | assumption | omega) ?_); conv => whnf) | ((with_reducible refine row_set (by first | assumption | omega | (simp only [List.length_set]; omega) | (simp; omega)) ?_); conv => whnf) | fail)
    refine .mk _ _ ⟨[], q, rfl, rfl, by decide, by simp, by simp, by omega, by omega⟩ (.weak [] (.nil 6) rfl (Nat.le_refl _))
end Go.Proofs.YtgomipfameinoaaGreatDoor

/- Acts read by the document; the law of the texts of acts. -/
namespace Go.Proofs.YtgomipfameinoaaGreatDoor
set_option linter.unusedVariables false
set_option linter.unusedSimpArgs false
open Abs

theorem acKd_cases (s : ByteArray) : acKd s = -1 ∨ acKd s = 0 ∨ acKd s = 1 ∨ acKd s = 2 ∨ acKd s = 3 ∨ acKd s = 4 := by
  rw [acKd_of]
  (repeat' split) <;> omega
set_option maxRecDepth 100000 in
set_option maxHeartbeats 4000000 in
theorem rActIn_pc (line : List UInt8) (hz : line.length ≤ 999999) : PCp 119 [.c (.str (BL line))] [] (.tup [.agg (encAc (acDoc (splB 32 (BL line))).1), .c (.bool (acDoc (splB 32 (BL line))).2)]) [] := by
  have hbz := bl_size line
  have cW := rWords_pc (BL line) (by omega)
  have hxz : ∀ x ∈ splB 32 (BL line), x.size ≤ 1000000 := fun x hx => by have := splB_memL hx; omega
  have hwl := splB_len 32 (BL line)
  generalize splB 32 (BL line) = W at *
  have hWm : (W.map encS).length = W.length := List.length_map ..
  cases hno : noneE W with
  | false =>
    rw [hno] at cW
    rw [show acDoc W = (ac0, false) by unfold acDoc; rw [if_pos (Or.inr hno)]]
    refine fn_sound (mt := mts) tab_fits tab_mixed Tryz.func119 (by rfl) (by kernel_rfl) (by kernel_rfl) Tryz.results119 (Nat.le_of_ble_eq_true (by kernel_rfl)) ?_
    conv => whnf
    repeat' (first | ((first | refine Split.mk (fun h => ?_) (fun h => ?_) | refine CondG.mk (fun h => ?_) (fun h => ?_)) <;> (try simp only [decide_eq_true_eq, decide_eq_false_iff_not, Bool.not_eq_true', Bool.not_eq_false', beq_iff_eq, beq_eq_false_iff_ne, bne_iff_ne, bne_eq_false_iff_eq] at h) <;> (first | (exfalso; first | omega | exact h trivial) | (conv => whnf))) | (refine CallX.mk _ _ (by first | exact cW) ?_; conv => whnf) | (refine CallG.mk _ _ (by first | exact cW) ?_; conv => whnf) | (refine Ask.mk (by first | omega | (unfold roomOK; simp [cutRows]; done) | (unfold roomOK; simp [cutRows]; omega) | (simp [cutRows]; done) | (simp [cutRows]; omega)) ?_; conv => whnf) | (refine AppG.mk (by first | omega | (unfold roomOK; simp [cutRows]; done) | (unfold roomOK; simp [cutRows]; omega) | (simp [cutRows]; done) | (simp [cutRows]; omega)) ?_; conv => whnf) | (refine SliceG.fr ?_; conv => whnf) | (refine idx_at _ (by with_reducible rfl) (by first | assumption | omega) ?_; conv => whnf) | ((with_reducible refine row_map (by first | assumption | omega) ?_); conv => whnf) | ((with_reducible refine row_set (by first | assumption | omega | (simp only [List.length_set]; omega) | (simp; omega)) ?_); conv => whnf) | fail)
    all_goals first | (cases ‹true = false›; done) | (cases ‹false = true›; done) | exact .mk ⟨rfl, rfl⟩
  | true =>
    rw [hno] at cW
    by_cases h3 : W.length < 3
    · rw [show acDoc W = (ac0, false) by unfold acDoc; rw [if_pos (Or.inl h3)]]
      refine fn_sound (mt := mts) tab_fits tab_mixed Tryz.func119 (by rfl) (by kernel_rfl) (by kernel_rfl) Tryz.results119 (Nat.le_of_ble_eq_true (by kernel_rfl)) ?_
      conv => whnf
      repeat' (first | ((first | refine Split.mk (fun h => ?_) (fun h => ?_) | refine CondG.mk (fun h => ?_) (fun h => ?_)) <;> (try simp only [decide_eq_true_eq, decide_eq_false_iff_not, Bool.not_eq_true', Bool.not_eq_false', beq_iff_eq, beq_eq_false_iff_ne, bne_iff_ne, bne_eq_false_iff_eq] at h) <;> (first | (exfalso; first | omega | exact h trivial) | (conv => whnf))) | (refine CallX.mk _ _ (by first | exact cW) ?_; conv => whnf) | (refine CallG.mk _ _ (by first | exact cW) ?_; conv => whnf) | (refine Ask.mk (by first | omega | (unfold roomOK; simp [cutRows]; done) | (unfold roomOK; simp [cutRows]; omega) | (simp [cutRows]; done) | (simp [cutRows]; omega)) ?_; conv => whnf) | (refine AppG.mk (by first | omega | (unfold roomOK; simp [cutRows]; done) | (unfold roomOK; simp [cutRows]; omega) | (simp [cutRows]; done) | (simp [cutRows]; omega)) ?_; conv => whnf) | (refine SliceG.fr ?_; conv => whnf) | (refine idx_at _ (by with_reducible rfl) (by first | assumption | omega) ?_; conv => whnf) | ((with_reducible refine row_map (by first | assumption | omega) ?_); conv => whnf) | ((with_reducible refine row_set (by first | assumption | omega | (simp only [List.length_set]; omega) | (simp; omega)) ?_); conv => whnf) | fail)
      all_goals first | (cases ‹true = false›; done) | (cases ‹false = true›; done) | exact .mk ⟨rfl, rfl⟩
    · have hc : ¬ (W.length < 3 ∨ noneE W = false) := by rintro (h | h); exact h3 h; rw [hno] at h; cases h
      have cN := fun (i : Nat) (h : i < W.length) => rNumber_pc W[i] 15 (by omega) (hxz _ (List.getElem_mem h))
      have hg0 : W.getD 0 eB = W[0] := getD0 (W := W) (i := 0) (by omega)
      have hg1 : W.getD 1 eB = W[1] := getD0 (W := W) (i := 1) (by omega)
      have hg2 : W.getD 2 eB = W[2] := getD0 (W := W) (i := 2) (by omega)
      have c0 := cN 0 (by omega)
      have cI := indexS_pc W[2] acWords (by decide)
      have hK : idxP (fun x => decide (W[2] = x)) acWords = acKd W[2] := rfl
      rw [hK] at cI
      cases hn : (numP 15 W[0]).isSome with
      | false =>
        rw [hn] at c0
        rw [show acDoc W = (⟨nvD W[0], acKd W[2], W[1], eB, eB, 0⟩, false) by unfold acDoc; rw [if_neg hc, hg0, hg1, hg2, if_pos (Or.inl hn)]]
        generalize acKd W[2] = kd at *
        refine fn_sound (mt := mts) tab_fits tab_mixed Tryz.func119 (by rfl) (by kernel_rfl) (by kernel_rfl) Tryz.results119 (Nat.le_of_ble_eq_true (by kernel_rfl)) ?_
        conv => whnf
        repeat' (first | ((first | refine Split.mk (fun h => ?_) (fun h => ?_) | refine CondG.mk (fun h => ?_) (fun h => ?_)) <;> (try simp only [decide_eq_true_eq, decide_eq_false_iff_not, Bool.not_eq_true', Bool.not_eq_false', beq_iff_eq, beq_eq_false_iff_ne, bne_iff_ne, bne_eq_false_iff_eq] at h) <;> (first | (exfalso; first | omega | exact h trivial) | (conv => whnf))) | (refine CallX.mk _ _ (by first | exact cW | exact c0 | exact rActWords_pc | exact cI) ?_; conv => whnf) | (refine CallG.mk _ _ (by first | exact cW | exact c0 | exact rActWords_pc | exact cI) ?_; conv => whnf) | (refine Ask.mk (by first | omega | (unfold roomOK; simp [cutRows]; done) | (unfold roomOK; simp [cutRows]; omega) | (simp [cutRows]; done) | (simp [cutRows]; omega)) ?_; conv => whnf) | (refine AppG.mk (by first | omega | (unfold roomOK; simp [cutRows]; done) | (unfold roomOK; simp [cutRows]; omega) | (simp [cutRows]; done) | (simp [cutRows]; omega)) ?_; conv => whnf) | (refine SliceG.fr ?_; conv => whnf) | (refine idx_at _ (by with_reducible rfl) (by first | assumption | omega) ?_; conv => whnf) | ((with_reducible refine row_map (by first | assumption | omega) ?_); conv => whnf) | ((with_reducible refine row_set (by first | assumption | omega | (simp only [List.length_set]; omega) | (simp; omega)) ?_); conv => whnf) | ((refine idx_map (enc := encS) (l := W) 0 (by omega) (by rfl) ?_); conv => whnf) | ((refine idx_map (enc := encS) (l := W) 1 (by omega) (by rfl) ?_); conv => whnf) | ((refine idx_map (enc := encS) (l := W) 2 (by omega) (by rfl) ?_); conv => whnf) | fail)
        all_goals first | (cases ‹true = false›; done) | (cases ‹false = true›; done) | exact .mk ⟨rfl, rfl⟩
      | true =>
        rw [hn] at c0
        have hnf : ¬ (numP 15 W[0]).isSome = false := by rw [hn]; decide
        rcases acKd_cases W[2] with hk | hk | hk | hk | hk | hk
        · rw [hk] at cI
          rw [show acDoc W = (⟨nvD W[0], -1, W[1], eB, eB, 0⟩, false) by unfold acDoc; rw [if_neg hc, hg0, hg1, hg2, hk, if_pos (Or.inr (Or.inl (by decide)))]]
          refine fn_sound (mt := mts) tab_fits tab_mixed Tryz.func119 (by rfl) (by kernel_rfl) (by kernel_rfl) Tryz.results119 (Nat.le_of_ble_eq_true (by kernel_rfl)) ?_
          conv => whnf
          repeat' (first | ((first | refine Split.mk (fun h => ?_) (fun h => ?_) | refine CondG.mk (fun h => ?_) (fun h => ?_)) <;> (try simp only [decide_eq_true_eq, decide_eq_false_iff_not, Bool.not_eq_true', Bool.not_eq_false', beq_iff_eq, beq_eq_false_iff_ne, bne_iff_ne, bne_eq_false_iff_eq] at h) <;> (first | (exfalso; first | omega | exact h trivial) | (conv => whnf))) | (refine CallX.mk _ _ (by first | exact cW | exact c0 | exact rActWords_pc | exact cI) ?_; conv => whnf) | (refine CallG.mk _ _ (by first | exact cW | exact c0 | exact rActWords_pc | exact cI) ?_; conv => whnf) | (refine Ask.mk (by first | omega | (unfold roomOK; simp [cutRows]; done) | (unfold roomOK; simp [cutRows]; omega) | (simp [cutRows]; done) | (simp [cutRows]; omega)) ?_; conv => whnf) | (refine AppG.mk (by first | omega | (unfold roomOK; simp [cutRows]; done) | (unfold roomOK; simp [cutRows]; omega) | (simp [cutRows]; done) | (simp [cutRows]; omega)) ?_; conv => whnf) | (refine SliceG.fr ?_; conv => whnf) | (refine idx_at _ (by with_reducible rfl) (by first | assumption | omega) ?_; conv => whnf) | ((with_reducible refine row_map (by first | assumption | omega) ?_); conv => whnf) | ((with_reducible refine row_set (by first | assumption | omega | (simp only [List.length_set]; omega) | (simp; omega)) ?_); conv => whnf) | ((refine idx_map (enc := encS) (l := W) 0 (by omega) (by rfl) ?_); conv => whnf) | ((refine idx_map (enc := encS) (l := W) 1 (by omega) (by rfl) ?_); conv => whnf) | ((refine idx_map (enc := encS) (l := W) 2 (by omega) (by rfl) ?_); conv => whnf) | fail)
          all_goals first | (cases ‹true = false›; done) | (cases ‹false = true›; done) | exact .mk ⟨rfl, rfl⟩ | (exfalso; omega) | skip
        · rw [hk] at cI
          rw [show acDoc W = (⟨nvD W[0], 0, W[1], eB, eB, 0⟩, false) by unfold acDoc; rw [if_neg hc, hg0, hg1, hg2, hk, if_pos (Or.inr (Or.inl (by decide)))]]
          refine fn_sound (mt := mts) tab_fits tab_mixed Tryz.func119 (by rfl) (by kernel_rfl) (by kernel_rfl) Tryz.results119 (Nat.le_of_ble_eq_true (by kernel_rfl)) ?_
          conv => whnf
          repeat' (first | ((first | refine Split.mk (fun h => ?_) (fun h => ?_) | refine CondG.mk (fun h => ?_) (fun h => ?_)) <;> (try simp only [decide_eq_true_eq, decide_eq_false_iff_not, Bool.not_eq_true', Bool.not_eq_false', beq_iff_eq, beq_eq_false_iff_ne, bne_iff_ne, bne_eq_false_iff_eq] at h) <;> (first | (exfalso; first | omega | exact h trivial) | (conv => whnf))) | (refine CallX.mk _ _ (by first | exact cW | exact c0 | exact rActWords_pc | exact cI) ?_; conv => whnf) | (refine CallG.mk _ _ (by first | exact cW | exact c0 | exact rActWords_pc | exact cI) ?_; conv => whnf) | (refine Ask.mk (by first | omega | (unfold roomOK; simp [cutRows]; done) | (unfold roomOK; simp [cutRows]; omega) | (simp [cutRows]; done) | (simp [cutRows]; omega)) ?_; conv => whnf) | (refine AppG.mk (by first | omega | (unfold roomOK; simp [cutRows]; done) | (unfold roomOK; simp [cutRows]; omega) | (simp [cutRows]; done) | (simp [cutRows]; omega)) ?_; conv => whnf) | (refine SliceG.fr ?_; conv => whnf) | (refine idx_at _ (by with_reducible rfl) (by first | assumption | omega) ?_; conv => whnf) | ((with_reducible refine row_map (by first | assumption | omega) ?_); conv => whnf) | ((with_reducible refine row_set (by first | assumption | omega | (simp only [List.length_set]; omega) | (simp; omega)) ?_); conv => whnf) | ((refine idx_map (enc := encS) (l := W) 0 (by omega) (by rfl) ?_); conv => whnf) | ((refine idx_map (enc := encS) (l := W) 1 (by omega) (by rfl) ?_); conv => whnf) | ((refine idx_map (enc := encS) (l := W) 2 (by omega) (by rfl) ?_); conv => whnf) | fail)
          all_goals first | (cases ‹true = false›; done) | (cases ‹false = true›; done) | exact .mk ⟨rfl, rfl⟩ | (exfalso; omega) | skip
        · rw [hk] at cI
          have hln : acLens.getD (1 : Int).toNat 0 = 5 := rfl
          by_cases hl : W.length = 5
          · obtain ⟨a, b, c, d, e, rfl⟩ := fiv hl
            have hlw : (List.map encS [a, b, c, d, e]).length = 5 := rfl
            have hcd : ¬ ((numP 15 [a, b, c, d, e][0]).isSome = false ∨ (1 : Int) < 1 ∨ (([a, b, c, d, e].length : Nat) : Int) ≠ acLens.getD (1 : Int).toNat 0) := by
              rintro (h | h | h)
              · exact hnf h
              · omega
              · exact h rfl
            have cl := cN 4 (by simp)
            rw [show acDoc [a, b, c, d, e] = (⟨nvD a, 1, b, d, eB, nvD e⟩, (numP 15 e).isSome) by unfold acDoc; rw [if_neg hc, hg0, hg1, hg2, hk, if_neg hcd, if_neg (by decide)]; rfl]
            refine fn_sound (mt := mts) tab_fits tab_mixed Tryz.func119 (by rfl) (by kernel_rfl) (by kernel_rfl) Tryz.results119 (Nat.le_of_ble_eq_true (by kernel_rfl)) ?_
            conv => whnf
            repeat' (first | ((first | refine Split.mk (fun h => ?_) (fun h => ?_) | refine CondG.mk (fun h => ?_) (fun h => ?_)) <;> (try simp only [decide_eq_true_eq, decide_eq_false_iff_not, Bool.not_eq_true', Bool.not_eq_false', beq_iff_eq, beq_eq_false_iff_ne, bne_iff_ne, bne_eq_false_iff_eq] at h) <;> (first | (exfalso; first | omega | exact h trivial) | (conv => whnf))) | (refine CallX.mk _ _ (by first | exact cW | exact c0 | exact rActWords_pc | exact cI | exact cl) ?_; conv => whnf) | (refine CallG.mk _ _ (by first | exact cW | exact c0 | exact rActWords_pc | exact cI | exact cl) ?_; conv => whnf) | (refine Ask.mk (by first | omega | (unfold roomOK; simp [cutRows]; done) | (unfold roomOK; simp [cutRows]; omega) | (simp [cutRows]; done) | (simp [cutRows]; omega)) ?_; conv => whnf) | (refine AppG.mk (by first | omega | (unfold roomOK; simp [cutRows]; done) | (unfold roomOK; simp [cutRows]; omega) | (simp [cutRows]; done) | (simp [cutRows]; omega)) ?_; conv => whnf) | (refine SliceG.fr ?_; conv => whnf) | (refine idx_at _ (by with_reducible rfl) (by first | assumption | omega) ?_; conv => whnf) | ((with_reducible refine row_map (by first | assumption | omega) ?_); conv => whnf) | ((with_reducible refine row_set (by first | assumption | omega | (simp only [List.length_set]; omega) | (simp; omega)) ?_); conv => whnf) | ((refine IdxG.mk _ ⟨by decide, by rfl⟩ ?_); conv => whnf) | ((refine RowG.mk _ (by rfl) ?_); conv => whnf) | ((refine idx_map (enc := encS) 4 (by simp) (by rfl) ?_); conv => whnf) | fail)
            all_goals first | (cases ‹true = false›; done) | (cases ‹false = true›; done) | exact .mk ⟨rfl, rfl⟩ | (exfalso; omega) | skip
          · rw [show acDoc W = (⟨nvD W[0], 1, W[1], eB, eB, 0⟩, false) by unfold acDoc; rw [if_neg hc, hg0, hg1, hg2, hk, if_pos (Or.inr (Or.inr (by rw [hln]; omega)))]]
            refine fn_sound (mt := mts) tab_fits tab_mixed Tryz.func119 (by rfl) (by kernel_rfl) (by kernel_rfl) Tryz.results119 (Nat.le_of_ble_eq_true (by kernel_rfl)) ?_
            conv => whnf
            repeat' (first | ((first | refine Split.mk (fun h => ?_) (fun h => ?_) | refine CondG.mk (fun h => ?_) (fun h => ?_)) <;> (try simp only [decide_eq_true_eq, decide_eq_false_iff_not, Bool.not_eq_true', Bool.not_eq_false', beq_iff_eq, beq_eq_false_iff_ne, bne_iff_ne, bne_eq_false_iff_eq] at h) <;> (first | (exfalso; first | omega | exact h trivial) | (conv => whnf))) | (refine CallX.mk _ _ (by first | exact cW | exact c0 | exact rActWords_pc | exact cI) ?_; conv => whnf) | (refine CallG.mk _ _ (by first | exact cW | exact c0 | exact rActWords_pc | exact cI) ?_; conv => whnf) | (refine Ask.mk (by first | omega | (unfold roomOK; simp [cutRows]; done) | (unfold roomOK; simp [cutRows]; omega) | (simp [cutRows]; done) | (simp [cutRows]; omega)) ?_; conv => whnf) | (refine AppG.mk (by first | omega | (unfold roomOK; simp [cutRows]; done) | (unfold roomOK; simp [cutRows]; omega) | (simp [cutRows]; done) | (simp [cutRows]; omega)) ?_; conv => whnf) | (refine SliceG.fr ?_; conv => whnf) | (refine idx_at _ (by with_reducible rfl) (by first | assumption | omega) ?_; conv => whnf) | ((with_reducible refine row_map (by first | assumption | omega) ?_); conv => whnf) | ((with_reducible refine row_set (by first | assumption | omega | (simp only [List.length_set]; omega) | (simp; omega)) ?_); conv => whnf) | ((refine idx_map (enc := encS) (l := W) 0 (by omega) (by rfl) ?_); conv => whnf) | ((refine idx_map (enc := encS) (l := W) 1 (by omega) (by rfl) ?_); conv => whnf) | ((refine idx_map (enc := encS) (l := W) 2 (by omega) (by rfl) ?_); conv => whnf) | ((refine IdxG.mk _ ⟨by decide, by rfl⟩ ?_); conv => whnf) | ((refine RowG.mk _ (by rfl) ?_); conv => whnf) | fail)
            all_goals first | (cases ‹true = false›; done) | (cases ‹false = true›; done) | exact .mk ⟨rfl, rfl⟩ | (exfalso; omega) | skip
        · rw [hk] at cI
          have hln : acLens.getD (2 : Int).toNat 0 = 4 := rfl
          by_cases hl : W.length = 4
          · obtain ⟨a, b, c, d, rfl⟩ := fou hl
            have hlw : (List.map encS [a, b, c, d]).length = 4 := rfl
            have hcd : ¬ ((numP 15 [a, b, c, d][0]).isSome = false ∨ (2 : Int) < 1 ∨ (([a, b, c, d].length : Nat) : Int) ≠ acLens.getD (2 : Int).toNat 0) := by
              rintro (h | h | h)
              · exact hnf h
              · omega
              · exact h rfl
            have cl := cN 3 (by simp)
            rw [show acDoc [a, b, c, d] = (⟨nvD a, 2, b, eB, eB, nvD d⟩, (numP 15 d).isSome) by unfold acDoc; rw [if_neg hc, hg0, hg1, hg2, hk, if_neg hcd, if_neg (by decide)]; rfl]
            refine fn_sound (mt := mts) tab_fits tab_mixed Tryz.func119 (by rfl) (by kernel_rfl) (by kernel_rfl) Tryz.results119 (Nat.le_of_ble_eq_true (by kernel_rfl)) ?_
            conv => whnf
            repeat' (first | ((first | refine Split.mk (fun h => ?_) (fun h => ?_) | refine CondG.mk (fun h => ?_) (fun h => ?_)) <;> (try simp only [decide_eq_true_eq, decide_eq_false_iff_not, Bool.not_eq_true', Bool.not_eq_false', beq_iff_eq, beq_eq_false_iff_ne, bne_iff_ne, bne_eq_false_iff_eq] at h) <;> (first | (exfalso; first | omega | exact h trivial) | (conv => whnf))) | (refine CallX.mk _ _ (by first | exact cW | exact c0 | exact rActWords_pc | exact cI | exact cl) ?_; conv => whnf) | (refine CallG.mk _ _ (by first | exact cW | exact c0 | exact rActWords_pc | exact cI | exact cl) ?_; conv => whnf) | (refine Ask.mk (by first | omega | (unfold roomOK; simp [cutRows]; done) | (unfold roomOK; simp [cutRows]; omega) | (simp [cutRows]; done) | (simp [cutRows]; omega)) ?_; conv => whnf) | (refine AppG.mk (by first | omega | (unfold roomOK; simp [cutRows]; done) | (unfold roomOK; simp [cutRows]; omega) | (simp [cutRows]; done) | (simp [cutRows]; omega)) ?_; conv => whnf) | (refine SliceG.fr ?_; conv => whnf) | (refine idx_at _ (by with_reducible rfl) (by first | assumption | omega) ?_; conv => whnf) | ((with_reducible refine row_map (by first | assumption | omega) ?_); conv => whnf) | ((with_reducible refine row_set (by first | assumption | omega | (simp only [List.length_set]; omega) | (simp; omega)) ?_); conv => whnf) | ((refine IdxG.mk _ ⟨by decide, by rfl⟩ ?_); conv => whnf) | ((refine RowG.mk _ (by rfl) ?_); conv => whnf) | ((refine idx_map (enc := encS) 3 (by simp) (by rfl) ?_); conv => whnf) | fail)
            all_goals first | (cases ‹true = false›; done) | (cases ‹false = true›; done) | exact .mk ⟨rfl, rfl⟩ | (exfalso; omega) | skip
          · rw [show acDoc W = (⟨nvD W[0], 2, W[1], eB, eB, 0⟩, false) by unfold acDoc; rw [if_neg hc, hg0, hg1, hg2, hk, if_pos (Or.inr (Or.inr (by rw [hln]; omega)))]]
            refine fn_sound (mt := mts) tab_fits tab_mixed Tryz.func119 (by rfl) (by kernel_rfl) (by kernel_rfl) Tryz.results119 (Nat.le_of_ble_eq_true (by kernel_rfl)) ?_
            conv => whnf
            repeat' (first | ((first | refine Split.mk (fun h => ?_) (fun h => ?_) | refine CondG.mk (fun h => ?_) (fun h => ?_)) <;> (try simp only [decide_eq_true_eq, decide_eq_false_iff_not, Bool.not_eq_true', Bool.not_eq_false', beq_iff_eq, beq_eq_false_iff_ne, bne_iff_ne, bne_eq_false_iff_eq] at h) <;> (first | (exfalso; first | omega | exact h trivial) | (conv => whnf))) | (refine CallX.mk _ _ (by first | exact cW | exact c0 | exact rActWords_pc | exact cI) ?_; conv => whnf) | (refine CallG.mk _ _ (by first | exact cW | exact c0 | exact rActWords_pc | exact cI) ?_; conv => whnf) | (refine Ask.mk (by first | omega | (unfold roomOK; simp [cutRows]; done) | (unfold roomOK; simp [cutRows]; omega) | (simp [cutRows]; done) | (simp [cutRows]; omega)) ?_; conv => whnf) | (refine AppG.mk (by first | omega | (unfold roomOK; simp [cutRows]; done) | (unfold roomOK; simp [cutRows]; omega) | (simp [cutRows]; done) | (simp [cutRows]; omega)) ?_; conv => whnf) | (refine SliceG.fr ?_; conv => whnf) | (refine idx_at _ (by with_reducible rfl) (by first | assumption | omega) ?_; conv => whnf) | ((with_reducible refine row_map (by first | assumption | omega) ?_); conv => whnf) | ((with_reducible refine row_set (by first | assumption | omega | (simp only [List.length_set]; omega) | (simp; omega)) ?_); conv => whnf) | ((refine idx_map (enc := encS) (l := W) 0 (by omega) (by rfl) ?_); conv => whnf) | ((refine idx_map (enc := encS) (l := W) 1 (by omega) (by rfl) ?_); conv => whnf) | ((refine idx_map (enc := encS) (l := W) 2 (by omega) (by rfl) ?_); conv => whnf) | ((refine IdxG.mk _ ⟨by decide, by rfl⟩ ?_); conv => whnf) | ((refine RowG.mk _ (by rfl) ?_); conv => whnf) | fail)
            all_goals first | (cases ‹true = false›; done) | (cases ‹false = true›; done) | exact .mk ⟨rfl, rfl⟩ | (exfalso; omega) | skip
        · rw [hk] at cI
          have hln : acLens.getD (3 : Int).toNat 0 = 5 := rfl
          by_cases hl : W.length = 5
          · obtain ⟨a, b, c, d, e, rfl⟩ := fiv hl
            have hlw : (List.map encS [a, b, c, d, e]).length = 5 := rfl
            have hcd : ¬ ((numP 15 [a, b, c, d, e][0]).isSome = false ∨ (3 : Int) < 1 ∨ (([a, b, c, d, e].length : Nat) : Int) ≠ acLens.getD (3 : Int).toNat 0) := by
              rintro (h | h | h)
              · exact hnf h
              · omega
              · exact h rfl
            have cl := cN 4 (by simp)
            rw [show acDoc [a, b, c, d, e] = (⟨nvD a, 3, b, eB, d, nvD e⟩, (numP 15 e).isSome) by unfold acDoc; rw [if_neg hc, hg0, hg1, hg2, hk, if_neg hcd, if_neg (by decide)]; rfl]
            refine fn_sound (mt := mts) tab_fits tab_mixed Tryz.func119 (by rfl) (by kernel_rfl) (by kernel_rfl) Tryz.results119 (Nat.le_of_ble_eq_true (by kernel_rfl)) ?_
            conv => whnf
            repeat' (first | ((first | refine Split.mk (fun h => ?_) (fun h => ?_) | refine CondG.mk (fun h => ?_) (fun h => ?_)) <;> (try simp only [decide_eq_true_eq, decide_eq_false_iff_not, Bool.not_eq_true', Bool.not_eq_false', beq_iff_eq, beq_eq_false_iff_ne, bne_iff_ne, bne_eq_false_iff_eq] at h) <;> (first | (exfalso; first | omega | exact h trivial) | (conv => whnf))) | (refine CallX.mk _ _ (by first | exact cW | exact c0 | exact rActWords_pc | exact cI | exact cl) ?_; conv => whnf) | (refine CallG.mk _ _ (by first | exact cW | exact c0 | exact rActWords_pc | exact cI | exact cl) ?_; conv => whnf) | (refine Ask.mk (by first | omega | (unfold roomOK; simp [cutRows]; done) | (unfold roomOK; simp [cutRows]; omega) | (simp [cutRows]; done) | (simp [cutRows]; omega)) ?_; conv => whnf) | (refine AppG.mk (by first | omega | (unfold roomOK; simp [cutRows]; done) | (unfold roomOK; simp [cutRows]; omega) | (simp [cutRows]; done) | (simp [cutRows]; omega)) ?_; conv => whnf) | (refine SliceG.fr ?_; conv => whnf) | (refine idx_at _ (by with_reducible rfl) (by first | assumption | omega) ?_; conv => whnf) | ((with_reducible refine row_map (by first | assumption | omega) ?_); conv => whnf) | ((with_reducible refine row_set (by first | assumption | omega | (simp only [List.length_set]; omega) | (simp; omega)) ?_); conv => whnf) | ((refine IdxG.mk _ ⟨by decide, by rfl⟩ ?_); conv => whnf) | ((refine RowG.mk _ (by rfl) ?_); conv => whnf) | ((refine idx_map (enc := encS) 4 (by simp) (by rfl) ?_); conv => whnf) | fail)
            all_goals first | (cases ‹true = false›; done) | (cases ‹false = true›; done) | exact .mk ⟨rfl, rfl⟩ | (exfalso; omega) | skip
          · rw [show acDoc W = (⟨nvD W[0], 3, W[1], eB, eB, 0⟩, false) by unfold acDoc; rw [if_neg hc, hg0, hg1, hg2, hk, if_pos (Or.inr (Or.inr (by rw [hln]; omega)))]]
            refine fn_sound (mt := mts) tab_fits tab_mixed Tryz.func119 (by rfl) (by kernel_rfl) (by kernel_rfl) Tryz.results119 (Nat.le_of_ble_eq_true (by kernel_rfl)) ?_
            conv => whnf
            repeat' (first | ((first | refine Split.mk (fun h => ?_) (fun h => ?_) | refine CondG.mk (fun h => ?_) (fun h => ?_)) <;> (try simp only [decide_eq_true_eq, decide_eq_false_iff_not, Bool.not_eq_true', Bool.not_eq_false', beq_iff_eq, beq_eq_false_iff_ne, bne_iff_ne, bne_eq_false_iff_eq] at h) <;> (first | (exfalso; first | omega | exact h trivial) | (conv => whnf))) | (refine CallX.mk _ _ (by first | exact cW | exact c0 | exact rActWords_pc | exact cI) ?_; conv => whnf) | (refine CallG.mk _ _ (by first | exact cW | exact c0 | exact rActWords_pc | exact cI) ?_; conv => whnf) | (refine Ask.mk (by first | omega | (unfold roomOK; simp [cutRows]; done) | (unfold roomOK; simp [cutRows]; omega) | (simp [cutRows]; done) | (simp [cutRows]; omega)) ?_; conv => whnf) | (refine AppG.mk (by first | omega | (unfold roomOK; simp [cutRows]; done) | (unfold roomOK; simp [cutRows]; omega) | (simp [cutRows]; done) | (simp [cutRows]; omega)) ?_; conv => whnf) | (refine SliceG.fr ?_; conv => whnf) | (refine idx_at _ (by with_reducible rfl) (by first | assumption | omega) ?_; conv => whnf) | ((with_reducible refine row_map (by first | assumption | omega) ?_); conv => whnf) | ((with_reducible refine row_set (by first | assumption | omega | (simp only [List.length_set]; omega) | (simp; omega)) ?_); conv => whnf) | ((refine idx_map (enc := encS) (l := W) 0 (by omega) (by rfl) ?_); conv => whnf) | ((refine idx_map (enc := encS) (l := W) 1 (by omega) (by rfl) ?_); conv => whnf) | ((refine idx_map (enc := encS) (l := W) 2 (by omega) (by rfl) ?_); conv => whnf) | ((refine IdxG.mk _ ⟨by decide, by rfl⟩ ?_); conv => whnf) | ((refine RowG.mk _ (by rfl) ?_); conv => whnf) | fail)
            all_goals first | (cases ‹true = false›; done) | (cases ‹false = true›; done) | exact .mk ⟨rfl, rfl⟩ | (exfalso; omega) | skip
        · rw [hk] at cI
          have hln : acLens.getD (4 : Int).toNat 0 = 3 := rfl
          by_cases hl : W.length = 3
          · obtain ⟨a, b, c, rfl⟩ := thr hl
            have hlw : (List.map encS [a, b, c]).length = 3 := rfl
            have hcd : ¬ ((numP 15 [a, b, c][0]).isSome = false ∨ (4 : Int) < 1 ∨ (([a, b, c].length : Nat) : Int) ≠ acLens.getD (4 : Int).toNat 0) := by
              rintro (h | h | h)
              · exact hnf h
              · omega
              · exact h rfl
            rw [show acDoc [a, b, c] = (⟨nvD a, 4, b, eB, eB, 0⟩, true) by unfold acDoc; rw [if_neg hc, hg0, hg1, hg2, hk, if_neg hcd, if_pos rfl]; rfl]
            refine fn_sound (mt := mts) tab_fits tab_mixed Tryz.func119 (by rfl) (by kernel_rfl) (by kernel_rfl) Tryz.results119 (Nat.le_of_ble_eq_true (by kernel_rfl)) ?_
            conv => whnf
            repeat' (first | ((first | refine Split.mk (fun h => ?_) (fun h => ?_) | refine CondG.mk (fun h => ?_) (fun h => ?_)) <;> (try simp only [decide_eq_true_eq, decide_eq_false_iff_not, Bool.not_eq_true', Bool.not_eq_false', beq_iff_eq, beq_eq_false_iff_ne, bne_iff_ne, bne_eq_false_iff_eq] at h) <;> (first | (exfalso; first | omega | exact h trivial) | (conv => whnf))) | (refine CallX.mk _ _ (by first | exact cW | exact c0 | exact rActWords_pc | exact cI) ?_; conv => whnf) | (refine CallG.mk _ _ (by first | exact cW | exact c0 | exact rActWords_pc | exact cI) ?_; conv => whnf) | (refine Ask.mk (by first | omega | (unfold roomOK; simp [cutRows]; done) | (unfold roomOK; simp [cutRows]; omega) | (simp [cutRows]; done) | (simp [cutRows]; omega)) ?_; conv => whnf) | (refine AppG.mk (by first | omega | (unfold roomOK; simp [cutRows]; done) | (unfold roomOK; simp [cutRows]; omega) | (simp [cutRows]; done) | (simp [cutRows]; omega)) ?_; conv => whnf) | (refine SliceG.fr ?_; conv => whnf) | (refine idx_at _ (by with_reducible rfl) (by first | assumption | omega) ?_; conv => whnf) | ((with_reducible refine row_map (by first | assumption | omega) ?_); conv => whnf) | ((with_reducible refine row_set (by first | assumption | omega | (simp only [List.length_set]; omega) | (simp; omega)) ?_); conv => whnf) | ((refine IdxG.mk _ ⟨by decide, by rfl⟩ ?_); conv => whnf) | ((refine RowG.mk _ (by rfl) ?_); conv => whnf) | ((refine idx_map (enc := encS) 2 (by simp) (by rfl) ?_); conv => whnf) | fail)
            all_goals first | (cases ‹true = false›; done) | (cases ‹false = true›; done) | exact .mk ⟨rfl, rfl⟩ | (exfalso; omega) | skip
          · rw [show acDoc W = (⟨nvD W[0], 4, W[1], eB, eB, 0⟩, false) by unfold acDoc; rw [if_neg hc, hg0, hg1, hg2, hk, if_pos (Or.inr (Or.inr (by rw [hln]; omega)))]]
            refine fn_sound (mt := mts) tab_fits tab_mixed Tryz.func119 (by rfl) (by kernel_rfl) (by kernel_rfl) Tryz.results119 (Nat.le_of_ble_eq_true (by kernel_rfl)) ?_
            conv => whnf
            repeat' (first | ((first | refine Split.mk (fun h => ?_) (fun h => ?_) | refine CondG.mk (fun h => ?_) (fun h => ?_)) <;> (try simp only [decide_eq_true_eq, decide_eq_false_iff_not, Bool.not_eq_true', Bool.not_eq_false', beq_iff_eq, beq_eq_false_iff_ne, bne_iff_ne, bne_eq_false_iff_eq] at h) <;> (first | (exfalso; first | omega | exact h trivial) | (conv => whnf))) | (refine CallX.mk _ _ (by first | exact cW | exact c0 | exact rActWords_pc | exact cI) ?_; conv => whnf) | (refine CallG.mk _ _ (by first | exact cW | exact c0 | exact rActWords_pc | exact cI) ?_; conv => whnf) | (refine Ask.mk (by first | omega | (unfold roomOK; simp [cutRows]; done) | (unfold roomOK; simp [cutRows]; omega) | (simp [cutRows]; done) | (simp [cutRows]; omega)) ?_; conv => whnf) | (refine AppG.mk (by first | omega | (unfold roomOK; simp [cutRows]; done) | (unfold roomOK; simp [cutRows]; omega) | (simp [cutRows]; done) | (simp [cutRows]; omega)) ?_; conv => whnf) | (refine SliceG.fr ?_; conv => whnf) | (refine idx_at _ (by with_reducible rfl) (by first | assumption | omega) ?_; conv => whnf) | ((with_reducible refine row_map (by first | assumption | omega) ?_); conv => whnf) | ((with_reducible refine row_set (by first | assumption | omega | (simp only [List.length_set]; omega) | (simp; omega)) ?_); conv => whnf) | ((refine idx_map (enc := encS) (l := W) 0 (by omega) (by rfl) ?_); conv => whnf) | ((refine idx_map (enc := encS) (l := W) 1 (by omega) (by rfl) ?_); conv => whnf) | ((refine idx_map (enc := encS) (l := W) 2 (by omega) (by rfl) ?_); conv => whnf) | ((refine IdxG.mk _ ⟨by decide, by rfl⟩ ?_); conv => whnf) | ((refine RowG.mk _ (by rfl) ?_); conv => whnf) | fail)
            all_goals first | (cases ‹true = false›; done) | (cases ‹false = true›; done) | exact .mk ⟨rfl, rfl⟩ | (exfalso; omega) | skip
set_option maxRecDepth 100000 in
set_option maxHeartbeats 4000000 in
theorem rRead1A_pc : Rdr 79 6 encAc 118 (acSt acDoc) := by
  intro st line hst hz
  have c1 := rActIn_pc line hz
  have hsm : (st.map encAc).length = st.length := List.length_map ..
  unfold acSt
  generalize acDoc (splB 32 (BL line)) = q at *
  obtain ⟨x, ok⟩ := q
  refine fn_soundX (mt := mts) tab_fits tab_mixed Tryz.func118 (by rfl) (by kernel_rfl) (by kernel_rfl) Tryz.results118 (Nat.le_of_ble_eq_true (by kernel_rfl)) ?_
  conv => whnf
  repeat' (first | ((first | refine Split.mk (fun h => ?_) (fun h => ?_) | refine CondG.mk (fun h => ?_) (fun h => ?_)) <;> (try simp only [decide_eq_true_eq, decide_eq_false_iff_not, Bool.not_eq_true', Bool.not_eq_false', beq_iff_eq, beq_eq_false_iff_ne, bne_iff_ne, bne_eq_false_iff_eq] at h) <;> (first | (exfalso; first | omega | exact h trivial) | (conv => whnf))) | (refine CallX.mk _ _ (by first | exact c1) ?_; conv => whnf) | (refine CallG.mk _ _ (by first | exact c1) ?_; conv => whnf) | (refine Ask.mk (by first | omega | (unfold roomOK; simp [cutRows]; done) | (unfold roomOK; simp [cutRows]; omega) | (simp [cutRows]; done) | (simp [cutRows]; omega)) ?_; conv => whnf) | (refine AppG.mk (by first | omega | (unfold roomOK; simp [cutRows]; done) | (unfold roomOK; simp [cutRows]; omega) | (simp [cutRows]; done) | (simp [cutRows]; omega)) ?_; conv => whnf) | (refine SliceG.fr ?_; conv => whnf) | (refine idx_at _ (by with_reducible rfl) (by first | assumption | omega) ?_; conv => whnf) | ((with_reducible refine row_map (by first | assumption | omega) ?_); conv => whnf) | ((with_reducible refine row_set (by first | assumption | omega | (simp only [List.length_set]; omega) | (simp; omega)) ?_); conv => whnf) | fail)
  exact FinX.mk _ _ ⟨rfl, .inr rfl⟩ (.mk ⟨rfl, by rw [List.map_append]; rfl⟩)
def acRd (tl : List UInt8) : Rd (List Ac) := readV (acSt acPrg) [] actsFault tl
theorem acRd_two (tl : List UInt8) : readV (acSt acDoc) [] actsFault tl = acRd tl :=
  (readV_two _ _ [] actsFault (fun s x => (ac_two (splB 32 (BL x))).1) (fun s x h => by unfold acSt at *; rw [(ac_two (splB 32 (BL x))).2 h]) tl).symm
set_option maxRecDepth 100000 in
set_option maxHeartbeats 4000000 in
theorem dReadA_pc (tl : List UInt8) (ht : tl.length ≤ 900000) : PCp 44 [.c (.str (BL tl))] [] (.tup [.c (.lst 6 ((acRd tl).v.map encAc)), .c (.int .i64 ((acRd tl).i : Nat)), .c (.int .i64 (acRd tl).e)]) [] := by
  have hbz := bl_size tl
  by_cases h0 : 200000 < tl.length
  · rw [show acRd tl = ⟨[], 0, 2⟩ by unfold acRd readV; rw [if_pos h0]]
    refine fn_sound (mt := mts) tab_fits tab_mixed Tryz.func44 (by rfl) (by kernel_rfl) (by kernel_rfl) Tryz.results44 (Nat.le_of_ble_eq_true (by kernel_rfl)) ?_
    conv => whnf
    repeat' (first | ((first | refine Split.mk (fun h => ?_) (fun h => ?_) | refine CondG.mk (fun h => ?_) (fun h => ?_)) <;> (try simp only [decide_eq_true_eq, decide_eq_false_iff_not, Bool.not_eq_true', Bool.not_eq_false', beq_iff_eq, beq_eq_false_iff_ne, bne_iff_ne, bne_eq_false_iff_eq] at h) <;> (first | (exfalso; first | omega | exact h trivial) | (conv => whnf))) | (refine Ask.mk (by first | omega | (unfold roomOK; simp [cutRows]; done) | (unfold roomOK; simp [cutRows]; omega) | (simp [cutRows]; done) | (simp [cutRows]; omega)) ?_; conv => whnf) | (refine AppG.mk (by first | omega | (unfold roomOK; simp [cutRows]; done) | (unfold roomOK; simp [cutRows]; omega) | (simp [cutRows]; done) | (simp [cutRows]; omega)) ?_; conv => whnf) | (refine SliceG.fr ?_; conv => whnf) | (refine idx_at _ (by with_reducible rfl) (by first | assumption | omega) ?_; conv => whnf) | ((with_reducible refine row_map (by first | assumption | omega) ?_); conv => whnf) | ((with_reducible refine row_set (by first | assumption | omega | (simp only [List.length_set]; omega) | (simp; omega)) ?_); conv => whnf) | fail)
    exact fin3n
  · have cE := each1_pc 79 6 encAc 116 (acSt acPrg) (acSt_grow acPrg) dRead1A_pc tl (by omega)
    have hlen := goL_len (acSt acPrg) (acSt_grow acPrg) tl
    obtain ⟨q, hq⟩ : ∃ q, goL (acSt acPrg) [] 0 (spl 10 tl) = q := ⟨_, rfl⟩
    rw [hq] at cE hlen
    obtain ⟨st, i, ok⟩ := q
    simp only at cE hlen
    obtain ⟨r1, r2, r3⟩ := readV_cases (fault := actsFault) hq h0
    have cF := checkActs_pc st
    unfold acRd
    cases ok with
    | false =>
      rw [r1 rfl]
      refine fn_sound (mt := mts) tab_fits tab_mixed Tryz.func44 (by rfl) (by kernel_rfl) (by kernel_rfl) Tryz.results44 (Nat.le_of_ble_eq_true (by kernel_rfl)) ?_
      conv => whnf
      repeat' (first | ((first | refine Split.mk (fun h => ?_) (fun h => ?_) | refine CondG.mk (fun h => ?_) (fun h => ?_)) <;> (try simp only [decide_eq_true_eq, decide_eq_false_iff_not, Bool.not_eq_true', Bool.not_eq_false', beq_iff_eq, beq_eq_false_iff_ne, bne_iff_ne, bne_eq_false_iff_eq] at h) <;> (first | (exfalso; first | omega | exact h trivial) | (conv => whnf))) | (refine CallX.mk _ _ (by first | exact cE) ?_; conv => whnf) | (refine CallG.mk _ _ (by first | exact cE) ?_; conv => whnf) | (refine Ask.mk (by first | omega | (unfold roomOK; simp [cutRows]; done) | (unfold roomOK; simp [cutRows]; omega) | (simp [cutRows]; done) | (simp [cutRows]; omega)) ?_; conv => whnf) | (refine AppG.mk (by first | omega | (unfold roomOK; simp [cutRows]; done) | (unfold roomOK; simp [cutRows]; omega) | (simp [cutRows]; done) | (simp [cutRows]; omega)) ?_; conv => whnf) | (refine SliceG.fr ?_; conv => whnf) | (refine idx_at _ (by with_reducible rfl) (by first | assumption | omega) ?_; conv => whnf) | ((with_reducible refine row_map (by first | assumption | omega) ?_); conv => whnf) | ((with_reducible refine row_set (by first | assumption | omega | (simp only [List.length_set]; omega) | (simp; omega)) ?_); conv => whnf) | fail)
      all_goals first | (cases ‹true = false›; done) | (cases ‹false = true›; done) | skip
      exact fin3n
    | true =>
      by_cases hf : actsFault st = 0
      · rw [r3 rfl hf]
        rw [hf] at cF
        refine fn_sound (mt := mts) tab_fits tab_mixed Tryz.func44 (by rfl) (by kernel_rfl) (by kernel_rfl) Tryz.results44 (Nat.le_of_ble_eq_true (by kernel_rfl)) ?_
        conv => whnf
        repeat' (first | ((first | refine Split.mk (fun h => ?_) (fun h => ?_) | refine CondG.mk (fun h => ?_) (fun h => ?_)) <;> (try simp only [decide_eq_true_eq, decide_eq_false_iff_not, Bool.not_eq_true', Bool.not_eq_false', beq_iff_eq, beq_eq_false_iff_ne, bne_iff_ne, bne_eq_false_iff_eq] at h) <;> (first | (exfalso; first | omega | exact h trivial) | (conv => whnf))) | (refine CallX.mk _ _ (by first | exact cE | exact cF) ?_; conv => whnf) | (refine CallG.mk _ _ (by first | exact cE | exact cF) ?_; conv => whnf) | (refine Ask.mk (by first | omega | (unfold roomOK; simp [cutRows]; done) | (unfold roomOK; simp [cutRows]; omega) | (simp [cutRows]; done) | (simp [cutRows]; omega)) ?_; conv => whnf) | (refine AppG.mk (by first | omega | (unfold roomOK; simp [cutRows]; done) | (unfold roomOK; simp [cutRows]; omega) | (simp [cutRows]; done) | (simp [cutRows]; omega)) ?_; conv => whnf) | (refine SliceG.fr ?_; conv => whnf) | (refine idx_at _ (by with_reducible rfl) (by first | assumption | omega) ?_; conv => whnf) | ((with_reducible refine row_map (by first | assumption | omega) ?_); conv => whnf) | ((with_reducible refine row_set (by first | assumption | omega | (simp only [List.length_set]; omega) | (simp; omega)) ?_); conv => whnf) | fail)
        all_goals first | (cases ‹true = false›; done) | (cases ‹false = true›; done) | skip
        exact fin3f rfl
      · rw [r2 rfl hf]
        refine fn_sound (mt := mts) tab_fits tab_mixed Tryz.func44 (by rfl) (by kernel_rfl) (by kernel_rfl) Tryz.results44 (Nat.le_of_ble_eq_true (by kernel_rfl)) ?_
        conv => whnf
        repeat' (first | ((first | refine Split.mk (fun h => ?_) (fun h => ?_) | refine CondG.mk (fun h => ?_) (fun h => ?_)) <;> (try simp only [decide_eq_true_eq, decide_eq_false_iff_not, Bool.not_eq_true', Bool.not_eq_false', beq_iff_eq, beq_eq_false_iff_ne, bne_iff_ne, bne_eq_false_iff_eq] at h) <;> (first | (exfalso; first | omega | exact h trivial) | (conv => whnf))) | (refine CallX.mk _ _ (by first | exact cE | exact cF) ?_; conv => whnf) | (refine CallG.mk _ _ (by first | exact cE | exact cF) ?_; conv => whnf) | (refine Ask.mk (by first | omega | (unfold roomOK; simp [cutRows]; done) | (unfold roomOK; simp [cutRows]; omega) | (simp [cutRows]; done) | (simp [cutRows]; omega)) ?_; conv => whnf) | (refine AppG.mk (by first | omega | (unfold roomOK; simp [cutRows]; done) | (unfold roomOK; simp [cutRows]; omega) | (simp [cutRows]; done) | (simp [cutRows]; omega)) ?_; conv => whnf) | (refine SliceG.fr ?_; conv => whnf) | (refine idx_at _ (by with_reducible rfl) (by first | assumption | omega) ?_; conv => whnf) | ((with_reducible refine row_map (by first | assumption | omega) ?_); conv => whnf) | ((with_reducible refine row_set (by first | assumption | omega | (simp only [List.length_set]; omega) | (simp; omega)) ?_); conv => whnf) | fail)
        all_goals first | (cases ‹true = false›; done) | (cases ‹false = true›; done) | (exact absurd (by assumption) hf) | skip
        exact fin3n
set_option maxRecDepth 100000 in
set_option maxHeartbeats 4000000 in
theorem rReadA_pc (tl : List UInt8) (ht : tl.length ≤ 900000) : PCp 45 [.c (.str (BL tl))] [] (.tup [.c (.lst 6 ((acRd tl).v.map encAc)), .c (.int .i64 ((acRd tl).i : Nat)), .c (.int .i64 (acRd tl).e)]) [] := by
  have hbz := bl_size tl
  rw [← acRd_two]
  by_cases h0 : 200000 < tl.length
  · rw [show readV (acSt acDoc) [] actsFault tl = ⟨[], 0, 2⟩ by unfold readV; rw [if_pos h0]]
    refine fn_sound (mt := mts) tab_fits tab_mixed Tryz.func45 (by rfl) (by kernel_rfl) (by kernel_rfl) Tryz.results45 (Nat.le_of_ble_eq_true (by kernel_rfl)) ?_
    conv => whnf
    repeat' (first | ((first | refine Split.mk (fun h => ?_) (fun h => ?_) | refine CondG.mk (fun h => ?_) (fun h => ?_)) <;> (try simp only [decide_eq_true_eq, decide_eq_false_iff_not, Bool.not_eq_true', Bool.not_eq_false', beq_iff_eq, beq_eq_false_iff_ne, bne_iff_ne, bne_eq_false_iff_eq] at h) <;> (first | (exfalso; first | omega | exact h trivial) | (conv => whnf))) | (refine Ask.mk (by first | omega | (unfold roomOK; simp [cutRows]; done) | (unfold roomOK; simp [cutRows]; omega) | (simp [cutRows]; done) | (simp [cutRows]; omega)) ?_; conv => whnf) | (refine AppG.mk (by first | omega | (unfold roomOK; simp [cutRows]; done) | (unfold roomOK; simp [cutRows]; omega) | (simp [cutRows]; done) | (simp [cutRows]; omega)) ?_; conv => whnf) | (refine SliceG.fr ?_; conv => whnf) | (refine idx_at _ (by with_reducible rfl) (by first | assumption | omega) ?_; conv => whnf) | ((with_reducible refine row_map (by first | assumption | omega) ?_); conv => whnf) | ((with_reducible refine row_set (by first | assumption | omega | (simp only [List.length_set]; omega) | (simp; omega)) ?_); conv => whnf) | fail)
    exact fin3n
  · have cE := lines1_pc 79 6 encAc 118 (acSt acDoc) (acSt_grow acDoc) rRead1A_pc tl (by omega)
    have hlen := goL_len (acSt acDoc) (acSt_grow acDoc) tl
    obtain ⟨q, hq⟩ : ∃ q, goL (acSt acDoc) [] 0 (spl 10 tl) = q := ⟨_, rfl⟩
    rw [hq] at cE hlen
    obtain ⟨st, i, ok⟩ := q
    simp only at cE hlen
    obtain ⟨r1, r2, r3⟩ := readV_cases (fault := actsFault) hq h0
    have cF := rActs_pc st
    cases ok with
    | false =>
      rw [r1 rfl]
      refine fn_sound (mt := mts) tab_fits tab_mixed Tryz.func45 (by rfl) (by kernel_rfl) (by kernel_rfl) Tryz.results45 (Nat.le_of_ble_eq_true (by kernel_rfl)) ?_
      conv => whnf
      repeat' (first | ((first | refine Split.mk (fun h => ?_) (fun h => ?_) | refine CondG.mk (fun h => ?_) (fun h => ?_)) <;> (try simp only [decide_eq_true_eq, decide_eq_false_iff_not, Bool.not_eq_true', Bool.not_eq_false', beq_iff_eq, beq_eq_false_iff_ne, bne_iff_ne, bne_eq_false_iff_eq] at h) <;> (first | (exfalso; first | omega | exact h trivial) | (conv => whnf))) | (refine CallX.mk _ _ (by first | exact cE) ?_; conv => whnf) | (refine CallG.mk _ _ (by first | exact cE) ?_; conv => whnf) | (refine Ask.mk (by first | omega | (unfold roomOK; simp [cutRows]; done) | (unfold roomOK; simp [cutRows]; omega) | (simp [cutRows]; done) | (simp [cutRows]; omega)) ?_; conv => whnf) | (refine AppG.mk (by first | omega | (unfold roomOK; simp [cutRows]; done) | (unfold roomOK; simp [cutRows]; omega) | (simp [cutRows]; done) | (simp [cutRows]; omega)) ?_; conv => whnf) | (refine SliceG.fr ?_; conv => whnf) | (refine idx_at _ (by with_reducible rfl) (by first | assumption | omega) ?_; conv => whnf) | ((with_reducible refine row_map (by first | assumption | omega) ?_); conv => whnf) | ((with_reducible refine row_set (by first | assumption | omega | (simp only [List.length_set]; omega) | (simp; omega)) ?_); conv => whnf) | fail)
      all_goals first | (cases ‹true = false›; done) | (cases ‹false = true›; done) | skip
      exact fin3n
    | true =>
      by_cases hf : actsFault st = 0
      · rw [r3 rfl hf]
        rw [hf] at cF
        refine fn_sound (mt := mts) tab_fits tab_mixed Tryz.func45 (by rfl) (by kernel_rfl) (by kernel_rfl) Tryz.results45 (Nat.le_of_ble_eq_true (by kernel_rfl)) ?_
        conv => whnf
        repeat' (first | ((first | refine Split.mk (fun h => ?_) (fun h => ?_) | refine CondG.mk (fun h => ?_) (fun h => ?_)) <;> (try simp only [decide_eq_true_eq, decide_eq_false_iff_not, Bool.not_eq_true', Bool.not_eq_false', beq_iff_eq, beq_eq_false_iff_ne, bne_iff_ne, bne_eq_false_iff_eq] at h) <;> (first | (exfalso; first | omega | exact h trivial) | (conv => whnf))) | (refine CallX.mk _ _ (by first | exact cE | exact cF) ?_; conv => whnf) | (refine CallG.mk _ _ (by first | exact cE | exact cF) ?_; conv => whnf) | (refine Ask.mk (by first | omega | (unfold roomOK; simp [cutRows]; done) | (unfold roomOK; simp [cutRows]; omega) | (simp [cutRows]; done) | (simp [cutRows]; omega)) ?_; conv => whnf) | (refine AppG.mk (by first | omega | (unfold roomOK; simp [cutRows]; done) | (unfold roomOK; simp [cutRows]; omega) | (simp [cutRows]; done) | (simp [cutRows]; omega)) ?_; conv => whnf) | (refine SliceG.fr ?_; conv => whnf) | (refine idx_at _ (by with_reducible rfl) (by first | assumption | omega) ?_; conv => whnf) | ((with_reducible refine row_map (by first | assumption | omega) ?_); conv => whnf) | ((with_reducible refine row_set (by first | assumption | omega | (simp only [List.length_set]; omega) | (simp; omega)) ?_); conv => whnf) | fail)
        all_goals first | (cases ‹true = false›; done) | (cases ‹false = true›; done) | skip
        exact fin3f rfl
      · rw [r2 rfl hf]
        refine fn_sound (mt := mts) tab_fits tab_mixed Tryz.func45 (by rfl) (by kernel_rfl) (by kernel_rfl) Tryz.results45 (Nat.le_of_ble_eq_true (by kernel_rfl)) ?_
        conv => whnf
        repeat' (first | ((first | refine Split.mk (fun h => ?_) (fun h => ?_) | refine CondG.mk (fun h => ?_) (fun h => ?_)) <;> (try simp only [decide_eq_true_eq, decide_eq_false_iff_not, Bool.not_eq_true', Bool.not_eq_false', beq_iff_eq, beq_eq_false_iff_ne, bne_iff_ne, bne_eq_false_iff_eq] at h) <;> (first | (exfalso; first | omega | exact h trivial) | (conv => whnf))) | (refine CallX.mk _ _ (by first | exact cE | exact cF) ?_; conv => whnf) | (refine CallG.mk _ _ (by first | exact cE | exact cF) ?_; conv => whnf) | (refine Ask.mk (by first | omega | (unfold roomOK; simp [cutRows]; done) | (unfold roomOK; simp [cutRows]; omega) | (simp [cutRows]; done) | (simp [cutRows]; omega)) ?_; conv => whnf) | (refine AppG.mk (by first | omega | (unfold roomOK; simp [cutRows]; done) | (unfold roomOK; simp [cutRows]; omega) | (simp [cutRows]; done) | (simp [cutRows]; omega)) ?_; conv => whnf) | (refine SliceG.fr ?_; conv => whnf) | (refine idx_at _ (by with_reducible rfl) (by first | assumption | omega) ?_; conv => whnf) | ((with_reducible refine row_map (by first | assumption | omega) ?_); conv => whnf) | ((with_reducible refine row_set (by first | assumption | omega | (simp only [List.length_set]; omega) | (simp; omega)) ?_); conv => whnf) | fail)
        all_goals first | (cases ‹true = false›; done) | (cases ‹false = true›; done) | (exact absurd (by assumption) hf) | skip
        exact fin3n
set_option maxRecDepth 100000 in
set_option maxHeartbeats 4000000 in
theorem eqAcT_pc (l : List Ac) (hl : l.length ≤ 1000000) : PCp 46 [.c (.lst 6 (l.map encAc)), .c (.lst 6 (l.map encAc))] [] (.c (.bool true)) [] := by
  have hlm : (l.map encAc).length = l.length := List.length_map ..
  refine fn_sound (mt := mts) tab_fits tab_mixed Tryz.func46 (by rfl) (by kernel_rfl) (by kernel_rfl) Tryz.results46 (Nat.le_of_ble_eq_true (by kernel_rfl)) ?_
  conv => whnf
  repeat' (first | ((first | refine Split.mk (fun h => ?_) (fun h => ?_) | refine CondG.mk (fun h => ?_) (fun h => ?_)) <;> (try simp only [decide_eq_true_eq, decide_eq_false_iff_not, Bool.not_eq_true', Bool.not_eq_false', beq_iff_eq, beq_eq_false_iff_ne, bne_iff_ne, bne_eq_false_iff_eq] at h) <;> (first | (exfalso; first | omega | exact h trivial | contradiction | (simp_all [eqRes]; done)) | (conv => whnf))) | (refine Ask.mk (by first | omega | (unfold roomOK; simp [cutRows]; done) | (unfold roomOK; simp [cutRows]; omega) | (simp [cutRows]; done) | (simp [cutRows]; omega)) ?_; conv => whnf) | (refine AppG.mk (by first | omega | (unfold roomOK; simp [cutRows]; done) | (unfold roomOK; simp [cutRows]; omega) | (simp [cutRows]; done) | (simp [cutRows]; omega)) ?_; conv => whnf) | (refine SliceG.fr ?_; conv => whnf) | (refine idx_at _ (by with_reducible rfl) (by first | assumption | omega) ?_; conv => whnf) | ((with_reducible refine row_map (by first | assumption | omega) ?_); conv => whnf) | ((with_reducible refine row_set (by first | assumption | omega | (simp only [List.length_set]; omega) | (simp; omega)) ?_); conv => whnf) | fail)
  refine loop_for (l.length) [] [0, 1, 12, 13] (fun k (_ : Unit) => [(13, .c (.int .i64 (k : Int)))]) (fun k (_ : Unit) => []) (fun k (_ : Unit) => True) (()) ?_
  conv => whnf
  refine ⟨(by first | rfl | (simp; done) | (simp; rfl)), (by trivial), ?_, ?_⟩
  · intro k _ hk _
    conv => whnf
    repeat' (first | ((first | refine Split.mk (fun h => ?_) (fun h => ?_) | refine CondG.mk (fun h => ?_) (fun h => ?_)) <;> (try simp only [decide_eq_true_eq, decide_eq_false_iff_not, Bool.not_eq_true', Bool.not_eq_false', beq_iff_eq, beq_eq_false_iff_ne, bne_iff_ne, bne_eq_false_iff_eq] at h) <;> (first | (exfalso; first | omega | exact h trivial | contradiction | (simp_all [eqRes]; done)) | (conv => whnf))) | (refine Ask.mk (by first | omega | (unfold roomOK; simp [cutRows]; done) | (unfold roomOK; simp [cutRows]; omega) | (simp [cutRows]; done) | (simp [cutRows]; omega)) ?_; conv => whnf) | (refine AppG.mk (by first | omega | (unfold roomOK; simp [cutRows]; done) | (unfold roomOK; simp [cutRows]; omega) | (simp [cutRows]; done) | (simp [cutRows]; omega)) ?_; conv => whnf) | (refine SliceG.fr ?_; conv => whnf) | (refine idx_at _ (by with_reducible rfl) (by first | assumption | omega) ?_; conv => whnf) | ((with_reducible refine row_map (by first | assumption | omega) ?_); conv => whnf) | ((with_reducible refine row_set (by first | assumption | omega | (simp only [List.length_set]; omega) | (simp; omega)) ?_); conv => whnf) | fail)
    all_goals exact count_next () hk (by rw [wrap_succ hk (by omega)]; rfl) trivial
  · intro _ _
    conv => whnf
    repeat' (first | ((first | refine Split.mk (fun h => ?_) (fun h => ?_) | refine CondG.mk (fun h => ?_) (fun h => ?_)) <;> (try simp only [decide_eq_true_eq, decide_eq_false_iff_not, Bool.not_eq_true', Bool.not_eq_false', beq_iff_eq, beq_eq_false_iff_ne, bne_iff_ne, bne_eq_false_iff_eq] at h) <;> (first | (exfalso; first | omega | exact h trivial | contradiction | (simp_all [eqRes]; done)) | (conv => whnf))) | (refine Ask.mk (by first | omega | (unfold roomOK; simp [cutRows]; done) | (unfold roomOK; simp [cutRows]; omega) | (simp [cutRows]; done) | (simp [cutRows]; omega)) ?_; conv => whnf) | (refine AppG.mk (by first | omega | (unfold roomOK; simp [cutRows]; done) | (unfold roomOK; simp [cutRows]; omega) | (simp [cutRows]; done) | (simp [cutRows]; omega)) ?_; conv => whnf) | (refine SliceG.fr ?_; conv => whnf) | (refine idx_at _ (by with_reducible rfl) (by first | assumption | omega) ?_; conv => whnf) | ((with_reducible refine row_map (by first | assumption | omega) ?_); conv => whnf) | ((with_reducible refine row_set (by first | assumption | omega | (simp only [List.length_set]; omega) | (simp; omega)) ?_); conv => whnf) | fail)
    all_goals exact .mk ⟨rfl, rfl⟩
theorem acRd_len (tl : List UInt8) : (acRd tl).v.length ≤ tl.length + 1 := by
  have h1 := goL_len (acSt acPrg) (acSt_grow acPrg) tl
  unfold acRd readV
  (repeat' split) <;> first | exact Nat.zero_le _ | exact h1
/-! a text that is made: strings.Repeat of 1, none or once -/
set_option maxRecDepth 100000 in
set_option maxHeartbeats 4000000 in
theorem repeat0_pc : PCp 111 [.c (.str ⟨#[49]⟩), .c (.int .i64 0)] [] (.c (.str ⟨#[]⟩)) [] := by
  refine fn_sound (mt := mts) tab_fits tab_mixed Tryz.func111 (by rfl) (by kernel_rfl) (by kernel_rfl) Tryz.results111 (Nat.le_of_ble_eq_true (by kernel_rfl)) ?_
  conv => whnf
  repeat' (first | ((first | refine Split.mk (fun h => ?_) (fun h => ?_) | refine CondG.mk (fun h => ?_) (fun h => ?_)) <;> (try simp only [decide_eq_true_eq, decide_eq_false_iff_not, Bool.not_eq_true', Bool.not_eq_false', beq_iff_eq, beq_eq_false_iff_ne, bne_iff_ne, bne_eq_false_iff_eq] at h) <;> (first | (exfalso; first | omega | exact h trivial) | (conv => whnf))) | (refine Ask.mk (by first | omega | (unfold roomOK; simp [cutRows]; done) | (unfold roomOK; simp [cutRows]; omega) | (simp [cutRows]; done) | (simp [cutRows]; omega)) ?_; conv => whnf) | (refine AppG.mk (by first | omega | (unfold roomOK; simp [cutRows]; done) | (unfold roomOK; simp [cutRows]; omega) | (simp [cutRows]; done) | (simp [cutRows]; omega)) ?_; conv => whnf) | (refine SliceG.fr ?_; conv => whnf) | (refine idx_at _ (by with_reducible rfl) (by first | assumption | omega) ?_; conv => whnf) | ((with_reducible refine row_map (by first | assumption | omega) ?_); conv => whnf) | ((with_reducible refine row_set (by first | assumption | omega | (simp only [List.length_set]; omega) | (simp; omega)) ?_); conv => whnf) | fail)
  all_goals first | (exfalso; omega) | exact .mk ⟨rfl, rfl⟩
set_option maxRecDepth 100000 in
set_option maxHeartbeats 4000000 in
theorem repeat1_pc : PCp 111 [.c (.str ⟨#[49]⟩), .c (.int .i64 1)] [] (.c (.str ⟨#[49]⟩)) [] := by
  refine fn_sound (mt := mts) tab_fits tab_mixed Tryz.func111 (by rfl) (by kernel_rfl) (by kernel_rfl) Tryz.results111 (Nat.le_of_ble_eq_true (by kernel_rfl)) ?_
  conv => whnf
  repeat' (first | ((first | refine Split.mk (fun h => ?_) (fun h => ?_) | refine CondG.mk (fun h => ?_) (fun h => ?_)) <;> (try simp only [decide_eq_true_eq, decide_eq_false_iff_not, Bool.not_eq_true', Bool.not_eq_false', beq_iff_eq, beq_eq_false_iff_ne, bne_iff_ne, bne_eq_false_iff_eq] at h) <;> (first | (exfalso; first | omega | exact h trivial) | (conv => whnf))) | (refine Ask.mk (by first | omega | (unfold roomOK; simp [cutRows]; done) | (unfold roomOK; simp [cutRows]; omega) | (simp [cutRows]; done) | (simp [cutRows]; omega)) ?_; conv => whnf) | (refine AppG.mk (by first | omega | (unfold roomOK; simp [cutRows]; done) | (unfold roomOK; simp [cutRows]; omega) | (simp [cutRows]; done) | (simp [cutRows]; omega)) ?_; conv => whnf) | (refine SliceG.fr ?_; conv => whnf) | (refine idx_at _ (by with_reducible rfl) (by first | assumption | omega) ?_; conv => whnf) | ((with_reducible refine row_map (by first | assumption | omega) ?_); conv => whnf) | ((with_reducible refine row_set (by first | assumption | omega | (simp only [List.length_set]; omega) | (simp; omega)) ?_); conv => whnf) | fail)
  all_goals first | (exfalso; omega) | exact .mk ⟨rfl, rfl⟩
set_option maxRecDepth 100000 in
set_option maxHeartbeats 4000000 in
theorem rAcText_pc {L : List Int} {p : Int} (hst : StOk L p) (hp : p ≤ 600000000) :
    PCq 40 [.c (.ptr 0 0)] [stO L p] fun r os => ∃ (tl : List UInt8) (p' : Int), r = .c (.str (BL tl)) ∧ os = [stO L p'] ∧ tl.length ≤ 50000 ∧ p ≤ p' ∧ p' ≤ p + 3000 := by
  have hS : ∀ x : Int, p ≤ x → x ≤ p + 4000 → StOk L x := fun x h3 h4 => ⟨hst.1, by have := hst.2.1; omega, by omega⟩
  have hr := rangeV_in L p 0 5 (by omega)
  have cR := range_ok hst 0 5 (by omega) (small_lit (by omega)) (small_lit (by omega))
  generalize rangeV L p 0 5 = m at *
  obtain ⟨m, rfl⟩ := Int.eq_ofNat_of_zero_le hr.1
  refine fn_soundX (mt := mts) tab_fits tab_mixed Tryz.func40 (by rfl) (by kernel_rfl) (by kernel_rfl) Tryz.results40 (Nat.le_of_ble_eq_true (by kernel_rfl)) ?_
  conv => whnf
  repeat' (first | ((first | refine Split.mk (fun h => ?_) (fun h => ?_) | refine CondG.mk (fun h => ?_) (fun h => ?_)) <;> (try simp only [decide_eq_true_eq, decide_eq_false_iff_not, Bool.not_eq_true', Bool.not_eq_false', beq_iff_eq, beq_eq_false_iff_ne, bne_iff_ne, bne_eq_false_iff_eq] at h) <;> (first | (exfalso; first | omega | exact h trivial) | (conv => whnf))) | (refine CallX.mk _ _ (by first | exact cR) ?_; conv => whnf) | (refine CallG.mk _ _ (by first | exact cR) ?_; conv => whnf) | (refine Ask.mk (by first | omega | (unfold roomOK; simp [cutRows]; done) | (unfold roomOK; simp [cutRows]; omega) | (simp [cutRows]; done) | (simp [cutRows]; omega)) ?_; conv => whnf) | (refine AppG.mk (by first | omega | (unfold roomOK; simp [cutRows]; done) | (unfold roomOK; simp [cutRows]; omega) | (simp [cutRows]; done) | (simp [cutRows]; omega)) ?_; conv => whnf) | (refine SliceG.fr ?_; conv => whnf) | (refine idx_at _ (by with_reducible rfl) (by first | assumption | omega) ?_; conv => whnf) | ((with_reducible refine row_map (by first | assumption | omega) ?_); conv => whnf) | ((with_reducible refine row_set (by first | assumption | omega | (simp only [List.length_set]; omega) | (simp; omega)) ?_); conv => whnf) | fail)
  refine .ex _ (rRightA_pc (L := L) (p := p + 1) ⟨hst.1, by have := hst.2.1; omega, by omega⟩ (by omega) m (by omega)) ?_
  rintro _ _ ⟨l, q, rfl, rfl, h0, h1, h2, h3, h4⟩
  have hln : ∀ x ∈ l, AcLn x := fun x hm => acLn ((actsFault_all h0).2 x hm)
  have c2 := rAcLines_pc l (by omega) hln
  have hsz := acText_bd hln
  have cP := pick_ok (hS q (by omega) (by omega)) [0, 0, 1, 2] (by simp) (by simp)
  have hpv : 0 ≤ pickV L q [0, 0, 1, 2] ∧ pickV L q [0, 0, 1, 2] ≤ 2 := by
    have := pickV_memT L q [0, 0, 1, 2] (by decide)
    simp only [List.mem_cons, List.not_mem_nil, or_false] at this
    omega
  generalize acText l = t0 at *
  generalize pickV L q [0, 0, 1, 2] = n at *
  obtain ⟨n, rfl⟩ := Int.eq_ofNat_of_zero_le hpv.1
  conv => whnf
  repeat' (first | ((first | refine Split.mk (fun h => ?_) (fun h => ?_) | refine CondG.mk (fun h => ?_) (fun h => ?_)) <;> (try simp only [decide_eq_true_eq, decide_eq_false_iff_not, Bool.not_eq_true', Bool.not_eq_false', beq_iff_eq, beq_eq_false_iff_ne, bne_iff_ne, bne_eq_false_iff_eq] at h) <;> (first | (exfalso; first | omega | exact h trivial) | (conv => whnf))) | (refine CallX.mk _ _ (by first | exact c2 | exact cP) ?_; conv => whnf) | (refine CallG.mk _ _ (by first | exact c2 | exact cP) ?_; conv => whnf) | (refine Ask.mk (by first | omega | (unfold roomOK; simp [cutRows]; done) | (unfold roomOK; simp [cutRows]; omega) | (simp [cutRows]; done) | (simp [cutRows]; omega)) ?_; conv => whnf) | (refine AppG.mk (by first | omega | (unfold roomOK; simp [cutRows]; done) | (unfold roomOK; simp [cutRows]; omega) | (simp [cutRows]; done) | (simp [cutRows]; omega)) ?_; conv => whnf) | (refine SliceG.fr ?_; conv => whnf) | (refine idx_at _ (by with_reducible rfl) (by first | assumption | omega) ?_; conv => whnf) | ((with_reducible refine row_map (by first | assumption | omega) ?_); conv => whnf) | ((with_reducible refine row_set (by first | assumption | omega | (simp only [List.length_set]; omega) | (simp; omega)) ?_); conv => whnf) | fail)
  refine loop_for2 (n) [] [0, 3, 11, 12] (fun k (t : ByteArray) (x : Int) => [(3, .c (.str t)), (12, .c (.int .i64 (k : Int)))]) (fun k (t : ByteArray) (x : Int) => [(0, stO L x)]) (fun k (t : ByteArray) (x : Int) => t.size ≤ 20000 + 20 * k ∧ q ≤ x ∧ x ≤ q + 1 + 4 * k) (t0) (q + 1) ?_
  conv => whnf
  refine ⟨(by first | rfl | (simp; done) | (simp; rfl)), ?_, ?_, ?_⟩
  · exact ⟨by omega, by omega, by omega⟩
  · intro k t x hk ⟨h1, h2, h3⟩
    have hn2 := nextV_lt L x 2 (by omega)
    have cX := next_ok (hS x (by omega) (by omega)) 2 (by omega)
    have hz : (⟨#[32, 10, 48, 45, 57, 100, 116]⟩ : ByteArray).size = 7 := rfl
    have hz3 : (⟨#[]⟩ : ByteArray).size = 0 := rfl
    have hz4 : (⟨#[49]⟩ : ByteArray).size = 1 := rfl
    have h01 : nextV L x 2 = 0 ∨ nextV L x 2 = 1 := by omega
    rcases h01 with h01 | h01
    · rw [h01] at cX
      have cC := rChanged_pc (hS (x + 1) (by omega) (by omega)) (by omega) t (⟨#[32, 10, 48, 45, 57, 100, 116]⟩ ++ ⟨#[]⟩) (by omega) (by decide)
      have hz2 : (⟨#[32, 10, 48, 45, 57, 100, 116]⟩ ++ ⟨#[]⟩ : ByteArray).size = 7 := rfl
      conv => whnf
      repeat' (first | ((first | refine Split.mk (fun h => ?_) (fun h => ?_) | refine CondG.mk (fun h => ?_) (fun h => ?_)) <;> (try simp only [decide_eq_true_eq, decide_eq_false_iff_not, Bool.not_eq_true', Bool.not_eq_false', beq_iff_eq, beq_eq_false_iff_ne, bne_iff_ne, bne_eq_false_iff_eq] at h) <;> (first | (exfalso; first | omega | exact h trivial) | (conv => whnf))) | (refine CallX.mk _ _ (by first | exact cX | exact repeat0_pc) ?_; conv => whnf) | (refine CallG.mk _ _ (by first | exact cX | exact repeat0_pc) ?_; conv => whnf) | (refine Ask.mk (by first | omega | (unfold roomOK; simp [cutRows]; done) | (unfold roomOK; simp [cutRows]; omega) | (simp [cutRows]; done) | (simp [cutRows]; omega) | (simp only [ByteArray.size_append]; omega)) ?_; conv => whnf) | (refine AppG.mk (by first | omega | (unfold roomOK; simp [cutRows]; done) | (unfold roomOK; simp [cutRows]; omega) | (simp [cutRows]; done) | (simp [cutRows]; omega) | (simp only [ByteArray.size_append]; omega)) ?_; conv => whnf) | (refine SliceG.fr ?_; conv => whnf) | (refine idx_at _ (by with_reducible rfl) (by first | assumption | omega) ?_; conv => whnf) | ((with_reducible refine row_map (by first | assumption | omega) ?_); conv => whnf) | ((with_reducible refine row_set (by first | assumption | omega | (simp only [List.length_set]; omega) | (simp; omega)) ?_); conv => whnf) | fail)
      refine .ex _ cC ?_
      rintro _ _ ⟨t', x', rfl, rfl, g1, g2, g3⟩
      conv => whnf
      exact count_next (t', x') hk (by rw [wrap_succ hk (by omega)]; rfl) ⟨by simp only; omega, by simp only; omega, by simp only; omega⟩
    · rw [h01] at cX
      have cC := rChanged_pc (hS (x + 1) (by omega) (by omega)) (by omega) t (⟨#[32, 10, 48, 45, 57, 100, 116]⟩ ++ ⟨#[49]⟩) (by omega) (by decide)
      have hz2 : (⟨#[32, 10, 48, 45, 57, 100, 116]⟩ ++ ⟨#[49]⟩ : ByteArray).size = 8 := rfl
      conv => whnf
      repeat' (first | ((first | refine Split.mk (fun h => ?_) (fun h => ?_) | refine CondG.mk (fun h => ?_) (fun h => ?_)) <;> (try simp only [decide_eq_true_eq, decide_eq_false_iff_not, Bool.not_eq_true', Bool.not_eq_false', beq_iff_eq, beq_eq_false_iff_ne, bne_iff_ne, bne_eq_false_iff_eq] at h) <;> (first | (exfalso; first | omega | exact h trivial) | (conv => whnf))) | (refine CallX.mk _ _ (by first | exact cX | exact repeat1_pc) ?_; conv => whnf) | (refine CallG.mk _ _ (by first | exact cX | exact repeat1_pc) ?_; conv => whnf) | (refine Ask.mk (by first | omega | (unfold roomOK; simp [cutRows]; done) | (unfold roomOK; simp [cutRows]; omega) | (simp [cutRows]; done) | (simp [cutRows]; omega) | (simp only [ByteArray.size_append]; omega)) ?_; conv => whnf) | (refine AppG.mk (by first | omega | (unfold roomOK; simp [cutRows]; done) | (unfold roomOK; simp [cutRows]; omega) | (simp [cutRows]; done) | (simp [cutRows]; omega) | (simp only [ByteArray.size_append]; omega)) ?_; conv => whnf) | (refine SliceG.fr ?_; conv => whnf) | (refine idx_at _ (by with_reducible rfl) (by first | assumption | omega) ?_; conv => whnf) | ((with_reducible refine row_map (by first | assumption | omega) ?_); conv => whnf) | ((with_reducible refine row_set (by first | assumption | omega | (simp only [List.length_set]; omega) | (simp; omega)) ?_); conv => whnf) | fail)
      refine .ex _ cC ?_
      rintro _ _ ⟨t', x', rfl, rfl, g1, g2, g3⟩
      conv => whnf
      exact count_next (t', x') hk (by rw [wrap_succ hk (by omega)]; rfl) ⟨by simp only; omega, by simp only; omega, by simp only; omega⟩
  · intro t x ⟨h1, h2, h3⟩
    have hz : t.size = t.data.toList.length := (Array.length_toList).symm
    conv => whnf
    repeat' (first | ((first | refine Split.mk (fun h => ?_) (fun h => ?_) | refine CondG.mk (fun h => ?_) (fun h => ?_)) <;> (try simp only [decide_eq_true_eq, decide_eq_false_iff_not, Bool.not_eq_true', Bool.not_eq_false', beq_iff_eq, beq_eq_false_iff_ne, bne_iff_ne, bne_eq_false_iff_eq] at h) <;> (first | (exfalso; first | omega | exact h trivial) | (conv => whnf))) | (refine Ask.mk (by first | omega | (unfold roomOK; simp [cutRows]; done) | (unfold roomOK; simp [cutRows]; omega) | (simp [cutRows]; done) | (simp [cutRows]; omega)) ?_; conv => whnf) | (refine AppG.mk (by first | omega | (unfold roomOK; simp [cutRows]; done) | (unfold roomOK; simp [cutRows]; omega) | (simp [cutRows]; done) | (simp [cutRows]; omega)) ?_; conv => whnf) | (refine SliceG.fr ?_; conv => whnf) | (refine idx_at _ (by with_reducible rfl) (by first | assumption | omega) ?_; conv => whnf) | ((with_reducible refine row_map (by first | assumption | omega) ?_); conv => whnf) | ((with_reducible refine row_set (by first | assumption | omega | (simp only [List.length_set]; omega) | (simp; omega)) ?_); conv => whnf) | fail)
    exact .mk _ _ ⟨t.data.toList, x, rfl, rfl, by omega, by omega, by omega⟩ (.mk ⟨by rw [bl_data]; rfl, rfl⟩)
set_option maxRecDepth 100000 in
set_option maxHeartbeats 4000000 in
theorem actTexts_pc (L : List Int) (hL : L.length ≤ 9223372036854775807) : PCp 6 [.c (.lst 1 (L.map encI))] [] (.c (.bool true)) [] := by
  have st0 : StOk L 0 := ⟨hL, by omega, by omega⟩
  have hr := rangeV_in L 0 0 8 (by omega)
  have cR := range_ok st0 0 8 (by omega) (small_lit (by omega)) (small_lit (by omega))
  generalize rangeV L 0 0 8 = m at *
  obtain ⟨m, rfl⟩ := Int.eq_ofNat_of_zero_le hr.1
  refine fn_sound (mt := mts) tab_fits tab_mixed Tryz.func6 (by rfl) (by kernel_rfl) (by kernel_rfl) Tryz.results6 (Nat.le_of_ble_eq_true (by kernel_rfl)) ?_
  conv => whnf
  repeat' (first | ((first | refine Split.mk (fun h => ?_) (fun h => ?_) | refine CondG.mk (fun h => ?_) (fun h => ?_)) <;> (try simp only [decide_eq_true_eq, decide_eq_false_iff_not, Bool.not_eq_true', Bool.not_eq_false', beq_iff_eq, beq_eq_false_iff_ne, bne_iff_ne, bne_eq_false_iff_eq] at h) <;> (first | (exfalso; first | omega | exact h trivial) | (conv => whnf))) | (refine CallX.mk _ _ (by first | exact cR) ?_; conv => whnf) | (refine CallG.mk _ _ (by first | exact cR) ?_; conv => whnf) | (refine Ask.mk (by first | omega | (unfold roomOK; simp [cutRows]; done) | (unfold roomOK; simp [cutRows]; omega) | (simp [cutRows]; done) | (simp [cutRows]; omega)) ?_; conv => whnf) | (refine AppG.mk (by first | omega | (unfold roomOK; simp [cutRows]; done) | (unfold roomOK; simp [cutRows]; omega) | (simp [cutRows]; done) | (simp [cutRows]; omega)) ?_; conv => whnf) | (refine SliceG.fr ?_; conv => whnf) | (refine idx_at _ (by with_reducible rfl) (by first | assumption | omega) ?_; conv => whnf) | ((with_reducible refine row_map (by first | assumption | omega) ?_); conv => whnf) | ((with_reducible refine row_set (by first | assumption | omega | (simp only [List.length_set]; omega) | (simp; omega)) ?_); conv => whnf) | fail)
  refine .ex _ (acts_pc (L := L) (p := 0 + 1) ⟨hL, by omega, by omega⟩ (by omega) m (by omega)) ?_
  rintro _ _ ⟨s, p, rfl, rfl, h1, h2, h3, -⟩
  have cT := dText_pc s (by omega)
  have cF := rActs_pc s
  conv => whnf
  repeat' (first | ((first | refine Split.mk (fun h => ?_) (fun h => ?_) | refine CondG.mk (fun h => ?_) (fun h => ?_)) <;> (try simp only [decide_eq_true_eq, decide_eq_false_iff_not, Bool.not_eq_true', Bool.not_eq_false', beq_iff_eq, beq_eq_false_iff_ne, bne_iff_ne, bne_eq_false_iff_eq] at h) <;> (first | (exfalso; first | omega | exact h trivial) | (conv => whnf))) | (refine Ask.mk (by first | omega | (unfold roomOK; simp [cutRows]; done) | (unfold roomOK; simp [cutRows]; omega) | (simp [cutRows]; done) | (simp [cutRows]; omega)) ?_; conv => whnf) | (refine AppG.mk (by first | omega | (unfold roomOK; simp [cutRows]; done) | (unfold roomOK; simp [cutRows]; omega) | (simp [cutRows]; done) | (simp [cutRows]; omega)) ?_; conv => whnf) | (refine SliceG.fr ?_; conv => whnf) | (refine idx_at _ (by with_reducible rfl) (by first | assumption | omega) ?_; conv => whnf) | ((with_reducible refine row_map (by first | assumption | omega) ?_); conv => whnf) | ((with_reducible refine row_set (by first | assumption | omega | (simp only [List.length_set]; omega) | (simp; omega)) ?_); conv => whnf) | fail)
  refine .ex _ (rAcText_pc (L := L) (p := p) ⟨hL, by omega, by omega⟩ (by omega)) ?_
  rintro _ _ ⟨tl, p', rfl, rfl, g1, -, -⟩
  have cR := dReadA_pc tl (by omega)
  have cQ := rReadA_pc tl (by omega)
  have cE := eqAcT_pc (acRd tl).v (by have := acRd_len tl; omega)
  by_cases hf : actsFault s = 0
  · have cL := rAcLines_pc s (by omega) (fun x hm => acLn ((actsFault_all hf).2 x hm))
    rw [show acOut s = acText s by unfold acOut; rw [if_pos hf], hf] at cT
    rw [hf] at cF
    conv => whnf
    repeat' (first | ((first | refine Split.mk (fun h => ?_) (fun h => ?_) | refine CondG.mk (fun h => ?_) (fun h => ?_)) <;> (try simp only [decide_eq_true_eq, decide_eq_false_iff_not, Bool.not_eq_true', Bool.not_eq_false', beq_iff_eq, beq_eq_false_iff_ne, bne_iff_ne, bne_eq_false_iff_eq] at h) <;> (first | (exfalso; first | omega | exact h trivial | contradiction | (simp_all [eqRes]; done)) | (conv => whnf))) | (refine CallX.mk _ _ (by first | exact cT | exact cF | exact cL | exact cR | exact cQ | exact cE | exact stored_pc) ?_; conv => whnf) | (refine CallG.mk _ _ (by first | exact cT | exact cF | exact cL | exact cR | exact cQ | exact cE | exact stored_pc) ?_; conv => whnf) | (refine Ask.mk (by first | omega | (unfold roomOK; simp [cutRows]; done) | (unfold roomOK; simp [cutRows]; omega) | (simp [cutRows]; done) | (simp [cutRows]; omega)) ?_; conv => whnf) | (refine AppG.mk (by first | omega | (unfold roomOK; simp [cutRows]; done) | (unfold roomOK; simp [cutRows]; omega) | (simp [cutRows]; done) | (simp [cutRows]; omega)) ?_; conv => whnf) | (refine SliceG.fr ?_; conv => whnf) | (refine idx_at _ (by with_reducible rfl) (by first | assumption | omega) ?_; conv => whnf) | ((with_reducible refine row_map (by first | assumption | omega) ?_); conv => whnf) | ((with_reducible refine row_set (by first | assumption | omega | (simp only [List.length_set]; omega) | (simp; omega)) ?_); conv => whnf) | fail)
    all_goals exact finb rfl
  · rw [show acOut s = ⟨#[]⟩ by unfold acOut; rw [if_neg hf]] at cT
    conv => whnf
    repeat' (first | ((first | refine Split.mk (fun h => ?_) (fun h => ?_) | refine CondG.mk (fun h => ?_) (fun h => ?_)) <;> (try simp only [decide_eq_true_eq, decide_eq_false_iff_not, Bool.not_eq_true', Bool.not_eq_false', beq_iff_eq, beq_eq_false_iff_ne, bne_iff_ne, bne_eq_false_iff_eq] at h) <;> (first | (exfalso; first | omega | exact h trivial | contradiction | (simp_all [eqRes]; done)) | (conv => whnf))) | (refine CallX.mk _ _ (by first | exact cT | exact cF | exact cR | exact cQ | exact cE | exact stored_pc) ?_; conv => whnf) | (refine CallG.mk _ _ (by first | exact cT | exact cF | exact cR | exact cQ | exact cE | exact stored_pc) ?_; conv => whnf) | (refine Ask.mk (by first | omega | (unfold roomOK; simp [cutRows]; done) | (unfold roomOK; simp [cutRows]; omega) | (simp [cutRows]; done) | (simp [cutRows]; omega)) ?_; conv => whnf) | (refine AppG.mk (by first | omega | (unfold roomOK; simp [cutRows]; done) | (unfold roomOK; simp [cutRows]; omega) | (simp [cutRows]; done) | (simp [cutRows]; omega)) ?_; conv => whnf) | (refine SliceG.fr ?_; conv => whnf) | (refine idx_at _ (by with_reducible rfl) (by first | assumption | omega) ?_; conv => whnf) | ((with_reducible refine row_map (by first | assumption | omega) ?_); conv => whnf) | ((with_reducible refine row_set (by first | assumption | omega | (simp only [List.length_set]; omega) | (simp; omega)) ?_); conv => whnf) | fail)
    all_goals exact finb rfl
end Go.Proofs.YtgomipfameinoaaGreatDoor
