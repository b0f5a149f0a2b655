/- Drums, sections, rules and plans are made, by the abstract walk. -/
import Derived.Test.YtjkammhjpjaekaaC2
namespace Go.Proofs.Ytjkammhjpjaekaa
set_option linter.unusedVariables false
set_option linter.unusedSimpArgs false
open Abs

theorem enc_size (n : Int) : (Utf8.encode n).size ≤ 4 := by
  unfold Utf8.encode
  simp only
  repeat' split
  all_goals exact Nat.le_of_ble_eq_true rfl
theorem lab_ok (pre : ByteArray) (n : Int) (h : pre.size ≤ 100) : pre.size + (Utf8.encode n).size ≤ 9223372036854775807 := by have := enc_size n; omega
def iterN {A : Type} (f : Nat → A → A) : Nat → A → A
  | 0, a => a
  | n + 1, a => f n (iterN f n a)
structure Pc where
  key : ByteArray
  kind : ByteArray
  long : Int
def encPc (x : Pc) : List V := [.str x.key, .str x.kind, .int .i64 x.long]
def lab (pre : ByteArray) (k : Int) : ByteArray := pre ++ Utf8.encode (IntKind.i32.wrap (IntKind.i64.wrap (97 + k)))
def bT : ByteArray := ⟨#[116]⟩
def bU : ByteArray := ⟨#[117]⟩
def pcStep (L : List Int) (pre : ByteArray) (longs : List Int) (i : Nat) (a : List Pc × Int) : List Pc × Int :=
  (a.1 ++ [⟨lab pre i, someV L a.2 [bT, bT, bU], pickV L (a.2 + 1) longs⟩], a.2 + 1 + 1)
def pcIter (L : List Int) (p : Int) (pre : ByteArray) (longs : List Int) (n : Nat) : List Pc × Int := iterN (pcStep L pre longs) n ([], p)
theorem pcIter_snd (L : List Int) (p : Int) (pre : ByteArray) (longs : List Int) (n : Nat) : (pcIter L p pre longs n).2 = p + 2 * n := by
  induction n with
  | zero => simp [pcIter, iterN]
  | succ n ih => simp only [pcIter, iterN, pcStep] at ih ⊢; rw [ih]; omega
theorem pcIter_len (L : List Int) (p : Int) (pre : ByteArray) (longs : List Int) (n : Nat) : (pcIter L p pre longs n).1.length = n := by
  induction n with
  | zero => simp [pcIter, iterN]
  | succ n ih => simp only [pcIter, iterN, pcStep] at ih ⊢; simp [ih]

def dLongs : List Int := [30, 60, 61, 100, 101, 150]
instance : Inhabited Pc := ⟨⟨default, default, 0⟩⟩
def dSpoil (L : List Int) (q : Int) (i : Nat) (l : List Pc) : List Pc :=
  l.set i ⟨someV L q [(l.getD i default).key, ⟨#[]⟩, ⟨#[100, 97]⟩], someV L (q + 1) [(l.getD i default).kind, ⟨#[65]⟩], pickV L (q + 1 + 1) [(l.getD i default).long, 0, 200000, 200001]⟩
def drumsV (L : List Int) (p most : Int) : List Pc × Int :=
  (fun a : List Pc × Int => if 0 < a.1.length then (if nextV L a.2 12 == 0 then (dSpoil L (a.2 + 1 + 1) (nextV L (a.2 + 1) a.1.length).toNat a.1, a.2 + 1 + 1 + 1 + 1 + 1) else (a.1, a.2 + 1)) else a) (pcIter L (p + 1) ⟨#[100]⟩ dLongs (rangeV L p 0 most).toNat)
set_option maxRecDepth 100000 in
set_option maxHeartbeats 4000000 in
theorem drums_pc {L : List Int} {p : Int} (hst : StOk L p) (hp : p ≤ 800000000) (most : Int) (h0 : 0 ≤ most) (h1 : most ≤ 1000) :
    PCp 32 [.c (.ptr 0 0), .c (.int .i64 most)] [stO L p] (.c (.row 1)) [stO L (drumsV L p most).2, .row 127 3 ((drumsV L p most).1.map encPc)] := by
  have hr := rangeV_in L p 0 most h0
  obtain ⟨n, hn⟩ := Int.eq_ofNat_of_zero_le hr.1
  have hs := fun k => pcIter_snd L (p + 1) ⟨#[100]⟩ dLongs k
  have hl := fun k => pcIter_len L (p + 1) ⟨#[100]⟩ dLongs k
  have hq : ∀ k : Nat, k ≤ n → StOk L (pcIter L (p + 1) ⟨#[100]⟩ dLongs k).2 ∧ StOk L ((pcIter L (p + 1) ⟨#[100]⟩ dLongs k).2 + 1) := by
    intro k hk
    have := hs k
    have h2 := hst.2.1
    exact ⟨⟨hst.1, by omega, by omega⟩, ⟨hst.1, by omega, by omega⟩⟩
  refine fn_sound (mt := mts) tab_fits tab_mixed Try.func32 (by rfl) (by kernel_rfl) (by kernel_rfl) Try.results32 (Nat.le_of_ble_eq_true (by kernel_rfl)) ?_
  conv => whnf
  repeat' (first
    | (refine Split.mk (fun h => ?_) (fun h => ?_) <;> (try simp only [decide_eq_true_eq, decide_eq_false_iff_not, Bool.not_eq_true', Bool.not_eq_false', beq_iff_eq, beq_eq_false_iff_ne] at h) <;> (first | (exfalso; first | omega | exact h trivial) | (conv => whnf)))
    | (refine CondG.mk (fun h => ?_) (fun h => ?_) <;> (try simp only [decide_eq_true_eq, decide_eq_false_iff_not, Bool.not_eq_true', Bool.not_eq_false', beq_iff_eq, beq_eq_false_iff_ne] at h) <;> (first | (exfalso; first | omega | exact h trivial) | (conv => whnf)))
    | (refine CallX.mk _ _ (by first | exact range_ok hst 0 most h0 (by unfold small; omega) (by unfold small; omega)) ?_; conv => whnf)
    | (refine CallG.mk _ _ (by first | exact range_ok hst 0 most h0 (by unfold small; omega) (by unfold small; omega)) ?_; conv => whnf)
    | (refine Ask.mk (by first | omega | (unfold roomOK; simp [cutRows]; done) | (unfold roomOK; simp [cutRows]; omega)) ?_; conv => whnf)
    | (refine SliceG.fr ?_; conv => whnf)
    | fail)
  rw [hn]
  refine loop_count (n) [.sl 5 127 3] [0, 5, 10, 11] (fun k (_ : Unit) => ⟨[(0, .c (.ptr 0 0)), (5, .c (.row 1)), (10, .c (.int .i64 n)), (11, .c (.int .i64 k))], [(0, stO L (pcIter L (p + 1) ⟨#[100]⟩ dLongs k).2), (1, .row 127 3 ((pcIter L (p + 1) ⟨#[100]⟩ dLongs k).1.map encPc))], 2⟩) (fun k (_ : Unit) => True) (()) ?_ ?_ ?_
  · conv => whnf
    exact ⟨rfl, trivial⟩
  · intro k _ hk _
    conv => whnf
    have hqk := hq k (by omega)
    refine .mk (fun _ => ?_) (fun h => ?_)
    rotate_left
    · simp at h; omega
    conv => whnf
    refine .mk (lab_ok _ _ (by decide)) ?_
    conv => whnf
    repeat' (first
      | (refine Split.mk (fun h => ?_) (fun h => ?_) <;> (try simp only [decide_eq_true_eq, decide_eq_false_iff_not, Bool.not_eq_true', Bool.not_eq_false', beq_iff_eq, beq_eq_false_iff_ne] at h) <;> (first | (exfalso; first | omega | exact h trivial) | (conv => whnf)))
      | (refine CondG.mk (fun h => ?_) (fun h => ?_) <;> (try simp only [decide_eq_true_eq, decide_eq_false_iff_not, Bool.not_eq_true', Bool.not_eq_false', beq_iff_eq, beq_eq_false_iff_ne] at h) <;> (first | (exfalso; first | omega | exact h trivial) | (conv => whnf)))
      | (refine CallX.mk _ _ (by first | exact some_ok hqk.1 [bT, bT, bU] (by decide) (by decide) | exact pick_ok hqk.2 dLongs (by decide) (by decide)) ?_; conv => whnf)
      | (refine CallG.mk _ _ (by first | exact some_ok hqk.1 [bT, bT, bU] (by decide) (by decide) | exact pick_ok hqk.2 dLongs (by decide) (by decide)) ?_; conv => whnf)
      | (refine Ask.mk (by first | omega | (unfold roomOK; simp [cutRows]; done) | (unfold roomOK; simp [cutRows]; omega)) ?_; conv => whnf)
      | (refine SliceG.fr ?_; conv => whnf)
      | fail)
    have hlk := hl k
    repeat' (first
      | (refine Split.mk (fun h => ?_) (fun h => ?_) <;> (try simp only [decide_eq_true_eq, decide_eq_false_iff_not, Bool.not_eq_true', Bool.not_eq_false', beq_iff_eq, beq_eq_false_iff_ne] at h) <;> (first | (exfalso; first | omega | exact h trivial) | (conv => whnf)))
      | (refine CondG.mk (fun h => ?_) (fun h => ?_) <;> (try simp only [decide_eq_true_eq, decide_eq_false_iff_not, Bool.not_eq_true', Bool.not_eq_false', beq_iff_eq, beq_eq_false_iff_ne] at h) <;> (first | (exfalso; first | omega | exact h trivial) | (conv => whnf)))
      | (refine Ask.mk (by first | omega | (unfold roomOK; simp [cutRows]; done) | (unfold roomOK; simp [cutRows]; omega)) ?_; conv => whnf)
      | (refine SliceG.fr ?_; conv => whnf)
      | fail)
    refine count_next () hk (by rw [wrap_succ hk (by omega)]; simp only [pcIter, iterN, pcStep, List.map_append]; rfl) trivial
  · intro _ _
    have hqn := hq n (Nat.le_refl _)
    have hln := hl n
    have hsn := hs n
    have hV : drumsV L p most = (fun a : List Pc × Int => if 0 < a.1.length then (if nextV L a.2 12 == 0 then (dSpoil L (a.2 + 1 + 1) (nextV L (a.2 + 1) a.1.length).toNat a.1, a.2 + 1 + 1 + 1 + 1 + 1) else (a.1, a.2 + 1)) else a) (pcIter L (p + 1) ⟨#[100]⟩ dLongs n) := by
      unfold drumsV; rw [hn]; rfl
    rw [hV]
    clear hV hq hs hl
    generalize pcIter L (p + 1) ⟨#[100]⟩ dLongs n = A at *
    obtain ⟨ds, q⟩ := A
    simp only at hqn hln hsn ⊢
    have hlm : (ds.map encPc).length = n := by simp [hln]
    conv => whnf
    repeat' (first
      | (refine Split.mk (fun h => ?_) (fun h => ?_) <;> (try simp only [decide_eq_true_eq, decide_eq_false_iff_not, Bool.not_eq_true', Bool.not_eq_false', beq_iff_eq, beq_eq_false_iff_ne] at h) <;> (first | (exfalso; first | omega | exact h trivial) | (conv => whnf)))
      | (refine CondG.mk (fun h => ?_) (fun h => ?_) <;> (try simp only [decide_eq_true_eq, decide_eq_false_iff_not, Bool.not_eq_true', Bool.not_eq_false', beq_iff_eq, beq_eq_false_iff_ne] at h) <;> (first | (exfalso; first | omega | exact h trivial) | (conv => whnf)))
      | (refine CallX.mk _ _ (by first | exact flip_ok hqn.1 12 (by omega)) ?_; conv => whnf)
      | (refine CallG.mk _ _ (by first | exact flip_ok hqn.1 12 (by omega)) ?_; conv => whnf)
      | (refine Ask.mk (by first | omega | (unfold roomOK; simp [cutRows]; done) | (unfold roomOK; simp [cutRows]; omega)) ?_; conv => whnf)
      | (refine SliceG.fr ?_; conv => whnf)
      | fail)
    · -- one is spoilt
      rw [hlm]
      have hq0 := hqn.1.2.1
      have h2 : ∀ x : Int, q ≤ x → x ≤ q + 10 → StOk L x := fun x h3 h4 => ⟨hst.1, by omega, by omega⟩
      have hi := nextV_lt L (q + 1) n (by omega)
      refine .mk _ _ (next_ok (h2 (q + 1) (by omega) (by omega)) _ (by omega)) ?_
      conv => whnf
      generalize hI : nextV L (q + 1) n = I at *
      obtain ⟨i, rfl⟩ := Int.eq_ofNat_of_zero_le hi.1
      refine .mk ⟨by omega, by rw [hlm]; exact hi.2⟩ ?_
      conv => whnf
      refine row_map (j := i) (by omega) ?_
      conv => whnf
      refine .mk _ _ (some_ok (h2 (q + 1 + 1) (by omega) (by omega)) [ds[i].key, ⟨#[]⟩, ⟨#[100, 97]⟩] (by simp) (by simp)) ?_
      conv => whnf
      refine row_map (j := i) (by omega) ?_
      conv => whnf
      refine .mk _ _ (some_ok (h2 (q + 1 + 1 + 1) (by omega) (by omega)) [ds[i].kind, ⟨#[65]⟩] (by simp) (by simp)) ?_
      conv => whnf
      refine row_map (j := i) (by omega) ?_
      conv => whnf
      refine .mk _ _ (pick_ok (h2 (q + 1 + 1 + 1 + 1) (by omega) (by omega)) [ds[i].long, 0, 200000, 200001] (by simp) (by simp)) ?_
      conv => whnf
      refine row_map (j := i) (by omega) ?_
      conv => whnf
      refine row_set (by simp; omega) ?_
      conv => whnf
      refine row_set (by simp; omega) ?_
      conv => whnf
      refine .mk ⟨rfl, ?_⟩
      have hg : ds.getD i default = ds[i]'(by omega) := by simp [show i < ds.length by omega]
      have hn0 : 0 < n := by omega
      simp only [hln, hn0, h, beq_self_eq_true, if_true, hI, dSpoil, Int.toNat_natCast, List.set_set, hg, List.map_set]
      rfl
    · refine .mk ⟨rfl, ?_⟩
      simp_all
    · refine .mk ⟨rfl, ?_⟩
      simp_all
def sLongs : List Int := [10, 29, 30, 48, 50, 60]
def sSpoil (L : List Int) (q : Int) (i : Nat) (l : List Pc) : List Pc :=
  l.set i ⟨someV L q [(l.getD i default).key, ⟨#[]⟩, ⟨#[115, 97]⟩], someV L (q + 1) [(l.getD i default).kind, ⟨#[65]⟩], pickV L (q + 1 + 1) [(l.getD i default).long, 0, 200001]⟩
def sectsV (L : List Int) (p most : Int) : List Pc × Int :=
  (fun a : List Pc × Int => if 0 < a.1.length then (if nextV L a.2 12 == 0 then (sSpoil L (a.2 + 1 + 1) (nextV L (a.2 + 1) a.1.length).toNat a.1, a.2 + 1 + 1 + 1 + 1 + 1) else (a.1, a.2 + 1)) else a) (pcIter L (p + 1) ⟨#[115]⟩ sLongs (rangeV L p 0 most).toNat)
set_option maxRecDepth 100000 in
set_option maxHeartbeats 4000000 in
theorem sects_pc {L : List Int} {p : Int} (hst : StOk L p) (hp : p ≤ 800000000) (most : Int) (h0 : 0 ≤ most) (h1 : most ≤ 1000) :
    PCp 33 [.c (.ptr 0 0), .c (.int .i64 most)] [stO L p] (.c (.row 1)) [stO L (sectsV L p most).2, .row 129 3 ((sectsV L p most).1.map encPc)] := by
  have hr := rangeV_in L p 0 most h0
  obtain ⟨n, hn⟩ := Int.eq_ofNat_of_zero_le hr.1
  have hs := fun k => pcIter_snd L (p + 1) ⟨#[115]⟩ sLongs k
  have hl := fun k => pcIter_len L (p + 1) ⟨#[115]⟩ sLongs k
  have hq : ∀ k : Nat, k ≤ n → StOk L (pcIter L (p + 1) ⟨#[115]⟩ sLongs k).2 ∧ StOk L ((pcIter L (p + 1) ⟨#[115]⟩ sLongs k).2 + 1) := by
    intro k hk
    have := hs k
    have h2 := hst.2.1
    exact ⟨⟨hst.1, by omega, by omega⟩, ⟨hst.1, by omega, by omega⟩⟩
  refine fn_sound (mt := mts) tab_fits tab_mixed Try.func33 (by rfl) (by kernel_rfl) (by kernel_rfl) Try.results33 (Nat.le_of_ble_eq_true (by kernel_rfl)) ?_
  conv => whnf
  repeat' (first
    | (refine Split.mk (fun h => ?_) (fun h => ?_) <;> (try simp only [decide_eq_true_eq, decide_eq_false_iff_not, Bool.not_eq_true', Bool.not_eq_false', beq_iff_eq, beq_eq_false_iff_ne] at h) <;> (first | (exfalso; first | omega | exact h trivial) | (conv => whnf)))
    | (refine CondG.mk (fun h => ?_) (fun h => ?_) <;> (try simp only [decide_eq_true_eq, decide_eq_false_iff_not, Bool.not_eq_true', Bool.not_eq_false', beq_iff_eq, beq_eq_false_iff_ne] at h) <;> (first | (exfalso; first | omega | exact h trivial) | (conv => whnf)))
    | (refine CallX.mk _ _ (by first | exact range_ok hst 0 most h0 (by unfold small; omega) (by unfold small; omega)) ?_; conv => whnf)
    | (refine CallG.mk _ _ (by first | exact range_ok hst 0 most h0 (by unfold small; omega) (by unfold small; omega)) ?_; conv => whnf)
    | (refine Ask.mk (by first | omega | (unfold roomOK; simp [cutRows]; done) | (unfold roomOK; simp [cutRows]; omega)) ?_; conv => whnf)
    | (refine SliceG.fr ?_; conv => whnf)
    | fail)
  rw [hn]
  refine loop_count (n) [.sl 5 129 3] [0, 5, 10, 11] (fun k (_ : Unit) => ⟨[(0, .c (.ptr 0 0)), (5, .c (.row 1)), (10, .c (.int .i64 n)), (11, .c (.int .i64 k))], [(0, stO L (pcIter L (p + 1) ⟨#[115]⟩ sLongs k).2), (1, .row 129 3 ((pcIter L (p + 1) ⟨#[115]⟩ sLongs k).1.map encPc))], 2⟩) (fun k (_ : Unit) => True) (()) ?_ ?_ ?_
  · conv => whnf
    exact ⟨rfl, trivial⟩
  · intro k _ hk _
    conv => whnf
    have hqk := hq k (by omega)
    refine .mk (fun _ => ?_) (fun h => ?_)
    rotate_left
    · simp at h; omega
    conv => whnf
    refine .mk (lab_ok _ _ (by decide)) ?_
    conv => whnf
    repeat' (first
      | (refine Split.mk (fun h => ?_) (fun h => ?_) <;> (try simp only [decide_eq_true_eq, decide_eq_false_iff_not, Bool.not_eq_true', Bool.not_eq_false', beq_iff_eq, beq_eq_false_iff_ne] at h) <;> (first | (exfalso; first | omega | exact h trivial) | (conv => whnf)))
      | (refine CondG.mk (fun h => ?_) (fun h => ?_) <;> (try simp only [decide_eq_true_eq, decide_eq_false_iff_not, Bool.not_eq_true', Bool.not_eq_false', beq_iff_eq, beq_eq_false_iff_ne] at h) <;> (first | (exfalso; first | omega | exact h trivial) | (conv => whnf)))
      | (refine CallX.mk _ _ (by first | exact some_ok hqk.1 [bT, bT, bU] (by decide) (by decide) | exact pick_ok hqk.2 sLongs (by decide) (by decide)) ?_; conv => whnf)
      | (refine CallG.mk _ _ (by first | exact some_ok hqk.1 [bT, bT, bU] (by decide) (by decide) | exact pick_ok hqk.2 sLongs (by decide) (by decide)) ?_; conv => whnf)
      | (refine Ask.mk (by first | omega | (unfold roomOK; simp [cutRows]; done) | (unfold roomOK; simp [cutRows]; omega)) ?_; conv => whnf)
      | (refine SliceG.fr ?_; conv => whnf)
      | fail)
    have hlk := hl k
    repeat' (first
      | (refine Split.mk (fun h => ?_) (fun h => ?_) <;> (try simp only [decide_eq_true_eq, decide_eq_false_iff_not, Bool.not_eq_true', Bool.not_eq_false', beq_iff_eq, beq_eq_false_iff_ne] at h) <;> (first | (exfalso; first | omega | exact h trivial) | (conv => whnf)))
      | (refine CondG.mk (fun h => ?_) (fun h => ?_) <;> (try simp only [decide_eq_true_eq, decide_eq_false_iff_not, Bool.not_eq_true', Bool.not_eq_false', beq_iff_eq, beq_eq_false_iff_ne] at h) <;> (first | (exfalso; first | omega | exact h trivial) | (conv => whnf)))
      | (refine Ask.mk (by first | omega | (unfold roomOK; simp [cutRows]; done) | (unfold roomOK; simp [cutRows]; omega)) ?_; conv => whnf)
      | (refine SliceG.fr ?_; conv => whnf)
      | fail)
    refine count_next () hk (by rw [wrap_succ hk (by omega)]; simp only [pcIter, iterN, pcStep, List.map_append]; rfl) trivial
  · intro _ _
    have hqn := hq n (Nat.le_refl _)
    have hln := hl n
    have hsn := hs n
    have hV : sectsV L p most = (fun a : List Pc × Int => if 0 < a.1.length then (if nextV L a.2 12 == 0 then (sSpoil L (a.2 + 1 + 1) (nextV L (a.2 + 1) a.1.length).toNat a.1, a.2 + 1 + 1 + 1 + 1 + 1) else (a.1, a.2 + 1)) else a) (pcIter L (p + 1) ⟨#[115]⟩ sLongs n) := by
      unfold sectsV; rw [hn]; rfl
    rw [hV]
    clear hV hq hs hl
    generalize pcIter L (p + 1) ⟨#[115]⟩ sLongs n = A at *
    obtain ⟨ds, q⟩ := A
    simp only at hqn hln hsn ⊢
    have hlm : (ds.map encPc).length = n := by simp [hln]
    conv => whnf
    repeat' (first
      | (refine Split.mk (fun h => ?_) (fun h => ?_) <;> (try simp only [decide_eq_true_eq, decide_eq_false_iff_not, Bool.not_eq_true', Bool.not_eq_false', beq_iff_eq, beq_eq_false_iff_ne] at h) <;> (first | (exfalso; first | omega | exact h trivial) | (conv => whnf)))
      | (refine CondG.mk (fun h => ?_) (fun h => ?_) <;> (try simp only [decide_eq_true_eq, decide_eq_false_iff_not, Bool.not_eq_true', Bool.not_eq_false', beq_iff_eq, beq_eq_false_iff_ne] at h) <;> (first | (exfalso; first | omega | exact h trivial) | (conv => whnf)))
      | (refine CallX.mk _ _ (by first | exact flip_ok hqn.1 12 (by omega)) ?_; conv => whnf)
      | (refine CallG.mk _ _ (by first | exact flip_ok hqn.1 12 (by omega)) ?_; conv => whnf)
      | (refine Ask.mk (by first | omega | (unfold roomOK; simp [cutRows]; done) | (unfold roomOK; simp [cutRows]; omega)) ?_; conv => whnf)
      | (refine SliceG.fr ?_; conv => whnf)
      | fail)
    · -- one is spoilt
      rw [hlm]
      have hq0 := hqn.1.2.1
      have h2 : ∀ x : Int, q ≤ x → x ≤ q + 10 → StOk L x := fun x h3 h4 => ⟨hst.1, by omega, by omega⟩
      have hi := nextV_lt L (q + 1) n (by omega)
      refine .mk _ _ (next_ok (h2 (q + 1) (by omega) (by omega)) _ (by omega)) ?_
      conv => whnf
      generalize hI : nextV L (q + 1) n = I at *
      obtain ⟨i, rfl⟩ := Int.eq_ofNat_of_zero_le hi.1
      refine .mk ⟨by omega, by rw [hlm]; exact hi.2⟩ ?_
      conv => whnf
      refine row_map (j := i) (by omega) ?_
      conv => whnf
      refine .mk _ _ (some_ok (h2 (q + 1 + 1) (by omega) (by omega)) [ds[i].key, ⟨#[]⟩, ⟨#[115, 97]⟩] (by simp) (by simp)) ?_
      conv => whnf
      refine row_map (j := i) (by omega) ?_
      conv => whnf
      refine .mk _ _ (some_ok (h2 (q + 1 + 1 + 1) (by omega) (by omega)) [ds[i].kind, ⟨#[65]⟩] (by simp) (by simp)) ?_
      conv => whnf
      refine row_map (j := i) (by omega) ?_
      conv => whnf
      refine .mk _ _ (pick_ok (h2 (q + 1 + 1 + 1 + 1) (by omega) (by omega)) [ds[i].long, 0, 200001] (by simp) (by simp)) ?_
      conv => whnf
      refine row_map (j := i) (by omega) ?_
      conv => whnf
      refine row_set (by simp; omega) ?_
      conv => whnf
      refine row_set (by simp; omega) ?_
      conv => whnf
      refine .mk ⟨rfl, ?_⟩
      have hg : ds.getD i default = ds[i]'(by omega) := by simp [show i < ds.length by omega]
      have hn0 : 0 < n := by omega
      simp only [hln, hn0, h, beq_self_eq_true, if_true, hI, sSpoil, Int.toNat_natCast, List.set_set, hg, List.map_set]
      rfl
    · refine .mk ⟨rfl, ?_⟩
      simp_all
    · refine .mk ⟨rfl, ?_⟩
      simp_all
end Go.Proofs.Ytjkammhjpjaekaa
