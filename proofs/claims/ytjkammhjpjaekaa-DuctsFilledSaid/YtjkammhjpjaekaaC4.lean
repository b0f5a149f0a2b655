/- Checks of drums, sections and rules, by the abstract walk. -/
import Derived.Test.YtjkammhjpjaekaaC3
namespace Go.Proofs.Ytjkammhjpjaekaa
set_option linter.unusedVariables false
set_option linter.unusedSimpArgs false
open Abs

def smalls : ByteArray := ⟨#[97, 98, 99, 100, 101, 102, 103, 104, 105, 106, 107, 108, 109, 110, 111, 112, 113, 114, 115, 116, 117, 118, 119, 120, 121, 122]⟩
def keyChars : ByteArray := ⟨#[97, 98, 99, 100, 101, 102, 103, 104, 105, 106, 107, 108, 109, 110, 111, 112, 113, 114, 115, 116, 117, 118, 119, 120, 121, 122, 48, 49, 50, 51, 52, 53, 54, 55, 56, 57, 45, 95]⟩
theorem smalls_ix : ∀ c : Fin 256, decide (0 ≤ Lib.indexByte smalls.data.toList ((c.val : Int).toNat.toUInt8)) = decide (97 ≤ (c.val : Int) ∧ (c.val : Int) ≤ 122) := by decide +kernel
theorem chars_ix : ∀ c : Fin 256, decide (0 ≤ Lib.indexByte keyChars.data.toList ((c.val : Int).toNat.toUInt8)) = isKeyC (c.val : Int) := by decide +kernel
theorem byteAt_lt (s : ByteArray) (i : Nat) : ∃ c : Fin 256, byteAt s i = (c.val : Int) := ⟨⟨(s.data.getD i 0).toNat, UInt8.toNat_lt _⟩, rfl⟩
theorem extract1 (s : ByteArray) (h : 1 ≤ s.size) : (s.extract 0 1).size = 1 ∧ byteAt (s.extract 0 1) 0 = byteAt s 0 := by
  have h1 : (s.extract 0 1).size = 1 := by rw [ByteArray.size_extract]; omega
  refine ⟨h1, ?_⟩
  unfold byteAt
  have h2 : 0 < (s.extract 0 1).data.size := by have : (s.extract 0 1).data.size = 1 := h1; omega
  have h3 : 0 < s.data.size := h
  simp only [Array.getD, h2, h3, dif_pos]
  congr 1
  have : (s.extract 0 1).data = s.data.extract 0 1 := by simp
  simp [this]
theorem keyR_eq (s : ByteArray) (h : 1 ≤ s.size ∧ s.size ≤ 40) : (onlyB (s.extract 0 1) smalls && onlyB s keyChars) = keyB s := by
  obtain ⟨e1, e2⟩ := extract1 s h.1
  rw [Bool.eq_iff_iff, Bool.and_eq_true]
  simp only [onlyB, keyB, decide_eq_true_eq, e1]
  have k1 : (∀ i, i < 1 → 0 ≤ Lib.indexByte smalls.data.toList (byteAt (s.extract 0 1) i).toNat.toUInt8) ↔ (97 ≤ byteAt s 0 ∧ byteAt s 0 ≤ 122) := by
    obtain ⟨c, hc⟩ := byteAt_lt s 0
    have := smalls_ix c
    rw [← hc, decide_eq_decide] at this
    rw [← this, ← e2]
    constructor
    · intro hh; exact hh 0 (by omega)
    · intro hh i hi
      have : i = 0 := by omega
      subst this; exact hh
  have k2 : (∀ i, i < s.size → 0 ≤ Lib.indexByte keyChars.data.toList (byteAt s i).toNat.toUInt8) ↔ (∀ i, i < s.size → isKeyC (byteAt s i) = true) := by
    have : ∀ i, 0 ≤ Lib.indexByte keyChars.data.toList (byteAt s i).toNat.toUInt8 ↔ isKeyC (byteAt s i) = true := by
      intro i
      obtain ⟨c, hc⟩ := byteAt_lt s i
      rw [hc, ← chars_ix c, decide_eq_true_eq]
    constructor
    · intro hh i hi; exact (this i).1 (hh i hi)
    · intro hh i hi; exact (this i).2 (hh i hi)
  rw [k1, k2]
  constructor
  · rintro ⟨⟨a, b⟩, c⟩; exact ⟨by omega, by omega, a, b, c⟩
  · rintro ⟨_, _, a, b, c⟩; exact ⟨⟨a, b⟩, c⟩
set_option maxRecDepth 100000 in
set_option maxHeartbeats 4000000 in
theorem rKey_pc (s : ByteArray) : PCp 78 [.c (.str s)] [] (.c (.bool (keyB s))) [] := by
  refine fn_sound (mt := mts) tab_fits tab_mixed Try.func78 (by rfl) (by kernel_rfl) (by kernel_rfl) Try.results78 (Nat.le_of_ble_eq_true (by kernel_rfl)) ?_
  conv => whnf
  repeat' (first
    | (refine Split.mk (fun h => ?_) (fun h => ?_) <;> (try simp only [decide_eq_true_eq, decide_eq_false_iff_not, Bool.not_eq_true', Bool.not_eq_false', beq_iff_eq, beq_eq_false_iff_ne] at h) <;> (first | (exfalso; first | omega | exact h trivial) | (conv => whnf)))
    | (refine CondG.mk (fun h => ?_) (fun h => ?_) <;> (try simp only [decide_eq_true_eq, decide_eq_false_iff_not, Bool.not_eq_true', Bool.not_eq_false', beq_iff_eq, beq_eq_false_iff_ne] at h) <;> (first | (exfalso; first | omega | exact h trivial) | (conv => whnf)))
    | (refine CallX.mk _ _ (by first | exact rIn_pc _ _ _) ?_; conv => whnf)
    | (refine CallG.mk _ _ (by first | exact rIn_pc _ _ _) ?_; conv => whnf)
    | (refine Ask.mk (by first | omega | (unfold roomOK; simp [cutRows]; done) | (unfold roomOK; simp [cutRows]; omega)) ?_; conv => whnf)
    | (refine SliceG.fr ?_; conv => whnf)
    | fail)
  · have hk : 1 ≤ s.size ∧ s.size ≤ 40 := ⟨by omega, by omega⟩
    refine .mk _ _ (only_pc (s.extract 0 1) smalls (by rw [ByteArray.size_extract]; omega)) ?_
    conv => whnf
    repeat' (first
      | (refine Split.mk (fun h => ?_) (fun h => ?_) <;> (try simp only [decide_eq_true_eq, decide_eq_false_iff_not, Bool.not_eq_true', Bool.not_eq_false', beq_iff_eq, beq_eq_false_iff_ne] at h) <;> (first | (exfalso; first | omega | exact h trivial) | (conv => whnf)))
      | (refine CondG.mk (fun h => ?_) (fun h => ?_) <;> (try simp only [decide_eq_true_eq, decide_eq_false_iff_not, Bool.not_eq_true', Bool.not_eq_false', beq_iff_eq, beq_eq_false_iff_ne] at h) <;> (first | (exfalso; first | omega | exact h trivial) | (conv => whnf)))
      | (refine CallX.mk _ _ (by first | exact only_pc s keyChars (by omega)) ?_; conv => whnf)
      | (refine CallG.mk _ _ (by first | exact only_pc s keyChars (by omega)) ?_; conv => whnf)
      | (refine Ask.mk (by first | omega | (unfold roomOK; simp [cutRows]; done) | (unfold roomOK; simp [cutRows]; omega)) ?_; conv => whnf)
      | (refine SliceG.fr ?_; conv => whnf)
      | fail)
    all_goals exact finb (by rw [← keyR_eq s hk]; simp_all)
  · exact finb (by rw [eq_comm, keyB, decide_eq_false_iff_not]; intro hh; have h1 := hh.1; have h2 := hh.2.1; omega)

def leB (a b : ByteArray) : Bool := Op.bytesLess a.toList b.toList || a.toList == b.toList
theorem leB_nil (s : ByteArray) (h : keyB s = true) : leB s ⟨#[]⟩ = false := by
  have h1 : 0 < s.size := by simp only [keyB, decide_eq_true_eq] at h; exact h.1
  unfold leB
  rw [size_nil, ByteArray.toList_eq, ByteArray.toList_eq]
  have h2 : Op.bytesLess s.data.toList [] = false := by cases s.data.toList <;> rfl
  rw [Bool.or_eq_false_iff]
  exact ⟨h2, decide_eq_false (by omega)⟩
def pcErr (first : Bool) (before : ByteArray) (x : Pc) : Int :=
  if !keyB x.key || !keyB x.kind then 5 else if !first && leB x.key before then 7 else if x.long < 1 ∨ 200000 < x.long then 1 else 0
set_option maxRecDepth 100000 in
set_option maxHeartbeats 4000000 in
theorem itemFault_pc (x : Pc) (before : ByteArray) (first : Bool) : PCp 99 [.c (.str x.key), .c (.str x.kind), .c (.int .i64 x.long), .c (.str before), .c (.bool first)] [] (.c (.int .i64 (pcErr first before x))) [] := by
  refine fn_sound (mt := mts) tab_fits tab_mixed Try.func99 (by rfl) (by kernel_rfl) (by kernel_rfl) Try.results99 (Nat.le_of_ble_eq_true (by kernel_rfl)) ?_
  conv => whnf
  repeat' (first
    | (refine Split.mk (fun h => ?_) (fun h => ?_) <;> (try simp only [decide_eq_true_eq, decide_eq_false_iff_not, Bool.not_eq_true', Bool.not_eq_false', beq_iff_eq, beq_eq_false_iff_ne] at h) <;> (first | (exfalso; first | omega | exact h trivial) | (conv => whnf)))
    | (refine CondG.mk (fun h => ?_) (fun h => ?_) <;> (try simp only [decide_eq_true_eq, decide_eq_false_iff_not, Bool.not_eq_true', Bool.not_eq_false', beq_iff_eq, beq_eq_false_iff_ne] at h) <;> (first | (exfalso; first | omega | exact h trivial) | (conv => whnf)))
    | (refine CallX.mk _ _ (by first | exact bKey_pc _ | exact bOut_pc _ _ _) ?_; conv => whnf)
    | (refine CallG.mk _ _ (by first | exact bKey_pc _ | exact bOut_pc _ _ _) ?_; conv => whnf)
    | (refine Ask.mk (by first | omega | (unfold roomOK; simp [cutRows]; done) | (unfold roomOK; simp [cutRows]; omega)) ?_; conv => whnf)
    | (refine SliceG.fr ?_; conv => whnf)
    | fail)
  all_goals exact fini (by simp_all [pcErr, leB])

def pcsErr : Bool → ByteArray → List Pc → Int
  | _, _, [] => 0
  | f, b, x :: r => if pcErr f b x = 0 then pcsErr false x.key r else pcErr f b x
def pcFault (l : List Pc) : Int := if 100 < l.length then 2 else pcsErr true ⟨#[]⟩ l
theorem pcsErr_first (b : ByteArray) (l : List Pc) : pcsErr true ⟨#[]⟩ l = pcsErr false ⟨#[]⟩ l := by
  cases l with
  | nil => rfl
  | cons x r =>
    have : pcErr true ⟨#[]⟩ x = pcErr false ⟨#[]⟩ x := by
      unfold pcErr
      by_cases h : keyB x.key = true
      · simp [leB_nil _ h]
      · simp [h]
    simp only [pcsErr, this]
theorem drop_cons {α : Type} {l : List α} {k : Nat} (h : k < l.length) : l.drop k = l[k] :: l.drop (k + 1) := List.drop_eq_getElem_cons h

set_option maxRecDepth 100000 in
set_option maxHeartbeats 4000000 in
theorem checkDrums_pc (l : List Pc) : PCp 42 [.c (.lst 3 (l.map encPc))] [] (.c (.int .i64 (pcFault l))) [] := by
  have hlm : (l.map encPc).length = l.length := List.length_map ..
  refine fn_sound (mt := mts) tab_fits tab_mixed Try.func42 (by rfl) (by kernel_rfl) (by kernel_rfl) Try.results42 (Nat.le_of_ble_eq_true (by kernel_rfl)) ?_
  conv => whnf
  repeat' (first
    | (refine Split.mk (fun h => ?_) (fun h => ?_) <;> (try simp only [decide_eq_true_eq, decide_eq_false_iff_not, Bool.not_eq_true', Bool.not_eq_false', beq_iff_eq, beq_eq_false_iff_ne] at h) <;> (first | (exfalso; first | omega | exact h trivial) | (conv => whnf)))
    | (refine CondG.mk (fun h => ?_) (fun h => ?_) <;> (try simp only [decide_eq_true_eq, decide_eq_false_iff_not, Bool.not_eq_true', Bool.not_eq_false', beq_iff_eq, beq_eq_false_iff_ne] at h) <;> (first | (exfalso; first | omega | exact h trivial) | (conv => whnf)))
    | (refine Ask.mk (by first | omega | (unfold roomOK; simp [cutRows]; done) | (unfold roomOK; simp [cutRows]; omega)) ?_; conv => whnf)
    | (refine SliceG.fr ?_; conv => whnf)
    | fail)
  · exact fini (by simp_all [pcFault] <;> omega)
  have hF : pcFault l = pcsErr true ⟨#[]⟩ l := by rw [pcFault, if_neg (by omega)]
  refine loop_count (l.length) [] [3, 10, 11, 12] (fun k (b : ByteArray) => ⟨[(3, .c (.str b)), (10, .c (.lst 3 (l.map encPc))), (11, .c (.int .i64 (l.map encPc).length)), (12, .c (.int .i64 k))], [], 0⟩) (fun k (b : ByteArray) => pcsErr (decide (k = 0)) b (l.drop k) = pcFault l) (⟨#[]⟩) ?_ ?_ ?_
  · conv => whnf
    exact ⟨rfl, by rw [hF]; rfl⟩
  · intro k b hk hi
    rw [drop_cons hk, pcsErr] at hi
    conv => whnf
    repeat' (first
      | (refine Split.mk (fun h => ?_) (fun h => ?_) <;> (try simp only [decide_eq_true_eq, decide_eq_false_iff_not, Bool.not_eq_true', Bool.not_eq_false', beq_iff_eq, beq_eq_false_iff_ne] at h) <;> (first | (exfalso; first | omega | exact h trivial) | (conv => whnf)))
      | (refine CondG.mk (fun h => ?_) (fun h => ?_) <;> (try simp only [decide_eq_true_eq, decide_eq_false_iff_not, Bool.not_eq_true', Bool.not_eq_false', beq_iff_eq, beq_eq_false_iff_ne] at h) <;> (first | (exfalso; first | omega | exact h trivial) | (conv => whnf)))
      | (refine Ask.mk (by first | omega | (unfold roomOK; simp [cutRows]; done) | (unfold roomOK; simp [cutRows]; omega)) ?_; conv => whnf)
      | (refine SliceG.fr ?_; conv => whnf)
      | fail)
    refine idx_map k hk rfl ?_
    conv => whnf
    refine .mk _ _ (itemFault_pc l[k] b _) ?_
    conv => whnf
    have hd : ((k : Int) == 0) = decide (k = 0) := by rw [Bool.eq_iff_iff]; simp
    rw [hd]
    repeat' (first
      | (refine Split.mk (fun h => ?_) (fun h => ?_) <;> (try simp only [decide_eq_true_eq, decide_eq_false_iff_not, Bool.not_eq_true', Bool.not_eq_false', beq_iff_eq, beq_eq_false_iff_ne] at h) <;> (first | (exfalso; first | omega | exact h trivial) | (conv => whnf)))
      | (refine CondG.mk (fun h => ?_) (fun h => ?_) <;> (try simp only [decide_eq_true_eq, decide_eq_false_iff_not, Bool.not_eq_true', Bool.not_eq_false', beq_iff_eq, beq_eq_false_iff_ne] at h) <;> (first | (exfalso; first | omega | exact h trivial) | (conv => whnf)))
      | (refine Ask.mk (by first | omega | (unfold roomOK; simp [cutRows]; done) | (unfold roomOK; simp [cutRows]; omega)) ?_; conv => whnf)
      | (refine SliceG.fr ?_; conv => whnf)
      | fail)
    · rw [if_neg (by simpa using h)] at hi
      exact fini hi
    · rw [if_pos (by simpa using h)] at hi
      refine count_next (l[k].key) hk (by rw [wrap_succ hk (by omega)]; rfl) ?_
      simpa using hi
  · intro b hi
    rw [List.drop_of_length_le (Nat.le_refl _)] at hi
    conv => whnf
    repeat' (first
      | (refine Split.mk (fun h => ?_) (fun h => ?_) <;> (try simp only [decide_eq_true_eq, decide_eq_false_iff_not, Bool.not_eq_true', Bool.not_eq_false', beq_iff_eq, beq_eq_false_iff_ne] at h) <;> (first | (exfalso; first | omega | exact h trivial) | (conv => whnf)))
      | (refine CondG.mk (fun h => ?_) (fun h => ?_) <;> (try simp only [decide_eq_true_eq, decide_eq_false_iff_not, Bool.not_eq_true', Bool.not_eq_false', beq_iff_eq, beq_eq_false_iff_ne] at h) <;> (first | (exfalso; first | omega | exact h trivial) | (conv => whnf)))
      | (refine Ask.mk (by first | omega | (unfold roomOK; simp [cutRows]; done) | (unfold roomOK; simp [cutRows]; omega)) ?_; conv => whnf)
      | (refine SliceG.fr ?_; conv => whnf)
      | fail)
    exact fini (by rw [← hi]; rfl)
set_option maxRecDepth 100000 in
set_option maxHeartbeats 4000000 in
theorem checkSections_pc (l : List Pc) : PCp 44 [.c (.lst 3 (l.map encPc))] [] (.c (.int .i64 (pcFault l))) [] := by
  have hlm : (l.map encPc).length = l.length := List.length_map ..
  refine fn_sound (mt := mts) tab_fits tab_mixed Try.func44 (by rfl) (by kernel_rfl) (by kernel_rfl) Try.results44 (Nat.le_of_ble_eq_true (by kernel_rfl)) ?_
  conv => whnf
  repeat' (first
    | (refine Split.mk (fun h => ?_) (fun h => ?_) <;> (try simp only [decide_eq_true_eq, decide_eq_false_iff_not, Bool.not_eq_true', Bool.not_eq_false', beq_iff_eq, beq_eq_false_iff_ne] at h) <;> (first | (exfalso; first | omega | exact h trivial) | (conv => whnf)))
    | (refine CondG.mk (fun h => ?_) (fun h => ?_) <;> (try simp only [decide_eq_true_eq, decide_eq_false_iff_not, Bool.not_eq_true', Bool.not_eq_false', beq_iff_eq, beq_eq_false_iff_ne] at h) <;> (first | (exfalso; first | omega | exact h trivial) | (conv => whnf)))
    | (refine Ask.mk (by first | omega | (unfold roomOK; simp [cutRows]; done) | (unfold roomOK; simp [cutRows]; omega)) ?_; conv => whnf)
    | (refine SliceG.fr ?_; conv => whnf)
    | fail)
  · exact fini (by simp_all [pcFault] <;> omega)
  have hF : pcFault l = pcsErr true ⟨#[]⟩ l := by rw [pcFault, if_neg (by omega)]
  refine loop_count (l.length) [] [3, 10, 11, 12] (fun k (b : ByteArray) => ⟨[(3, .c (.str b)), (10, .c (.lst 3 (l.map encPc))), (11, .c (.int .i64 (l.map encPc).length)), (12, .c (.int .i64 k))], [], 0⟩) (fun k (b : ByteArray) => pcsErr (decide (k = 0)) b (l.drop k) = pcFault l) (⟨#[]⟩) ?_ ?_ ?_
  · conv => whnf
    exact ⟨rfl, by rw [hF]; rfl⟩
  · intro k b hk hi
    rw [drop_cons hk, pcsErr] at hi
    conv => whnf
    repeat' (first
      | (refine Split.mk (fun h => ?_) (fun h => ?_) <;> (try simp only [decide_eq_true_eq, decide_eq_false_iff_not, Bool.not_eq_true', Bool.not_eq_false', beq_iff_eq, beq_eq_false_iff_ne] at h) <;> (first | (exfalso; first | omega | exact h trivial) | (conv => whnf)))
      | (refine CondG.mk (fun h => ?_) (fun h => ?_) <;> (try simp only [decide_eq_true_eq, decide_eq_false_iff_not, Bool.not_eq_true', Bool.not_eq_false', beq_iff_eq, beq_eq_false_iff_ne] at h) <;> (first | (exfalso; first | omega | exact h trivial) | (conv => whnf)))
      | (refine Ask.mk (by first | omega | (unfold roomOK; simp [cutRows]; done) | (unfold roomOK; simp [cutRows]; omega)) ?_; conv => whnf)
      | (refine SliceG.fr ?_; conv => whnf)
      | fail)
    refine idx_map k hk rfl ?_
    conv => whnf
    refine .mk _ _ (itemFault_pc l[k] b _) ?_
    conv => whnf
    have hd : ((k : Int) == 0) = decide (k = 0) := by rw [Bool.eq_iff_iff]; simp
    rw [hd]
    repeat' (first
      | (refine Split.mk (fun h => ?_) (fun h => ?_) <;> (try simp only [decide_eq_true_eq, decide_eq_false_iff_not, Bool.not_eq_true', Bool.not_eq_false', beq_iff_eq, beq_eq_false_iff_ne] at h) <;> (first | (exfalso; first | omega | exact h trivial) | (conv => whnf)))
      | (refine CondG.mk (fun h => ?_) (fun h => ?_) <;> (try simp only [decide_eq_true_eq, decide_eq_false_iff_not, Bool.not_eq_true', Bool.not_eq_false', beq_iff_eq, beq_eq_false_iff_ne] at h) <;> (first | (exfalso; first | omega | exact h trivial) | (conv => whnf)))
      | (refine Ask.mk (by first | omega | (unfold roomOK; simp [cutRows]; done) | (unfold roomOK; simp [cutRows]; omega)) ?_; conv => whnf)
      | (refine SliceG.fr ?_; conv => whnf)
      | fail)
    · rw [if_neg (by simpa using h)] at hi
      exact fini hi
    · rw [if_pos (by simpa using h)] at hi
      refine count_next (l[k].key) hk (by rw [wrap_succ hk (by omega)]; rfl) ?_
      simpa using hi
  · intro b hi
    rw [List.drop_of_length_le (Nat.le_refl _)] at hi
    conv => whnf
    repeat' (first
      | (refine Split.mk (fun h => ?_) (fun h => ?_) <;> (try simp only [decide_eq_true_eq, decide_eq_false_iff_not, Bool.not_eq_true', Bool.not_eq_false', beq_iff_eq, beq_eq_false_iff_ne] at h) <;> (first | (exfalso; first | omega | exact h trivial) | (conv => whnf)))
      | (refine CondG.mk (fun h => ?_) (fun h => ?_) <;> (try simp only [decide_eq_true_eq, decide_eq_false_iff_not, Bool.not_eq_true', Bool.not_eq_false', beq_iff_eq, beq_eq_false_iff_ne] at h) <;> (first | (exfalso; first | omega | exact h trivial) | (conv => whnf)))
      | (refine Ask.mk (by first | omega | (unfold roomOK; simp [cutRows]; done) | (unfold roomOK; simp [cutRows]; omega)) ?_; conv => whnf)
      | (refine SliceG.fr ?_; conv => whnf)
      | fail)
    exact fini (by rw [← hi]; rfl)

def ruleErr (r : Int × Int) : Int := if r.1 < 0 ∨ 1000 < r.1 ∨ r.2 < 0 ∨ 1000 < r.2 then 1 else 0
set_option maxRecDepth 100000 in
set_option maxHeartbeats 4000000 in
theorem checkRule_pc (r : Int × Int) : PCp 46 [.agg [.int .i64 r.1, .int .i64 r.2]] [] (.c (.int .i64 (ruleErr r))) [] := by
  refine fn_sound (mt := mts) tab_fits tab_mixed Try.func46 (by rfl) (by kernel_rfl) (by kernel_rfl) Try.results46 (Nat.le_of_ble_eq_true (by kernel_rfl)) ?_
  conv => whnf
  repeat' (first
    | (refine Split.mk (fun h => ?_) (fun h => ?_) <;> (try simp only [decide_eq_true_eq, decide_eq_false_iff_not, Bool.not_eq_true', Bool.not_eq_false', beq_iff_eq, beq_eq_false_iff_ne] at h) <;> (first | (exfalso; first | omega | exact h trivial) | (conv => whnf)))
    | (refine CondG.mk (fun h => ?_) (fun h => ?_) <;> (try simp only [decide_eq_true_eq, decide_eq_false_iff_not, Bool.not_eq_true', Bool.not_eq_false', beq_iff_eq, beq_eq_false_iff_ne] at h) <;> (first | (exfalso; first | omega | exact h trivial) | (conv => whnf)))
    | (refine CallX.mk _ _ (by first | exact bOut_pc _ _ _) ?_; conv => whnf)
    | (refine CallG.mk _ _ (by first | exact bOut_pc _ _ _) ?_; conv => whnf)
    | (refine Ask.mk (by first | omega | (unfold roomOK; simp [cutRows]; done) | (unfold roomOK; simp [cutRows]; omega)) ?_; conv => whnf)
    | (refine SliceG.fr ?_; conv => whnf)
    | fail)
  all_goals exact fini (by simp_all [ruleErr] <;> omega)
set_option maxRecDepth 100000 in
set_option maxHeartbeats 4000000 in
theorem cutFault_pc (r : Int × Int) : PCp 47 [.agg [.int .i64 r.1, .int .i64 r.2]] [] (.c (.int .i64 (ruleErr r))) [] := by
  refine fn_sound (mt := mts) tab_fits tab_mixed Try.func47 (by rfl) (by kernel_rfl) (by kernel_rfl) Try.results47 (Nat.le_of_ble_eq_true (by kernel_rfl)) ?_
  conv => whnf
  repeat' (first
    | (refine Split.mk (fun h => ?_) (fun h => ?_) <;> (try simp only [decide_eq_true_eq, decide_eq_false_iff_not, Bool.not_eq_true', Bool.not_eq_false', beq_iff_eq, beq_eq_false_iff_ne] at h) <;> (first | (exfalso; first | omega | exact h trivial) | (conv => whnf)))
    | (refine CondG.mk (fun h => ?_) (fun h => ?_) <;> (try simp only [decide_eq_true_eq, decide_eq_false_iff_not, Bool.not_eq_true', Bool.not_eq_false', beq_iff_eq, beq_eq_false_iff_ne] at h) <;> (first | (exfalso; first | omega | exact h trivial) | (conv => whnf)))
    | (refine CallX.mk _ _ (by first | exact rIn_pc _ _ _) ?_; conv => whnf)
    | (refine CallG.mk _ _ (by first | exact rIn_pc _ _ _) ?_; conv => whnf)
    | (refine Ask.mk (by first | omega | (unfold roomOK; simp [cutRows]; done) | (unfold roomOK; simp [cutRows]; omega)) ?_; conv => whnf)
    | (refine SliceG.fr ?_; conv => whnf)
    | fail)
  all_goals exact fini (by simp_all [ruleErr] <;> omega)
set_option maxRecDepth 100000 in
set_option maxHeartbeats 4000000 in
theorem first_pc (l : List Int) (hl : l.length ≤ 1000000) : PCp 70 [.c (.lst 1 (l.map encI))] [] (.c (.int .i64 (firstErr l))) [] := by
  have hlm : (l.map encI).length = l.length := List.length_map ..
  refine fn_sound (mt := mts) tab_fits tab_mixed Try.func70 (by rfl) (by kernel_rfl) (by kernel_rfl) Try.results70 (Nat.le_of_ble_eq_true (by kernel_rfl)) ?_
  conv => whnf
  refine loop_count (l.length) [] [5, 6, 7] (fun k (_ : Unit) => ⟨[(5, .c (.lst 1 (l.map encI))), (6, .c (.int .i64 (l.map encI).length)), (7, .c (.int .i64 k))], [], 0⟩) (fun k (_ : Unit) => firstErr (l.drop k) = firstErr l) (()) ?_ ?_ ?_
  · conv => whnf
    exact ⟨rfl, rfl⟩
  · intro k _ hk hi
    rw [drop_cons hk, firstErr] at hi
    conv => whnf
    repeat' (first
      | (refine Split.mk (fun h => ?_) (fun h => ?_) <;> (try simp only [decide_eq_true_eq, decide_eq_false_iff_not, Bool.not_eq_true', Bool.not_eq_false', beq_iff_eq, beq_eq_false_iff_ne] at h) <;> (first | (exfalso; first | omega | exact h trivial) | (conv => whnf)))
      | (refine CondG.mk (fun h => ?_) (fun h => ?_) <;> (try simp only [decide_eq_true_eq, decide_eq_false_iff_not, Bool.not_eq_true', Bool.not_eq_false', beq_iff_eq, beq_eq_false_iff_ne] at h) <;> (first | (exfalso; first | omega | exact h trivial) | (conv => whnf)))
      | (refine Ask.mk (by first | omega | (unfold roomOK; simp [cutRows]; done) | (unfold roomOK; simp [cutRows]; omega)) ?_; conv => whnf)
      | (refine SliceG.fr ?_; conv => whnf)
      | fail)
    refine idx_map k hk rfl ?_
    conv => whnf
    repeat' (first
      | (refine Split.mk (fun h => ?_) (fun h => ?_) <;> (try simp only [decide_eq_true_eq, decide_eq_false_iff_not, Bool.not_eq_true', Bool.not_eq_false', beq_iff_eq, beq_eq_false_iff_ne] at h) <;> (first | (exfalso; first | omega | exact h trivial) | (conv => whnf)))
      | (refine CondG.mk (fun h => ?_) (fun h => ?_) <;> (try simp only [decide_eq_true_eq, decide_eq_false_iff_not, Bool.not_eq_true', Bool.not_eq_false', beq_iff_eq, beq_eq_false_iff_ne] at h) <;> (first | (exfalso; first | omega | exact h trivial) | (conv => whnf)))
      | (refine Ask.mk (by first | omega | (unfold roomOK; simp [cutRows]; done) | (unfold roomOK; simp [cutRows]; omega)) ?_; conv => whnf)
      | (refine SliceG.fr ?_; conv => whnf)
      | fail)
    · exact fini (by rw [← hi, if_neg (by simpa using h)])
    · refine count_next () hk (by rw [wrap_succ hk (by omega)]; rfl) ?_
      rw [← hi, if_pos (by simpa using h)]
  · intro _ hi
    rw [List.drop_of_length_le (Nat.le_refl _)] at hi
    conv => whnf
    repeat' (first
      | (refine Split.mk (fun h => ?_) (fun h => ?_) <;> (try simp only [decide_eq_true_eq, decide_eq_false_iff_not, Bool.not_eq_true', Bool.not_eq_false', beq_iff_eq, beq_eq_false_iff_ne] at h) <;> (first | (exfalso; first | omega | exact h trivial) | (conv => whnf)))
      | (refine CondG.mk (fun h => ?_) (fun h => ?_) <;> (try simp only [decide_eq_true_eq, decide_eq_false_iff_not, Bool.not_eq_true', Bool.not_eq_false', beq_iff_eq, beq_eq_false_iff_ne] at h) <;> (first | (exfalso; first | omega | exact h trivial) | (conv => whnf)))
      | (refine Ask.mk (by first | omega | (unfold roomOK; simp [cutRows]; done) | (unfold roomOK; simp [cutRows]; omega)) ?_; conv => whnf)
      | (refine SliceG.fr ?_; conv => whnf)
      | fail)
    exact fini (by rw [← hi]; rfl)
set_option maxRecDepth 100000 in
set_option maxHeartbeats 4000000 in
theorem errs_pc (l : List Int) (hl : l.length ≤ 1000000) : PCp 17 [.c (.lst 1 (l.map encI))] [] (.c (.int .i64 (firstErr l))) [] := by
  have hlm : (l.map encI).length = l.length := List.length_map ..
  refine fn_sound (mt := mts) tab_fits tab_mixed Try.func17 (by rfl) (by kernel_rfl) (by kernel_rfl) Try.results17 (Nat.le_of_ble_eq_true (by kernel_rfl)) ?_
  conv => whnf
  refine loop_count (l.length) [] [5, 6, 7] (fun k (_ : Unit) => ⟨[(5, .c (.lst 1 (l.map encI))), (6, .c (.int .i64 (l.map encI).length)), (7, .c (.int .i64 k))], [], 0⟩) (fun k (_ : Unit) => firstErr (l.drop k) = firstErr l) (()) ?_ ?_ ?_
  · conv => whnf
    exact ⟨rfl, rfl⟩
  · intro k _ hk hi
    rw [drop_cons hk, firstErr] at hi
    conv => whnf
    repeat' (first
      | (refine Split.mk (fun h => ?_) (fun h => ?_) <;> (try simp only [decide_eq_true_eq, decide_eq_false_iff_not, Bool.not_eq_true', Bool.not_eq_false', beq_iff_eq, beq_eq_false_iff_ne] at h) <;> (first | (exfalso; first | omega | exact h trivial) | (conv => whnf)))
      | (refine CondG.mk (fun h => ?_) (fun h => ?_) <;> (try simp only [decide_eq_true_eq, decide_eq_false_iff_not, Bool.not_eq_true', Bool.not_eq_false', beq_iff_eq, beq_eq_false_iff_ne] at h) <;> (first | (exfalso; first | omega | exact h trivial) | (conv => whnf)))
      | (refine Ask.mk (by first | omega | (unfold roomOK; simp [cutRows]; done) | (unfold roomOK; simp [cutRows]; omega)) ?_; conv => whnf)
      | (refine SliceG.fr ?_; conv => whnf)
      | fail)
    refine idx_map k hk rfl ?_
    conv => whnf
    repeat' (first
      | (refine Split.mk (fun h => ?_) (fun h => ?_) <;> (try simp only [decide_eq_true_eq, decide_eq_false_iff_not, Bool.not_eq_true', Bool.not_eq_false', beq_iff_eq, beq_eq_false_iff_ne] at h) <;> (first | (exfalso; first | omega | exact h trivial) | (conv => whnf)))
      | (refine CondG.mk (fun h => ?_) (fun h => ?_) <;> (try simp only [decide_eq_true_eq, decide_eq_false_iff_not, Bool.not_eq_true', Bool.not_eq_false', beq_iff_eq, beq_eq_false_iff_ne] at h) <;> (first | (exfalso; first | omega | exact h trivial) | (conv => whnf)))
      | (refine Ask.mk (by first | omega | (unfold roomOK; simp [cutRows]; done) | (unfold roomOK; simp [cutRows]; omega)) ?_; conv => whnf)
      | (refine SliceG.fr ?_; conv => whnf)
      | fail)
    · exact fini (by rw [← hi, if_neg (by simpa using h)])
    · refine count_next () hk (by rw [wrap_succ hk (by omega)]; rfl) ?_
      rw [← hi, if_pos (by simpa using h)]
  · intro _ hi
    rw [List.drop_of_length_le (Nat.le_refl _)] at hi
    conv => whnf
    repeat' (first
      | (refine Split.mk (fun h => ?_) (fun h => ?_) <;> (try simp only [decide_eq_true_eq, decide_eq_false_iff_not, Bool.not_eq_true', Bool.not_eq_false', beq_iff_eq, beq_eq_false_iff_ne] at h) <;> (first | (exfalso; first | omega | exact h trivial) | (conv => whnf)))
      | (refine CondG.mk (fun h => ?_) (fun h => ?_) <;> (try simp only [decide_eq_true_eq, decide_eq_false_iff_not, Bool.not_eq_true', Bool.not_eq_false', beq_iff_eq, beq_eq_false_iff_ne] at h) <;> (first | (exfalso; first | omega | exact h trivial) | (conv => whnf)))
      | (refine Ask.mk (by first | omega | (unfold roomOK; simp [cutRows]; done) | (unfold roomOK; simp [cutRows]; omega)) ?_; conv => whnf)
      | (refine SliceG.fr ?_; conv => whnf)
      | fail)
    exact fini (by rw [← hi]; rfl)
def allErr (d s : List Pc) (r : Int × Int) : Int := firstErr [pcFault d, pcFault s, ruleErr r]
set_option maxRecDepth 100000 in
set_option maxHeartbeats 4000000 in
theorem dFault_pc (d s : List Pc) (r : Int × Int) : PCp 135 [.c (.lst 3 (d.map encPc)), .c (.lst 3 (s.map encPc)), .agg [.int .i64 r.1, .int .i64 r.2]] [] (.c (.int .i64 (allErr d s r))) [] := by
  refine fn_sound (mt := mts) tab_fits tab_mixed Try.func135 (by rfl) (by kernel_rfl) (by kernel_rfl) Try.results135 (Nat.le_of_ble_eq_true (by kernel_rfl)) ?_
  conv => whnf
  repeat' (first
    | (refine Split.mk (fun h => ?_) (fun h => ?_) <;> (try simp only [decide_eq_true_eq, decide_eq_false_iff_not, Bool.not_eq_true', Bool.not_eq_false', beq_iff_eq, beq_eq_false_iff_ne] at h) <;> (first | (exfalso; first | omega | exact h trivial) | (conv => whnf)))
    | (refine CondG.mk (fun h => ?_) (fun h => ?_) <;> (try simp only [decide_eq_true_eq, decide_eq_false_iff_not, Bool.not_eq_true', Bool.not_eq_false', beq_iff_eq, beq_eq_false_iff_ne] at h) <;> (first | (exfalso; first | omega | exact h trivial) | (conv => whnf)))
    | (refine CallX.mk _ _ (by first | exact checkDrums_pc _ | exact checkSections_pc _ | exact checkRule_pc r | exact first_pc [pcFault d, pcFault s, ruleErr r] (by simp)) ?_; conv => whnf)
    | (refine CallG.mk _ _ (by first | exact checkDrums_pc _ | exact checkSections_pc _ | exact checkRule_pc r | exact first_pc [pcFault d, pcFault s, ruleErr r] (by simp)) ?_; conv => whnf)
    | (refine Ask.mk (by first | omega | (unfold roomOK; simp [cutRows]; done) | (unfold roomOK; simp [cutRows]; omega)) ?_; conv => whnf)
    | (refine SliceG.fr ?_; conv => whnf)
    | fail)
  exact fini rfl
end Go.Proofs.Ytjkammhjpjaekaa
