/- The law PlansWeighed, by the abstract walk. -/
import Derived.Test.YtmpjgbanmdgooaaC11
namespace Go.Proofs.Ytmpjgbanmdgooaa
set_option linter.unusedVariables false
set_option linter.unusedSimpArgs false
open Abs

def lab1 : ByteArray := ⟨#[100]⟩
set_option maxRecDepth 100000 in
set_option maxHeartbeats 4000000 in
theorem stored_pc : PCp 49 [] [] (.c (.bool true)) [] := by
  refine fn_sound (mt := mts) tab_fits tab_mixed Try.func49 (by rfl) (by kernel_rfl) (by kernel_rfl) Try.results49 (Nat.le_of_ble_eq_true (by kernel_rfl)) ?_
  conv => whnf
  refine .mk _ _ (stock_pc ⟨1, 1, ⟨#[100]⟩, ⟨#[116]⟩, ⟨#[]⟩, 5⟩ rfl (by decide +kernel) 1 (by decide) (by decide)) ?_
  conv => whnf
  repeat' (first
    | (refine Split.mk (fun h => ?_) (fun h => ?_) <;> (try simp only [decide_eq_true_eq, decide_eq_false_iff_not, Bool.not_eq_true', Bool.not_eq_false', beq_iff_eq, beq_eq_false_iff_ne] at h) <;> (first | (exfalso; first | omega | exact h trivial) | (conv => whnf)))
    | (refine CondG.mk (fun h => ?_) (fun h => ?_) <;> (try simp only [decide_eq_true_eq, decide_eq_false_iff_not, Bool.not_eq_true', Bool.not_eq_false', beq_iff_eq, beq_eq_false_iff_ne] at h) <;> (first | (exfalso; first | omega | exact h trivial) | (conv => whnf)))
    | (refine Ask.mk (by first | omega | (unfold roomOK; simp [cutRows]; done) | (unfold roomOK; simp [cutRows]; omega)) ?_; conv => whnf)
    | (refine SliceG.fr ?_; conv => whnf)
    | fail)
  refine .mk (by simp) ?_
  conv => whnf
  refine .mk _ rfl ?_
  conv => whnf
  repeat' (first
    | (refine Split.mk (fun h => ?_) (fun h => ?_) <;> (try simp only [decide_eq_true_eq, decide_eq_false_iff_not, Bool.not_eq_true', Bool.not_eq_false', beq_iff_eq, beq_eq_false_iff_ne] at h) <;> (first | (exfalso; first | omega | exact h trivial) | (conv => whnf)))
    | (refine CondG.mk (fun h => ?_) (fun h => ?_) <;> (try simp only [decide_eq_true_eq, decide_eq_false_iff_not, Bool.not_eq_true', Bool.not_eq_false', beq_iff_eq, beq_eq_false_iff_ne] at h) <;> (first | (exfalso; first | omega | exact h trivial) | (conv => whnf)))
    | (refine Ask.mk (by first | omega | (unfold roomOK; simp [cutRows]; done) | (unfold roomOK; simp [cutRows]; omega)) ?_; conv => whnf)
    | (refine SliceG.fr ?_; conv => whnf)
    | fail)
  · exact finb rfl
  · exact absurd rfl h

theorem drumsV_in (L : List Int) (p most : Int) (h0 : 0 ≤ most) : p ≤ (drumsV L p most).2 ∧ (drumsV L p most).2 ≤ p + 2 * most + 6 ∧ ((drumsV L p most).1.length : Int) ≤ most := by
  have hr := rangeV_in L p 0 most h0
  have hs := pcIter_snd L (p + 1) ⟨#[100]⟩ dLongs (rangeV L p 0 most).toNat
  have hl := pcIter_len L (p + 1) ⟨#[100]⟩ dLongs (rangeV L p 0 most).toNat
  unfold drumsV
  simp only
  generalize pcIter L (p + 1) ⟨#[100]⟩ dLongs (rangeV L p 0 most).toNat = A at *
  split
  · split
    · simp only [dSpoil, List.length_set]; omega
    · simp only; omega
  · omega
theorem sectsV_in (L : List Int) (p most : Int) (h0 : 0 ≤ most) : p ≤ (sectsV L p most).2 ∧ (sectsV L p most).2 ≤ p + 2 * most + 6 ∧ ((sectsV L p most).1.length : Int) ≤ most := by
  have hr := rangeV_in L p 0 most h0
  have hs := pcIter_snd L (p + 1) ⟨#[115]⟩ sLongs (rangeV L p 0 most).toNat
  have hl := pcIter_len L (p + 1) ⟨#[115]⟩ sLongs (rangeV L p 0 most).toNat
  unfold sectsV
  simp only
  generalize pcIter L (p + 1) ⟨#[115]⟩ sLongs (rangeV L p 0 most).toNat = A at *
  split
  · split
    · simp only [sSpoil, List.length_set]; omega
    · simp only; omega
  · omega
theorem cutV_in (L : List Int) (p : Int) : p ≤ (cutV L p).2 ∧ (cutV L p).2 ≤ p + 6 := by
  unfold cutV
  split <;> simp only <;> omega
theorem planV_len (L : List Int) (p : Int) (nd n : Nat) : (planV L p nd n).1.length ≤ n + 1 := by
  unfold planV
  split <;> simp [cutsV_len]

end Go.Proofs.Ytmpjgbanmdgooaa
