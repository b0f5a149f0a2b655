/- Contracts of package trace and of the reference for every input, and the self-test of the laws. -/
import Derived.Test.YtfocpjjcllpfbaaDetR
import Derived.Test.YtfocpjjcllpfbaaEq
import Derived.Test.YtfocpjjcllpfbaaTrD
namespace Go.Proofs.Ytfocpjjcllpfbaa
open Go.RowKit

theorem firstErr2 {a b : Int} (h : firstErr [a, b] = 0) : a = 0 ∧ b = 0 := by
  simp only [firstErr] at h
  split at h <;> simp_all

theorem fault0 {p : List Int} {st wd ls nm dn : Int} (h : faultOf p st wd ls nm dn = 0) :
    p.all okR = true ∧ p.length ≤ 5000 ∧ (1 ≤ st ∧ st ≤ 100) ∧ (1 ≤ wd ∧ wd ≤ 100) ∧ (1 ≤ ls ∧ ls ≤ 10000) ∧ (0 ≤ nm ∧ nm ≤ 10000) ∧ (1 ≤ dn ∧ dn ≤ 1000) := by
  obtain ⟨h1, h2⟩ := firstErr2 h
  unfold traceFault at h1
  unfold rulesFault at h2
  (repeat' split at h1) <;> (repeat' split at h2) <;> first | contradiction | skip
  rename_i a b c d e
  exact ⟨by assumption, by omega, by omega, by omega, by omega, by omega, by omega⟩

def exE (p : List Int) (st wd ls nm dn : Int) : List (Int × Int) := if faultOf p st wd ls nm dn = 0 then exL p wd.toNat dn.toNat nm else []
def evA (p : List Int) (st wd ls nm dn : Int) : List (Int × Int) := evsOf p wd.toNat dn.toNat nm ls st
def evE (p : List Int) (st wd ls nm dn : Int) : List (Int × Int) := if faultOf p st wd ls nm dn = 0 then if 100 < (evA p st wd ls nm dn).length then [] else evA p st wd ls nm dn else []
def evErr (p : List Int) (st wd ls nm dn : Int) : Int := if faultOf p st wd ls nm dn = 0 then if 100 < (evA p st wd ls nm dn).length then 2 else 0 else faultOf p st wd ls nm dn
def lastErr (p : List Int) (fl st wd ls nm dn : Int) : Int := firstErr [faultOf p st wd ls nm dn, if decide (fl < -10000) || decide (10000 < fl) then 1 else 0]
def lastP (p : List Int) (fl st wd ls nm dn : Int) : Int × Bool := if lastErr p fl st wd ls nm dn = 0 then if lastIdx fl p = p.length then (0, false) else ((lastIdx fl p : Int) * st, true) else (0, false)

/-- a row of pairs and an error -/
def RowPost (w : World) (T : TypeId) (E : List (Int × Int)) (er : Int) (e : Ending) (w' : World) : Prop :=
  ∃ a c, e = .returned (.tuple #[.slice a E.length c, .int .i64 er]) ∧ w'.ownsRow w.heap.size T 2 (.slice a E.length c) E.length (prs E) ∧ w.grownBy w' none

theorem Excess_all (a : Option Addr) (n cap : Nat) (p : List Int) (st wd ls nm dn : Int) (w : World) (hn : n = p.length) (hcap : n ≤ cap) (hc2 : cap ≤ maxLen) (h : At w a (ints p)) (hb : nm ≤ 9223372036854775807 ∧ dn ≤ 9223372036854775807) :
    Calls Try.prog 10 #[.slice a n cap, .agg #[.int .i64 st, .int .i64 wd, .int .i64 ls, .int .i64 nm, .int .i64 dn]] w (RowPost w 28 (exE p st wd ls nm dn) (faultOf p st wd ls nm dn)) := by
  by_cases hf : faultOf p st wd ls nm dn = 0
  · obtain ⟨ho, hl, h1, h2, h3, h4, h5⟩ := fault0 hf
    obtain ⟨W, rfl⟩ := Int.eq_ofNat_of_zero_le (show 0 ≤ wd by omega)
    obtain ⟨D, rfl⟩ := Int.eq_ofNat_of_zero_le (show 0 ≤ dn by omega)
    refine (Excess_good a n cap p st ls nm W D w hn hcap hc2 (by omega) ho h (by omega) (by omega) h4 hf).mono ?_
    rintro e w' ⟨a', c', rfl, h7, h8⟩
    have hE : exE p st W ls nm D = exL p W D nm := by rw [exE, if_pos hf]; simp
    rw [RowPost, hE, hf]
    exact ⟨a', c', rfl, h7, h8⟩
  · refine (Excess_bad a n cap p st wd ls nm dn w hn (by omega) h hb hf).mono ?_
    rintro e w' ⟨rfl, h8⟩
    have hE : exE p st wd ls nm dn = [] := by rw [exE, if_neg hf]
    rw [RowPost, hE]
    exact ⟨none, 0, rfl, World.ownsRow_nil _ _ _ _, h8⟩

theorem Detected_all (a : Option Addr) (n cap : Nat) (p : List Int) (st wd ls nm dn : Int) (w : World) (hn : n = p.length) (hcap : n ≤ cap) (hc2 : cap ≤ maxLen) (h : At w a (ints p)) (hb : nm ≤ 9223372036854775807 ∧ dn ≤ 9223372036854775807) :
    Calls Try.prog 11 #[.slice a n cap, .agg #[.int .i64 st, .int .i64 wd, .int .i64 ls, .int .i64 nm, .int .i64 dn]] w (RowPost w 54 (evE p st wd ls nm dn) (evErr p st wd ls nm dn)) := by
  by_cases hf : faultOf p st wd ls nm dn = 0
  · obtain ⟨ho, hl, h1, h2, h3, h4, h5⟩ := fault0 hf
    obtain ⟨W, rfl⟩ := Int.eq_ofNat_of_zero_le (show 0 ≤ wd by omega)
    obtain ⟨D, rfl⟩ := Int.eq_ofNat_of_zero_le (show 0 ≤ dn by omega)
    refine (Detected_good a n cap p st ls nm W D w hn hcap hc2 (by omega) ho h h1 h3 (by omega) (by omega) h4 hf).mono ?_
    rintro e w' ⟨h8, h9⟩
    have hE : evA p st W ls nm D = evsOf p W D nm ls st := by rw [evA]; simp
    rw [← hE] at h9
    rw [RowPost, evE, evErr, if_pos hf, if_pos hf]
    split at h9
    · rename_i h10
      rw [if_pos h10, if_pos h10]
      exact ⟨none, 0, h9, World.ownsRow_nil _ _ _ _, h8⟩
    · rename_i h10
      rw [if_neg h10, if_neg h10]
      obtain ⟨a', c', h11, h12⟩ := h9
      exact ⟨a', c', h11, h12, h8⟩
  · refine (Detected_bad a n cap p st wd ls nm dn w hn (by omega) h hb hf).mono ?_
    rintro e w' ⟨rfl, h8⟩
    rw [RowPost, evE, evErr, if_neg hf, if_neg hf]
    exact ⟨none, 0, rfl, World.ownsRow_nil _ _ _ _, h8⟩

theorem DetectedOf_all (a : Option Addr) (n cap : Nat) (p : List Int) (st wd ls nm dn : Int) (w : World) (hn : n = p.length) (hcap : n ≤ cap) (hc2 : cap ≤ maxLen) (h : At w a (ints p)) (hf : faultOf p st wd ls nm dn = 0) :
    Calls Try.prog 18 #[.slice a n cap, .agg #[.int .i64 st, .int .i64 wd, .int .i64 ls, .int .i64 nm, .int .i64 dn]] w (RowPost w 54 (evE p st wd ls nm dn) (evErr p st wd ls nm dn)) := by
  obtain ⟨ho, hl, h1, h2, h3, h4, h5⟩ := fault0 hf
  obtain ⟨W, rfl⟩ := Int.eq_ofNat_of_zero_le (show 0 ≤ wd by omega)
  obtain ⟨D, rfl⟩ := Int.eq_ofNat_of_zero_le (show 0 ≤ dn by omega)
  refine (DetectedOf_any a n cap p st ls nm W D w hn hcap hc2 (by omega) ho h h1 h3 (by omega) (by omega) h4).mono ?_
  rintro e w' ⟨h8, h9⟩
  have hE : evA p st W ls nm D = evsOf p W D nm ls st := by rw [evA]; simp
  rw [← hE] at h9
  rw [RowPost, evE, evErr, if_pos hf, if_pos hf]
  split at h9
  · rename_i h10
    rw [if_pos h10, if_pos h10]
    exact ⟨none, 0, h9, World.ownsRow_nil _ _ _ _, h8⟩
  · rename_i h10
    rw [if_neg h10, if_neg h10]
    obtain ⟨a', c', h11, h12⟩ := h9
    exact ⟨a', c', h11, h12, h8⟩

theorem ExcessOf_all (a : Option Addr) (n cap : Nat) (p : List Int) (st wd ls nm dn : Int) (w : World) (hn : n = p.length) (hcap : n ≤ cap) (hc2 : cap ≤ maxLen) (h : At w a (ints p)) (hf : faultOf p st wd ls nm dn = 0) :
    Calls Try.prog 17 #[.slice a n cap, .agg #[.int .i64 st, .int .i64 wd, .int .i64 ls, .int .i64 nm, .int .i64 dn]] w fun e w' =>
      ∃ a' c', e = .returned (.slice a' (exE p st wd ls nm dn).length c') ∧ w'.ownsRow w.heap.size 28 2 (.slice a' (exE p st wd ls nm dn).length c') (exE p st wd ls nm dn).length (prs (exE p st wd ls nm dn)) ∧ w.grownBy w' none := by
  obtain ⟨ho, hl, h1, h2, h3, h4, h5⟩ := fault0 hf
  obtain ⟨W, rfl⟩ := Int.eq_ofNat_of_zero_le (show 0 ≤ wd by omega)
  obtain ⟨D, rfl⟩ := Int.eq_ofNat_of_zero_le (show 0 ≤ dn by omega)
  have hE : exE p st W ls nm D = exL p W D nm := by rw [exE, if_pos hf]; simp
  rw [hE]
  exact excessof_any a n cap p st ls nm W D w hn hcap hc2 (by omega) ho h (by omega) (by omega) h4

theorem Last_all (a : Option Addr) (n cap : Nat) (p : List Int) (fl st wd ls nm dn : Int) (w : World) (hn : n = p.length) (hc2 : n ≤ maxLen) (h : At w a (ints p)) (hb : nm ≤ 9223372036854775807 ∧ dn ≤ 9223372036854775807) :
    Calls Try.prog 12 #[.slice a n cap, .int .i64 fl, .agg #[.int .i64 st, .int .i64 wd, .int .i64 ls, .int .i64 nm, .int .i64 dn]] w fun e w' =>
      e = .returned (.tuple #[.int .i64 (lastP p fl st wd ls nm dn).1, .bool (lastP p fl st wd ls nm dn).2, .int .i64 (lastErr p fl st wd ls nm dn)]) ∧ w.grownBy w' none := by
  by_cases hf : faultOf p st wd ls nm dn = 0
  · obtain ⟨ho, hl, h1, h2, h3, h4, h5⟩ := fault0 hf
    cases hfl : okR fl
    · have hx : lastErr p fl st wd ls nm dn = 1 := by
        have : (decide (fl < -10000) || decide (10000 < fl)) = true := by simp [okR, inB] at hfl ⊢; omega
        rw [lastErr, hf, this]; rfl
      rw [lastP, hx]
      exact Last_out a n cap p fl st wd ls nm dn w hn hc2 h hb hf hfl
    · have hx : lastErr p fl st wd ls nm dn = 0 := by
        have : (decide (fl < -10000) || decide (10000 < fl)) = false := by simp [okR, inB] at hfl ⊢; omega
        rw [lastErr, hf, this]; rfl
      rw [lastP, hx]
      refine (Last_good a n cap p fl st wd ls nm dn w hn (by omega) h hb h1 hf hfl).mono ?_
      rintro e w' ⟨rfl, hg⟩
      refine ⟨?_, hg⟩
      unfold lastRes
      rw [if_pos rfl]
      split <;> rfl
  · have hx : lastErr p fl st wd ls nm dn = faultOf p st wd ls nm dn := by
      rw [lastErr]; simp [firstErr, hf]
    rw [lastP, hx, if_neg hf]
    exact Last_bad a n cap p fl st wd ls nm dn w hn hc2 h hb hf

theorem LastOf_all (a : Option Addr) (n cap : Nat) (p : List Int) (fl st wd ls nm dn : Int) (w : World) (hn : n = p.length) (hcap : n ≤ cap) (hc2 : cap ≤ maxLen) (h : At w a (ints p)) (hf : lastErr p fl st wd ls nm dn = 0) :
    Calls Try.prog 19 #[.slice a n cap, .int .i64 fl, .agg #[.int .i64 st, .int .i64 wd, .int .i64 ls, .int .i64 nm, .int .i64 dn]] w fun e w' =>
      e = .returned (.tuple #[.int .i64 (lastP p fl st wd ls nm dn).1, .bool (lastP p fl st wd ls nm dn).2]) ∧ w.grownBy w' none := by
  obtain ⟨ho, hl, h1, h2, h3, h4, h5⟩ := fault0 (firstErr2 hf).1
  refine (LastOf_any a n cap p fl st wd ls nm dn w hn hcap hc2 (by omega) h h1).mono ?_
  rintro e w' ⟨rfl, hg⟩
  refine ⟨?_, hg⟩
  rw [lastRes2, lastP, if_pos hf]
  split <;> rfl
end Go.Proofs.Ytfocpjjcllpfbaa
