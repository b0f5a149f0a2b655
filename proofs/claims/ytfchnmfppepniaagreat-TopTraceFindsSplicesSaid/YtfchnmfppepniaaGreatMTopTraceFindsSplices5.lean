/- Parts of the proof, in order. -/
import Derived.Test.YtfchnmfppepniaaGreatMTopTraceFindsSplices4
import Derived.Test.YtfchnmfppepniaaGreatStep

/- Walks: the events of a trace, as the reference finds them. -/
namespace Go.Proofs.YtfchnmfppepniaaGreat.Hd
set_option linter.unusedVariables false
set_option linter.unusedSimpArgs false
open Go.RowKit

/-- what the variables of the reference's function hold -/
structure RSt (Br Bx Bu : Nat) (aR : Option Addr) (cR : Nat) (R : List Int) (st wd ls nm dn u : Int) (w : World) : Prop where
  r : w.heap[Br]? = some (.cells #[.int .i64 st, .int .i64 wd, .int .i64 ls, .int .i64 nm, .int .i64 dn] 54 (0, 0))
  x : w.heap[Bx]? = some (.cells #[.slice aR R.length cR] 22 (0, 0))
  u : w.heap[Bu]? = some (.cells #[.int .i64 u] 3 (0, 0))
  at_ : At w aR (ints R)
theorem RSt.kept {Br Bx Bu : Nat} {aR : Option Addr} {cR : Nat} {R : List Int} {st wd ls nm dn u : Int} {w w' : World} {row : Option Nat} {B : Nat} (h : RSt Br Bx Bu aR cR R st wd ls nm dn u w) (hg : w.grownBy w' row)
    (hl : Br < B ∧ Bx < B ∧ Bu < B ∧ ∀ p, aR = some p → p.block < B) (hr : ∀ b, row = some b → B ≤ b) : RSt Br Bx Bu aR cR R st wd ls nm dn u w' :=
  ⟨blk_apart h.r hg (fun k hk => by have := hr k hk; omega), blk_apart h.x hg (fun k hk => by have := hr k hk; omega), blk_apart h.u hg (fun k hk => by have := hr k hk; omega), h.at_.apart hg hl.2.2.2 hr⟩
theorem RSt.drewN {Br Bx Bu : Nat} {aR : Option Addr} {cR : Nat} {R : List Int} {st wd ls nm dn u : Int} {w : World} (h : RSt Br Bx Bu aR cR R st wd ls nm dn u w) (n : Nat) : RSt Br Bx Bu aR cR R st wd ls nm dn u (w.drewN n) := ⟨h.r, h.x, h.u, h.at_⟩

end Go.Proofs.YtfchnmfppepniaaGreat.Hd

/- Walks: slices.Equal of pairs of numbers; the self-test of package trace; the trace of steps. -/
namespace Go.Proofs.YtfchnmfppepniaaGreat.Hd
set_option linter.unusedVariables false
set_option linter.unusedSimpArgs false
open Go.RowKit

end Go.Proofs.YtfchnmfppepniaaGreat.Hd

/- Contracts of package trace and of the reference for every input, and the self-test of the laws. -/
namespace Go.Proofs.YtfchnmfppepniaaGreat.Hd
set_option linter.unusedVariables false
set_option linter.unusedSimpArgs false
open Go.RowKit

theorem firstErr2 {a b : Int} (h : firstErr [a, b] = 0) : a = 0 ∧ b = 0 := by
  simp only [firstErr] at h
  split at h <;> simp_all

theorem fault0 {p : List Int} {st wd ls nm dn : Int} (h : faultOf p st wd ls nm dn = 0) :
    p.all okR = true ∧ p.length ≤ 5000 ∧ (1 ≤ st ∧ st ≤ 100) ∧ (1 ≤ wd ∧ wd ≤ 100) ∧ (1 ≤ ls ∧ ls ≤ 10000) ∧ (0 ≤ nm ∧ nm ≤ 10000) ∧ (1 ≤ dn ∧ dn ≤ 1000) := by
  obtain ⟨h1, h2⟩ := firstErr2 h
  unfold traceFault at h1
  unfold rulesFault at h2
  (repeat' split at h1) <;> (repeat' split at h2) <;> first | contradiction | skip
  rename_i a b c d e
  exact ⟨by assumption, by omega, by omega, by omega, by omega, by omega, by omega⟩

def evA (p : List Int) (st wd ls nm dn : Int) : List (Int × Int) := evsOf p wd.toNat dn.toNat nm ls st
def evE (p : List Int) (st wd ls nm dn : Int) : List (Int × Int) := if faultOf p st wd ls nm dn = 0 then if 100 < (evA p st wd ls nm dn).length then [] else evA p st wd ls nm dn else []
def evErr (p : List Int) (st wd ls nm dn : Int) : Int := if faultOf p st wd ls nm dn = 0 then if 100 < (evA p st wd ls nm dn).length then 2 else 0 else faultOf p st wd ls nm dn
/-- a row of pairs and an error -/
def RowPost (w : World) (T : TypeId) (E : List (Int × Int)) (er : Int) (e : Ending) (w' : World) : Prop :=
  ∃ a c, e = .returned (.tuple #[.slice a E.length c, .int .i64 er]) ∧ w'.ownsRow w.heap.size T 2 (.slice a E.length c) E.length (prs E) ∧ w.grownBy w' none

theorem Detected_all (a : Option Addr) (n cap : Nat) (p : List Int) (st wd ls nm dn : Int) (w : World) (hn : n = p.length) (hcap : n ≤ cap) (hc2 : cap ≤ maxLen) (h : At w a (ints p)) (hb : nm ≤ 9223372036854775807 ∧ dn ≤ 9223372036854775807) :
    Calls Tryz.prog 8 #[.slice a n cap, .agg #[.int .i64 st, .int .i64 wd, .int .i64 ls, .int .i64 nm, .int .i64 dn]] w (RowPost w 49 (evE p st wd ls nm dn) (evErr p st wd ls nm dn)) := by
  by_cases hf : faultOf p st wd ls nm dn = 0
  · obtain ⟨ho, hl, h1, h2, h3, h4, h5⟩ := fault0 hf
    obtain ⟨W, rfl⟩ := Int.eq_ofNat_of_zero_le (show 0 ≤ wd by omega)
    obtain ⟨D, rfl⟩ := Int.eq_ofNat_of_zero_le (show 0 ≤ dn by omega)
    refine (Detected_good a n cap p st ls nm W D w hn hcap hc2 (by omega) ho h h1 h3 (by omega) (by omega) h4 hf).mono ?_
    rintro e w' ⟨h8, h9⟩
    have hE : evA p st W ls nm D = evsOf p W D nm ls st := by rw [evA]; simp
    rw [← hE] at h9
    rw [RowPost, evE, evErr, if_pos hf, if_pos hf]
    split at h9
    · rename_i h10
      rw [if_pos h10, if_pos h10]
      exact ⟨none, 0, h9, World.ownsRow_nil _ _ _ _, h8⟩
    · rename_i h10
      rw [if_neg h10, if_neg h10]
      obtain ⟨a', c', h11, h12⟩ := h9
      exact ⟨a', c', h11, h12, h8⟩
  · refine (Detected_bad a n cap p st wd ls nm dn w hn (by omega) h hb hf).mono ?_
    rintro e w' ⟨rfl, h8⟩
    rw [RowPost, evE, evErr, if_neg hf, if_neg hf]
    exact ⟨none, 0, rfl, World.ownsRow_nil _ _ _ _, h8⟩

end Go.Proofs.YtfchnmfppepniaaGreat.Hd

/- Plain law (TopTraceFindsSplices): the trace of a path with two splices has just their events. No program in sight. -/
namespace Go.Proofs.YtfchnmfppepniaaGreat.Hd
set_option linter.unusedVariables false
set_option linter.unusedSimpArgs false
open Go.RowKit
set_option linter.unusedSectionVars false

/-- what has been lost at place t -/
def lossAt (x y : Nat) (l1 l2 : Int) (t : Nat) : Int := (if x ≤ t then l1 else 0) + (if x + y ≤ t then l2 else 0)
theorem loss0 {x y : Nat} {l1 l2 : Int} {t : Nat} (h : t < x) : lossAt x y l1 l2 t = 0 := by unfold lossAt; rw [if_neg (by omega), if_neg (by omega)]; rfl
theorem loss1 {x y : Nat} {l1 l2 : Int} {t : Nat} (h : x ≤ t) (h' : t < x + y) : lossAt x y l1 l2 t = l1 := by unfold lossAt; rw [if_pos h, if_neg (by omega)]; omega
theorem loss2 {x y : Nat} {l1 l2 : Int} {t : Nat} (h : x + y ≤ t) : lossAt x y l1 l2 t = l1 + l2 := by unfold lossAt; rw [if_pos (by omega), if_pos h]
/-- the trace of a path with two splices -/
def trP (x y z : Nat) (l1 l2 : Int) : List Int := (List.range (x + y + z)).map fun t => 5000 - lossAt x y l1 l2 t

theorem win2 (p : List Int) (i : Nat) (h : i + 2 ≤ p.length) : (win p i 2).sum = p.getD i 0 + p.getD (i + 1) 0 := by
  unfold win
  have e1 : p.getD i 0 = p[i] := by simp [show i < p.length by omega]
  have e2 : p.getD (i + 1) 0 = p[i + 1] := by simp [show i + 1 < p.length by omega]
  rw [e1, e2, List.drop_eq_getElem_cons (by omega : i < p.length), List.drop_eq_getElem_cons (by omega : i + 1 < p.length)]
  simp only [List.take, List.sum_cons, List.sum_nil]; omega

section
variable (x y z : Nat) (l1 l2 : Int)
theorem trP_len : (trP x y z l1 l2).length = x + y + z := by simp [trP]
theorem trP_get (t : Nat) (h : t < x + y + z) : (trP x y z l1 l2).getD t 0 = 5000 - lossAt x y l1 l2 t := by simp [trP, h]

theorem exR_len (hx : 5 ≤ x) : (exR (trP x y z l1 l2) 2 1 0).length = x + y + z - 3 := by
  simp only [exR, exc, trP_len, List.length_map, List.length_range]; omega
theorem exR_get (j : Nat) (h : j < x + y + z - 3) :
    (exR (trP x y z l1 l2) 2 1 0).getD j 0 = lossAt x y l1 l2 (j + 2) + lossAt x y l1 l2 (j + 3) - lossAt x y l1 l2 j - lossAt x y l1 l2 (j + 1) := by
  have hj : j < exc (trP x y z l1 l2) 2 := by simp only [exc, trP_len]; omega
  have h1 : (exR (trP x y z l1 l2) 2 1 0).getD j 0 = exn (trP x y z l1 l2) 2 1 0 (2 + j) := by simp [exR, hj]
  rw [h1]
  unfold exn drp
  rw [win2 _ _ (by rw [trP_len]; omega), win2 _ _ (by rw [trP_len]; omega), trP_get _ _ _ _ _ _ (by omega), trP_get _ _ _ _ _ _ (by omega), trP_get _ _ _ _ _ _ (by omega), trP_get _ _ _ _ _ _ (by omega),
    show 2 + j - 2 = j by omega, show 2 + j = j + 2 by omega, show j + 2 + 1 = j + 3 by omega]
  omega

variable (hx : 5 ≤ x) (hy : 5 ≤ y) (hz : 5 ≤ z) (h1 : 10 ≤ l1) (h2 : 10 ≤ l2)
include hx hy hz h1 h2

theorem ex_a1 : (exR (trP x y z l1 l2) 2 1 0).getD (x - 2) 0 = 2 * l1 := by
  rw [exR_get _ _ _ _ _ _ (by omega), loss1 (by omega) (by omega), loss1 (by omega) (by omega), loss0 (by omega), loss0 (by omega)]; omega
theorem ex_b1 : (exR (trP x y z l1 l2) 2 1 0).getD (x - 3) 0 = l1 := by
  rw [exR_get _ _ _ _ _ _ (by omega), loss0 (t := x - 3 + 2) (by omega), loss1 (by omega) (by omega), loss0 (by omega), loss0 (by omega)]; omega
theorem ex_c1 : (exR (trP x y z l1 l2) 2 1 0).getD (x - 1) 0 = l1 := by
  rw [exR_get _ _ _ _ _ _ (by omega), loss1 (t := x - 1 + 2) (by omega) (by omega), loss1 (t := x - 1 + 3) (by omega) (by omega), loss0 (t := x - 1) (by omega), loss1 (by omega) (by omega)]; omega
theorem ex_a2 : (exR (trP x y z l1 l2) 2 1 0).getD (x + y - 2) 0 = 2 * l2 := by
  rw [exR_get _ _ _ _ _ _ (by omega), loss2 (t := x + y - 2 + 2) (by omega), loss2 (t := x + y - 2 + 3) (by omega), loss1 (t := x + y - 2) (by omega) (by omega), loss1 (by omega) (by omega)]; omega
theorem ex_b2 : (exR (trP x y z l1 l2) 2 1 0).getD (x + y - 3) 0 = l2 := by
  rw [exR_get _ _ _ _ _ _ (by omega), loss1 (t := x + y - 3 + 2) (by omega) (by omega), loss2 (t := x + y - 3 + 3) (by omega), loss1 (t := x + y - 3) (by omega) (by omega), loss1 (by omega) (by omega)]; omega
theorem ex_c2 : (exR (trP x y z l1 l2) 2 1 0).getD (x + y - 1) 0 = l2 := by
  rw [exR_get _ _ _ _ _ _ (by omega), loss2 (t := x + y - 1 + 2) (by omega), loss2 (t := x + y - 1 + 3) (by omega), loss1 (t := x + y - 1) (by omega) (by omega), loss2 (by omega)]; omega
theorem ex_0 (i : Nat) (hi : i < x + y + z - 3) (ha : ¬ (x - 3 ≤ i ∧ i ≤ x - 1)) (hb : ¬ (x + y - 3 ≤ i ∧ i ≤ x + y - 1)) : (exR (trP x y z l1 l2) 2 1 0).getD i 0 = 0 := by
  rw [exR_get _ _ _ _ _ _ hi]
  by_cases e1 : i < x - 3
  · rw [loss0 (by omega), loss0 (by omega), loss0 (by omega), loss0 (by omega)]; rfl
  by_cases e2 : i < x + y - 3
  · rw [loss1 (by omega) (by omega), loss1 (by omega) (by omega), loss1 (by omega) (by omega), loss1 (by omega) (by omega)]; omega
  · rw [loss2 (by omega), loss2 (by omega), loss2 (by omega), loss2 (by omega)]; omega

theorem exR_iff (j : Nat) : bestB (exR (trP x y z l1 l2) 2 1 0) 20 j = true ↔ j = x - 2 ∨ j = x + y - 2 := by
  have L := exR_len x y z l1 l2 hx
  have N : ∀ i, isN (exR (trP x y z l1 l2) 2 1 0) 20 i = true ↔ i < x + y + z - 3 ∧ 20 ≤ (exR (trP x y z l1 l2) 2 1 0).getD i 0 := by
    intro i; simp only [isN, L, Bool.and_eq_true, decide_eq_true_eq]
  have a1 : (exR (trP x y z l1 l2) 2 1 0).getD (x - 2) 0 = 2 * l1 := ex_a1 x y z l1 l2 hx hy hz h1 h2
  have a2 : (exR (trP x y z l1 l2) 2 1 0).getD (x + y - 2) 0 = 2 * l2 := ex_a2 x y z l1 l2 hx hy hz h1 h2
  have b1 : (exR (trP x y z l1 l2) 2 1 0).getD (x - 3) 0 = l1 := ex_b1 x y z l1 l2 hx hy hz h1 h2
  have b2 : (exR (trP x y z l1 l2) 2 1 0).getD (x + y - 3) 0 = l2 := ex_b2 x y z l1 l2 hx hy hz h1 h2
  have c1 : (exR (trP x y z l1 l2) 2 1 0).getD (x - 1) 0 = l1 := ex_c1 x y z l1 l2 hx hy hz h1 h2
  have c2 : (exR (trP x y z l1 l2) 2 1 0).getD (x + y - 1) 0 = l2 := ex_c2 x y z l1 l2 hx hy hz h1 h2
  have O : ∀ i, i < x + y + z - 3 → ¬ (x - 3 ≤ i ∧ i ≤ x - 1) → ¬ (x + y - 3 ≤ i ∧ i ≤ x + y - 1) → (exR (trP x y z l1 l2) 2 1 0).getD i 0 = 0 := ex_0 x y z l1 l2 hx hy hz h1 h2
  generalize exR (trP x y z l1 l2) 2 1 0 = R at *
  rw [bestB_iff]
  constructor
  · rintro ⟨hn, hl, hr⟩
    obtain ⟨hn1, hn2⟩ := (N j).1 hn
    by_cases e1 : j = x - 3
    · subst e1
      have := hr (x - 2) (by omega) (fun i hi hi2 => by rw [show i = x - 2 by omega]; exact (N _).2 ⟨by omega, by omega⟩)
      omega
    by_cases e2 : j = x + y - 3
    · subst e2
      have := hr (x + y - 2) (by omega) (fun i hi hi2 => by rw [show i = x + y - 2 by omega]; exact (N _).2 ⟨by omega, by omega⟩)
      omega
    by_cases e3 : j = x - 1
    · subst e3
      have := hl (x - 2) (by omega) (fun i hi hi2 => by rw [show i = x - 2 by omega]; exact (N _).2 ⟨by omega, by omega⟩)
      omega
    by_cases e4 : j = x + y - 1
    · subst e4
      have := hl (x + y - 2) (by omega) (fun i hi hi2 => by rw [show i = x + y - 2 by omega]; exact (N _).2 ⟨by omega, by omega⟩)
      omega
    by_cases e5 : j = x - 2
    · exact .inl e5
    by_cases e6 : j = x + y - 2
    · exact .inr e6
    have := O j hn1 (by omega) (by omega)
    omega
  · rintro (rfl | rfl)
    · refine ⟨(N _).2 ⟨by omega, by omega⟩, fun k hk hj => ?_, fun k hk hj => ?_⟩
      · have := (N k).1 (hj k (Nat.le_refl _) hk)
        by_cases e : k = x - 3
        · subst e; omega
        · have := O k (by omega) (by omega) (by omega); omega
      · have hz1 := (N k).1 (hj k hk (Nat.le_refl _))
        by_cases e : k = x - 1
        · subst e; omega
        · have hxx := (N x).1 (hj x (by omega) (by omega))
          have := O x (by omega) (by omega) (by omega); omega
    · refine ⟨(N _).2 ⟨by omega, by omega⟩, fun k hk hj => ?_, fun k hk hj => ?_⟩
      · have := (N k).1 (hj k (Nat.le_refl _) hk)
        by_cases e : k = x + y - 3
        · subst e; omega
        · have h4 := (N (x + y - 4)).1 (hj (x + y - 4) (by omega) (by omega))
          have := O (x + y - 4) (by omega) (by omega) (by omega); omega
      · have hz1 := (N k).1 (hj k hk (Nat.le_refl _))
        by_cases e : k = x + y - 1
        · subst e; omega
        · have := O k (by omega) (by omega) (by omega); omega

theorem bestL_two : bestL (exR (trP x y z l1 l2) 2 1 0) 20 = [x - 2, x + y - 2] := by
  unfold bestL
  rw [exR_len x y z l1 l2 hx]
  have I := exR_iff x y z l1 l2 hx hy hz h1 h2
  rw [filter_single _ (x - 1) (x + y - 2) _ (by omega) (by omega) (fun j ha hb => by rw [I]; omega),
    filter_single _ 0 (x - 2) _ (by omega) (by omega) (fun j ha hb => by rw [I]; omega)]
  simp

theorem evA_two : evA (trP x y z l1 l2) 1 2 10 0 1 = [((x : Int), l1), ((x + y : Nat), l2)] := by
  have e : evA (trP x y z l1 l2) 1 2 10 0 1 = evsOf (trP x y z l1 l2) 2 1 0 10 1 := rfl
  rw [e]; unfold evsOf
  rw [show (10 : Int) * (2 * 1 : Nat) = 20 from rfl, bestL_two x y z l1 l2 hx hy hz h1 h2]
  have a1 : (exR (trP x y z l1 l2) 2 1 0).getD (x - 2) 0 = 2 * l1 := ex_a1 x y z l1 l2 hx hy hz h1 h2
  have a2 : (exR (trP x y z l1 l2) 2 1 0).getD (x + y - 2) 0 = 2 * l2 := ex_a2 x y z l1 l2 hx hy hz h1 h2
  simp only [List.map_cons, List.map_nil, evR, a1, a2]
  refine List.cons_eq_cons.2 ⟨Prod.ext ?_ ?_, List.cons_eq_cons.2 ⟨Prod.ext ?_ ?_, rfl⟩⟩ <;> simp only [] <;> omega

variable (h3 : l1 ≤ 50) (h4 : l2 ≤ 50) (hn : x + y + z ≤ 60)
include h3 h4 hn
theorem fault_trP : faultOf (trP x y z l1 l2) 1 2 10 0 1 = 0 := by
  have hok : (trP x y z l1 l2).all okR = true := by
    rw [List.all_eq_true]
    intro v hv
    simp only [trP, List.mem_map, List.mem_range] at hv
    obtain ⟨t, ht, rfl⟩ := hv
    unfold okR inB lossAt
    rw [decide_eq_true_eq]
    (repeat' split) <;> omega
  have ht : traceFault (trP x y z l1 l2) = 0 := by
    unfold traceFault; rw [trP_len, if_neg (by omega), if_pos hok]
  unfold faultOf
  rw [ht]
  rfl

theorem evE_two : evE (trP x y z l1 l2) 1 2 10 0 1 = [((x : Int), l1), ((x + y : Nat), l2)] := by
  unfold evE
  rw [if_pos (fault_trP x y z l1 l2 hx hy hz h1 h2 h3 h4 hn), evA_two x y z l1 l2 hx hy hz h1 h2, if_neg (by simp)]
theorem evErr_two : evErr (trP x y z l1 l2) 1 2 10 0 1 = 0 := by
  unfold evErr
  rw [if_pos (fault_trP x y z l1 l2 hx hy hz h1 h2 h3 h4 hn), evA_two x y z l1 l2 hx hy hz h1 h2, if_neg (by simp)]
end
theorem evFault_two (X Y : Nat) (l m : Int) (hx : X ≤ 20) (hy : Y ≤ 20) (hl : 10 ≤ l ∧ l ≤ 50) (hm : 10 ≤ m ∧ m ≤ 50) : evFault [((X : Int), l), (((X + Y : Nat) : Int), m)] = 0 := by
  have e1 : evAt [((X : Int), l), (((X + Y : Nat) : Int), m)] 0 = 0 := by
    have a : inB (X : Int) 0 1000000 = true := decide_eq_true (by omega)
    have b : okR l = true := decide_eq_true (by omega)
    simp [evAt, a, b]
  have e2 : evAt [((X : Int), l), (((X + Y : Nat) : Int), m)] 1 = 0 := by
    have a : inB ((X + Y : Nat) : Int) 0 1000000 = true := decide_eq_true (by omega)
    have b : okR m = true := decide_eq_true (by omega)
    have c : ¬ ((X + Y : Nat) : Int) < X := by omega
    unfold evAt
    simp only [List.getD_cons_succ, List.getD_cons_zero, a, b, Nat.sub_self, c]
    simp
  unfold evFault
  rw [if_neg (by simp), show evErrs [((X : Int), l), (((X + Y : Nat) : Int), m)] = [evAt [((X : Int), l), (((X + Y : Nat) : Int), m)] 0, evAt [((X : Int), l), (((X + Y : Nat) : Int), m)] 1] from rfl, e1, e2]
  rfl

end Go.Proofs.YtfchnmfppepniaaGreat.Hd
