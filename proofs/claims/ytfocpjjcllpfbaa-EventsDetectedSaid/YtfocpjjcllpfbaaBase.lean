/- Walks of package base, and of the small functions of the reference that say the same. -/
import Derived.Test.YtfocpjjcllpfbaaRows
import Derived.Test.YtfocpjjcllpfbaaLib
import Derived.Lib.Mul64
import Derived.Laws.Bits64b
import Derived.StillTailTactics
namespace Go.Proofs.Ytfocpjjcllpfbaa
open Go.RowKit

/-- n is from lo to hi -/
def inB (n lo hi : Int) : Bool := decide (lo ≤ n ∧ n ≤ hi)
theorem inB_true {n lo hi : Int} (h : lo ≤ n ∧ n ≤ hi) : inB n lo hi = true := decide_eq_true h
theorem inB_false {n lo hi : Int} (h : ¬ (lo ≤ n ∧ n ≤ hi)) : inB n lo hi = false := decide_eq_false h
theorem of_inB {n lo hi : Int} (h : inB n lo hi = true) : lo ≤ n ∧ n ≤ hi := of_decide_eq_true h

set_option maxHeartbeats 400000 in
theorem out_any (n lo hi : Int) (w : World) : Calls Try.prog 53 #[.int .i64 n, .int .i64 lo, .int .i64 hi] w fun e w' => e = .returned (.bool (!inB n lo hi)) ∧ w = w' := by
  by_cases h1 : n < lo
  · have H := Lib.hid (inB_false (n := n) (lo := lo) (hi := hi) (by omega))
    go_enter Try.func53, Try.ntmps53
    go_wp2
    go_ret
    exact ⟨ret_bool (by rw [H.out]; rfl), rfl⟩
  · by_cases h2 : hi < n
    · have H := Lib.hid (inB_false (n := n) (lo := lo) (hi := hi) (by omega))
      go_enter Try.func53, Try.ntmps53
      go_wp2
      go_ret
      exact ⟨ret_bool (by rw [H.out]; simp [h2]), rfl⟩
    · have H := Lib.hid (inB_true (n := n) (lo := lo) (hi := hi) (by omega))
      go_enter Try.func53, Try.ntmps53
      go_wp2
      go_ret
      exact ⟨ret_bool (by rw [H.out]; simp [h2]), rfl⟩

set_option maxHeartbeats 400000 in
theorem in_any (n lo hi : Int) (w : World) : Calls Try.prog 46 #[.int .i64 n, .int .i64 lo, .int .i64 hi] w fun e w' => e = .returned (.bool (inB n lo hi)) ∧ w = w' := by
  by_cases h1 : lo ≤ n
  · by_cases h2 : n ≤ hi
    · have H := Lib.hid (inB_true (n := n) (lo := lo) (hi := hi) (by omega))
      go_enter Try.func46, Try.ntmps46
      go_wp2
      go_ret
      exact ⟨ret_bool (by rw [H.out]), rfl⟩
    · have H := Lib.hid (inB_false (n := n) (lo := lo) (hi := hi) (by omega))
      go_enter Try.func46, Try.ntmps46
      go_wp2
      go_ret
      exact ⟨ret_bool (by rw [H.out]), rfl⟩
  · have H := Lib.hid (inB_false (n := n) (lo := lo) (hi := hi) (by omega))
    go_enter Try.func46, Try.ntmps46
    go_wp2
    go_ret
    exact ⟨ret_bool (by rw [H.out]), rfl⟩

/-! greatest common divisors -/
def GcdRel (a b : Nat) (w : World) (x y : Value) (wr : World) : Prop :=
  ∃ a' b' n : Nat, x = .int .i64 a' ∧ y = .int .i64 b' ∧ Hid (Nat.gcd a' b' = Nat.gcd a b) ∧ a' ≤ 9223372036854775807 ∧ b' ≤ 9223372036854775807 ∧ Hid (wr = w.drewN n)
theorem drewN_add (w : World) (a b : Nat) : (w.drewN a).drewN b = w.drewN (a + b) := by simp [World.drewN, Nat.add_assoc]
theorem gcd_step (a b : Nat) : Nat.gcd b (a % b) = Nat.gcd a b := by rw [Nat.gcd_comm a b, Nat.gcd_rec b a, Nat.gcd_comm]
set_option maxHeartbeats 400000 in
theorem gcd_any (a b : Nat) (A : Int) (w : World) (hA : A = a) (ha : a ≤ 9223372036854775807) (hb : b ≤ 9223372036854775807) :
    Calls Try.prog 77 #[.int .i64 A, .int .i64 b] w fun e w' => e = .returned (.int .i64 (Nat.gcd a b)) ∧ ∃ n, w' = w.drewN n := by
  subst hA
  go_enter Try.func77, Try.ntmps77
  go_wp2
  go_loopw [0, 1] (GcdRel a b w) (fun _ y _ => (intOf y).toNat)
  case atStart => exact ⟨a, b, 0, rfl, rfl, Lib.hid rfl, ha, hb, rfl⟩
  case round =>
    obtain ⟨a', b', n, rfl, rfl, hg, ha', hb', hwr⟩ := hrel
    by_cases hz : b' = 0
    · subst hz
      go_wp2
      go_ret
      exact ⟨ret_int (by have := hg.out; simp at this; rw [this]), n, hwr⟩
    · have h1 : 1 ≤ b' := by omega
      have h2 : a' % b' < b' := Nat.mod_lt _ h1
      have h3 : ((b' : Int) != 0) = true := by simp; omega
      have HG : Hid (Nat.gcd b' (a' % b') = Nat.gcd a b) := (gcd_step a' b').trans hg.out
      clear hz
      go_wp2_with fail
      go_quiet (fail)
      go_roundw
      case rel => (repeat apply Exists.intro); exact ⟨⟨b', a' % b', n + _, rfl, rfl, HG, hb', by omega, (by rw [hwr.out]; exact drewN_add _ _ _)⟩, rfl⟩
      case measure => simp [intOf]; omega

theorem gcd_pos (a b : Nat) (h : 1 ≤ b) : 1 ≤ Nat.gcd a b := Nat.gcd_pos_of_pos_right a h
theorem quo_eq (x : Int) (g : Nat) (hg : 1 ≤ g) (h : (g : Int) ∣ x) : x.tdiv g = x / g := Int.tdiv_eq_ediv_of_dvd h

/-- a fraction in lowest terms -/
def low (x : Int) (d : Nat) : Int × Int := (x / (Nat.gcd x.natAbs d : Int), (d : Int) / (Nat.gcd x.natAbs d : Int))

theorem low_bd (x : Int) (d : Nat) (h : 1 ≤ d) : (low x d).2 ≤ d ∧ 1 ≤ (low x d).2 ∧ -(x.natAbs : Int) ≤ (low x d).1 ∧ (low x d).1 ≤ x.natAbs := by
  have hgp := gcd_pos x.natAbs d h
  have hgl : Nat.gcd x.natAbs d ≤ d := Nat.le_of_dvd h (Nat.gcd_dvd_right _ _)
  have h2 : (low x d).2 = ((d / Nat.gcd x.natAbs d : Nat) : Int) := rfl
  have h3 : 1 ≤ d / Nat.gcd x.natAbs d := Nat.div_pos hgl hgp
  have h4 : d / Nat.gcd x.natAbs d ≤ d := Nat.div_le_self _ _
  have h5 : (low x d).1 = x / (Nat.gcd x.natAbs d : Int) := rfl
  rw [h2, h5]
  generalize Nat.gcd x.natAbs d = g at *
  refine ⟨by omega, by omega, ?_, ?_⟩
  · rcases Int.le_total 0 x with hx | hx
    · have := Int.ediv_nonneg hx (show 0 ≤ (g : Int) by omega); omega
    · have : x ≤ x / g := by
        rw [Int.le_ediv_iff_mul_le (by omega)]
        have := Int.mul_le_mul_of_nonpos_right (a := (g : Int)) (b := 1) (c := x) (by omega) hx
        rw [Int.mul_comm (g : Int) x] at this; omega
      omega
  · rcases Int.le_total 0 x with hx | hx
    · have := Int.ediv_le_self (a := x) (g : Int) hx; omega
    · have : x / (g : Int) ≤ 0 := Int.ediv_nonpos_of_nonpos_of_neg hx (by omega)
      omega

set_option maxHeartbeats 400000 in
theorem fraction_any (x : Int) (d : Nat) (d' : Int) (w : World) (hd' : d' = d) (hx1 : -9223372036854775807 ≤ x) (hx2 : x ≤ 9223372036854775807) (hd : d ≤ 9223372036854775807) (hd1 : 1 ≤ d) :
    Calls Try.prog 66 #[.int .i64 x, .int .i64 d'] w fun e w' => e = .returned (.agg #[.int .i64 (low x d).1, .int .i64 (low x d).2]) ∧ w.grownBy w' none := by
  subst hd'
  have hg0 : (Nat.gcd x.natAbs d : Int) ∣ x := Int.ofNat_dvd_left.2 (Nat.gcd_dvd_left _ _)
  have hg1 : (Nat.gcd x.natAbs d : Int) ∣ (d : Int) := Int.natCast_dvd_natCast.2 (Nat.gcd_dvd_right _ _)
  have hgp := gcd_pos x.natAbs d hd1
  have hgl : Nat.gcd x.natAbs d ≤ d := Nat.le_of_dvd hd1 (Nat.gcd_dvd_right _ _)
  have HL : Hid (low x d = (x.tdiv (Nat.gcd x.natAbs d : Int), (d : Int) / (Nat.gcd x.natAbs d : Int))) := by
    show low x d = _; rw [quo_eq _ _ hgp hg0]; rfl
  have hq2 : IntKind.i64.wrap (x.tdiv (Nat.gcd x.natAbs d : Int)) = x.tdiv (Nat.gcd x.natAbs d : Int) := by
    have h := low_bd x d hd1
    rw [HL.out] at h
    exact IntWalk.i64_in _ ⟨by simp at h; omega, by simp at h; omega⟩
  have hq3 : IntKind.i64.wrap ((d : Int) / (Nat.gcd x.natAbs d : Int)) = (d : Int) / (Nat.gcd x.natAbs d : Int) := by
    have h := low_bd x d hd1
    rw [HL.out] at h
    exact IntWalk.i64_in _ ⟨by simp at h; omega, by simp at h; omega⟩
  clear hg0 hg1
  have HG : Hid (∀ A w, A = (x.natAbs : Int) → Calls Try.prog 77 #[.int .i64 A, .int .i64 d] w fun e w' => e = .returned (.int .i64 (Nat.gcd x.natAbs d)) ∧ ∃ n, w' = w.drewN n) :=
    fun A w hA => gcd_any x.natAbs d A w hA (by omega) hd
  generalize Nat.gcd x.natAbs d = g at *
  have key : ∀ A, A = (x.natAbs : Int) → max x (-x) = A → True := fun _ _ _ => trivial
  by_cases hs : 0 ≤ x
  all_goals
    go_enter Try.func66, Try.ntmps66
    go_wp2_with fail
    refine (HG.out _ _ (by omega)).mono ?_
    clear HG key
    rintro e w' ⟨rfl, n, rfl⟩
    go_wp2_with fail
    go_region
    go_wp2_with fail
    refine bodyPost_ret (v := .agg #[.int .i64 (x.tdiv g), .int .i64 ((d : Int) / g)]) (by simp [results, Try.results66, go_sem]) rfl ⟨by rw [HL.out], ?_⟩
    exact grown_setCell (grown_setCell (grown_drewN (World.grownBy_alloc _ _ _) _) (Nat.le_refl _) _) (Nat.le_refl _) _

/-! the reference's -/
def DivRel (g : Nat) (w : World) (x y : Value) (wr : World) : Prop :=
  ∃ (a b : Int) (n : Nat), x = .int .i64 a ∧ y = .int .i64 b ∧ Hid (Nat.gcd a.natAbs b.natAbs = g) ∧ (-9223372036854775807 ≤ a ∧ a ≤ 9223372036854775807 ∧ -9223372036854775807 ≤ b ∧ b ≤ 9223372036854775807) ∧ Hid (wr = w.drewN n)

theorem tmod_bd (a b : Int) (hb : b ≠ 0) (h : -9223372036854775807 ≤ b ∧ b ≤ 9223372036854775807) : -9223372036854775807 ≤ a.tmod b ∧ a.tmod b ≤ 9223372036854775807 := by
  have h1 : (a.tmod b).natAbs = a.natAbs % b.natAbs := Int.natAbs_tmod a b
  have h2 : a.natAbs % b.natAbs < b.natAbs := Nat.mod_lt _ (by omega)
  omega

set_option maxHeartbeats 400000 in
theorem divisor_any (a b : Int) (w : World) (h : -9223372036854775807 ≤ a ∧ a ≤ 9223372036854775807 ∧ -9223372036854775807 ≤ b ∧ b ≤ 9223372036854775807) :
    Calls Try.prog 47 #[.int .i64 a, .int .i64 b] w fun e w' => e = .returned (.int .i64 (Nat.gcd a.natAbs b.natAbs)) ∧ ∃ n, w' = w.drewN n := by
  go_enter Try.func47, Try.ntmps47
  go_wp2
  go_loopw [0, 1] (DivRel (Nat.gcd a.natAbs b.natAbs) w) (fun _ y _ => (intOf y).natAbs)
  case atStart => exact ⟨a, b, 0, rfl, rfl, Lib.hid rfl, h, rfl⟩
  case round =>
    clear h
    obtain ⟨a', b', n, rfl, rfl, hg, hbd, hwr⟩ := hrel
    by_cases hz : b' = 0
    · subst hz
      have HG : Hid (a'.natAbs = Nat.gcd a.natAbs b.natAbs) := by have hg2 := hg.out; simp at hg2; exact hg2
      by_cases hs : a' < 0
      · go_wp2
        go_ret
        exact ⟨ret_int (by rw [← HG.out]; omega), n, hwr⟩
      · by_cases hs' : a' = 0
        · subst hs'
          go_wp2
          go_ret
          exact ⟨ret_int (by rw [← HG.out]; omega), n, hwr⟩
        · have hs2 : 0 < a' := by omega
          go_wp2
          go_ret
          exact ⟨ret_int (by rw [← HG.out]; omega), n, hwr⟩
    · have h3 : (b' != 0) = true := by simp; omega
      have h4 : (b' == 0) = false := by simp; omega
      have h5 := tmod_bd a' b' hz ⟨hbd.2.2.1, hbd.2.2.2⟩
      have h6 : IntKind.i64.wrap (a'.tmod b') = a'.tmod b' := IntWalk.i64_in _ ⟨by omega, by omega⟩
      have HG : Hid (Nat.gcd b'.natAbs (a'.tmod b').natAbs = Nat.gcd a.natAbs b.natAbs) := by rw [Int.natAbs_tmod]; exact (gcd_step _ _).trans hg.out
      have HM : Hid (a'.natAbs % b'.natAbs < b'.natAbs) := Nat.mod_lt _ (by omega)
      go_wp2_with fail
      go_quiet (fail)
      go_roundw
      case rel => (repeat apply Exists.intro); exact ⟨⟨b', a'.tmod b', n + _, rfl, rfl, HG, ⟨hbd.2.2.1, hbd.2.2.2, h5.1, h5.2⟩, (by rw [hwr.out]; exact drewN_add _ _ _)⟩, rfl⟩
      case measure => simp [intOf]; exact HM.out

set_option maxHeartbeats 400000 in
theorem rlowest_any (x : Int) (d : Nat) (d' : Int) (w : World) (hd' : d' = d) (hx1 : -9223372036854775807 ≤ x) (hx2 : x ≤ 9223372036854775807) (hd : d ≤ 9223372036854775807) (hd1 : 1 ≤ d) :
    Calls Try.prog 49 #[.int .i64 x, .int .i64 d'] w fun e w' => e = .returned (.agg #[.int .i64 (low x d).1, .int .i64 (low x d).2]) ∧ w.grownBy w' none := by
  subst hd'
  have hg0 : (Nat.gcd x.natAbs d : Int) ∣ x := Int.ofNat_dvd_left.2 (Nat.gcd_dvd_left _ _)
  have hgp := gcd_pos x.natAbs d hd1
  have hgl : Nat.gcd x.natAbs d ≤ d := Nat.le_of_dvd hd1 (Nat.gcd_dvd_right _ _)
  have HL : Hid (low x d = (x.tdiv (Nat.gcd x.natAbs d : Int), (d : Int) / (Nat.gcd x.natAbs d : Int))) := by
    show low x d = _; rw [quo_eq _ _ hgp hg0]; rfl
  have hq2 : IntKind.i64.wrap (x.tdiv (Nat.gcd x.natAbs d : Int)) = x.tdiv (Nat.gcd x.natAbs d : Int) := by
    have h := low_bd x d hd1
    rw [HL.out] at h
    exact IntWalk.i64_in _ ⟨by simp at h; omega, by simp at h; omega⟩
  have hq3 : IntKind.i64.wrap ((d : Int) / (Nat.gcd x.natAbs d : Int)) = (d : Int) / (Nat.gcd x.natAbs d : Int) := by
    have h := low_bd x d hd1
    rw [HL.out] at h
    exact IntWalk.i64_in _ ⟨by simp at h; omega, by simp at h; omega⟩
  clear hg0
  have HG : Hid (∀ w, Calls Try.prog 47 #[.int .i64 x, .int .i64 d] w fun e w' => e = .returned (.int .i64 (Nat.gcd x.natAbs d)) ∧ ∃ n, w' = w.drewN n) :=
    fun w => divisor_any x d w (by omega)
  generalize Nat.gcd x.natAbs d = g at *
  go_enter Try.func49, Try.ntmps49
  go_wp2_with fail
  refine (HG.out _).mono ?_
  clear HG
  rintro e w' ⟨rfl, n, rfl⟩
  go_wp2_with fail
  go_region
  go_wp2_with fail
  refine bodyPost_ret (v := .agg #[.int .i64 (x.tdiv g), .int .i64 ((d : Int) / g)]) (by simp [results, Try.results49, go_sem]) rfl ⟨by rw [HL.out], ?_⟩
  exact grown_setCell (grown_setCell (grown_drewN (World.grownBy_alloc _ _ _) _) (Nat.le_refl _) _) (Nat.le_refl _) _

/-! rounding down -/
theorem down_lo {a b : Int} (hb : 1 ≤ b) (h : a.tmod b < 0) : a.tdiv b - 1 = a / b := by
  rw [Int.tdiv_eq_ediv]; rw [Int.tmod_eq_emod] at h
  have h3 := Int.emod_nonneg a (b := b) (by omega)
  split at h
  · omega
  · rename_i hc; rw [if_neg hc, Int.sign_eq_one_of_pos (by omega)]; omega
theorem down_hi {a b : Int} (hb : 1 ≤ b) (h : 0 ≤ a.tmod b) : a.tdiv b = a / b := by
  rw [Int.tdiv_eq_ediv]; rw [Int.tmod_eq_emod] at h
  have h3 := Int.emod_lt_of_pos a (b := b) (by omega)
  split at h
  · rename_i hc; rw [if_pos hc]; omega
  · omega
theorem tdiv_bd {a b : Int} (hb : 1 ≤ b) (h1 : -9223372036854775807 ≤ a) (h2 : a ≤ 9223372036854775807) : -9223372036854775807 ≤ a.tdiv b ∧ a.tdiv b ≤ 9223372036854775807 := by
  have h := Int.natAbs_tdiv_le_natAbs a b
  omega

set_option maxHeartbeats 400000 in
theorem down_any (a b : Int) (w : World) (h1 : -9223372036854775807 ≤ a) (h2 : a ≤ 9223372036854775807) (hb : 1 ≤ b) (hb2 : b ≤ 9223372036854775807) :
    Calls Try.prog 41 #[.int .i64 a, .int .i64 b] w fun e w' => e = .returned (.int .i64 (a / b)) ∧ w = w' := by
  have h3 := tdiv_bd hb h1 h2
  have h4 : IntKind.i64.wrap (a.tdiv b) = a.tdiv b := IntWalk.i64_in _ ⟨by omega, by omega⟩
  by_cases hm : a.tmod b < 0
  · have H := Lib.hid (down_lo hb hm)
    go_enter Try.func41, Try.ntmps41
    go_wp2
    go_ret
    exact ⟨ret_int (by first | exact H.out | (rw [IntWalk.wrap64_in _ (by omega)]; exact H.out)), rfl⟩
  · have H := Lib.hid (down_hi (a := a) hb (by omega))
    go_enter Try.func41, Try.ntmps41
    go_wp2
    go_ret
    exact ⟨ret_int H.out, rfl⟩

set_option maxHeartbeats 400000 in
theorem floor_any (a b : Int) (w : World) (h1 : -9223372036854775807 ≤ a) (h2 : a ≤ 9223372036854775807) (hb : 1 ≤ b) (hb2 : b ≤ 9223372036854775807) :
    Calls Try.prog 51 #[.int .i64 a, .int .i64 b] w fun e w' => e = .returned (.int .i64 (a / b)) ∧ w = w' := by
  have h3 := tdiv_bd hb h1 h2
  have h4 : IntKind.i64.wrap (a.tdiv b) = a.tdiv b := IntWalk.i64_in _ ⟨by omega, by omega⟩
  by_cases hm : a.tmod b < 0
  · have H := Lib.hid (down_lo hb hm)
    go_enter Try.func51, Try.ntmps51
    go_wp2
    go_ret
    exact ⟨ret_int (by first | exact H.out | (rw [IntWalk.wrap64_in _ (by omega)]; exact H.out)), rfl⟩
  · have H := Lib.hid (down_hi (a := a) hb (by omega))
    go_enter Try.func51, Try.ntmps51
    go_wp2
    go_ret
    exact ⟨ret_int H.out, rfl⟩
end Go.Proofs.Ytfocpjjcllpfbaa
