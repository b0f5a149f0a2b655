/- Parts of the proof, in order. -/
import Derived.Test.YtjflmenfinohcaaMEventsMatched2
import Derived.Laws.Bits64b
import Derived.Lib.Mul64
import Derived.StillTailTactics

/- Walks of package base, and of the small functions of the reference that say the same. -/
namespace Go.Proofs.Ytjflmenfinohcaa.Hd
set_option linter.unusedVariables false
set_option linter.unusedSimpArgs false
open Go.RowKit

/-- n is from lo to hi -/
def inB (n lo hi : Int) : Bool := decide (lo ≤ n ∧ n ≤ hi)
theorem inB_true {n lo hi : Int} (h : lo ≤ n ∧ n ≤ hi) : inB n lo hi = true := decide_eq_true h
theorem inB_false {n lo hi : Int} (h : ¬ (lo ≤ n ∧ n ≤ hi)) : inB n lo hi = false := decide_eq_false h
theorem of_inB {n lo hi : Int} (h : inB n lo hi = true) : lo ≤ n ∧ n ≤ hi := of_decide_eq_true h

set_option maxHeartbeats 400000 in
theorem out_any (n lo hi : Int) (w : World) : Calls Try.prog 22 #[.int .i64 n, .int .i64 lo, .int .i64 hi] w fun e w' => e = .returned (.bool (!inB n lo hi)) ∧ w = w' := by
  by_cases h1 : n < lo
  · have H := Lib.hid (inB_false (n := n) (lo := lo) (hi := hi) (by omega))
    go_enter Try.func22, Try.ntmps22
    go_wp2
    go_ret
    exact ⟨ret_bool (by rw [H.out]; rfl), rfl⟩
  · by_cases h2 : hi < n
    · have H := Lib.hid (inB_false (n := n) (lo := lo) (hi := hi) (by omega))
      go_enter Try.func22, Try.ntmps22
      go_wp2
      go_ret
      exact ⟨ret_bool (by rw [H.out]; simp [h2]), rfl⟩
    · have H := Lib.hid (inB_true (n := n) (lo := lo) (hi := hi) (by omega))
      go_enter Try.func22, Try.ntmps22
      go_wp2
      go_ret
      exact ⟨ret_bool (by rw [H.out]; simp [h2]), rfl⟩

set_option maxHeartbeats 400000 in
theorem in_any (n lo hi : Int) (w : World) : Calls Try.prog 23 #[.int .i64 n, .int .i64 lo, .int .i64 hi] w fun e w' => e = .returned (.bool (inB n lo hi)) ∧ w = w' := by
  by_cases h1 : lo ≤ n
  · by_cases h2 : n ≤ hi
    · have H := Lib.hid (inB_true (n := n) (lo := lo) (hi := hi) (by omega))
      go_enter Try.func23, Try.ntmps23
      go_wp2
      go_ret
      exact ⟨ret_bool (by rw [H.out]), rfl⟩
    · have H := Lib.hid (inB_false (n := n) (lo := lo) (hi := hi) (by omega))
      go_enter Try.func23, Try.ntmps23
      go_wp2
      go_ret
      exact ⟨ret_bool (by rw [H.out]), rfl⟩
  · have H := Lib.hid (inB_false (n := n) (lo := lo) (hi := hi) (by omega))
    go_enter Try.func23, Try.ntmps23
    go_wp2
    go_ret
    exact ⟨ret_bool (by rw [H.out]), rfl⟩

/-! greatest common divisors -/
def GcdRel (a b : Nat) (w : World) (x y : Value) (wr : World) : Prop :=
  ∃ a' b' n : Nat, x = .int .i64 a' ∧ y = .int .i64 b' ∧ Hid (Nat.gcd a' b' = Nat.gcd a b) ∧ a' ≤ 9223372036854775807 ∧ b' ≤ 9223372036854775807 ∧ Hid (wr = w.drewN n)
theorem drewN_add (w : World) (a b : Nat) : (w.drewN a).drewN b = w.drewN (a + b) := by simp [World.drewN, Nat.add_assoc]
theorem gcd_step (a b : Nat) : Nat.gcd b (a % b) = Nat.gcd a b := by rw [Nat.gcd_comm a b, Nat.gcd_rec b a, Nat.gcd_comm]
set_option maxHeartbeats 400000 in
theorem gcd_any (a b : Nat) (A : Int) (w : World) (hA : A = a) (ha : a ≤ 9223372036854775807) (hb : b ≤ 9223372036854775807) :
    Calls Try.prog 54 #[.int .i64 A, .int .i64 b] w fun e w' => e = .returned (.int .i64 (Nat.gcd a b)) ∧ ∃ n, w' = w.drewN n := by
  subst hA
  go_enter Try.func54, Try.ntmps54
  go_wp2
  go_loopw [0, 1] (GcdRel a b w) (fun _ y _ => (intOf y).toNat)
  case atStart => exact ⟨a, b, 0, rfl, rfl, Lib.hid rfl, ha, hb, rfl⟩
  case round =>
    obtain ⟨a', b', n, rfl, rfl, hg, ha', hb', hwr⟩ := hrel
    by_cases hz : b' = 0
    · subst hz
      go_wp2
      go_ret
      exact ⟨ret_int (by have := hg.out; simp at this; rw [this]), n, hwr⟩
    · have h1 : 1 ≤ b' := by omega
      have h2 : a' % b' < b' := Nat.mod_lt _ h1
      have h3 : ((b' : Int) != 0) = true := by simp; omega
      have HG : Hid (Nat.gcd b' (a' % b') = Nat.gcd a b) := (gcd_step a' b').trans hg.out
      clear hz
      go_wp2_with fail
      go_quiet (fail)
      go_roundw
      case rel => (repeat apply Exists.intro); exact ⟨⟨b', a' % b', n + _, rfl, rfl, HG, hb', by omega, (by rw [hwr.out]; exact drewN_add _ _ _)⟩, rfl⟩
      case measure => simp [intOf]; omega

theorem gcd_pos (a b : Nat) (h : 1 ≤ b) : 1 ≤ Nat.gcd a b := Nat.gcd_pos_of_pos_right a h
theorem quo_eq (x : Int) (g : Nat) (hg : 1 ≤ g) (h : (g : Int) ∣ x) : x.tdiv g = x / g := Int.tdiv_eq_ediv_of_dvd h

/-- a fraction in lowest terms -/
def low (x : Int) (d : Nat) : Int × Int := (x / (Nat.gcd x.natAbs d : Int), (d : Int) / (Nat.gcd x.natAbs d : Int))

theorem low_bd (x : Int) (d : Nat) (h : 1 ≤ d) : (low x d).2 ≤ d ∧ 1 ≤ (low x d).2 ∧ -(x.natAbs : Int) ≤ (low x d).1 ∧ (low x d).1 ≤ x.natAbs := by
  have hgp := gcd_pos x.natAbs d h
  have hgl : Nat.gcd x.natAbs d ≤ d := Nat.le_of_dvd h (Nat.gcd_dvd_right _ _)
  have h2 : (low x d).2 = ((d / Nat.gcd x.natAbs d : Nat) : Int) := rfl
  have h3 : 1 ≤ d / Nat.gcd x.natAbs d := Nat.div_pos hgl hgp
  have h4 : d / Nat.gcd x.natAbs d ≤ d := Nat.div_le_self _ _
  have h5 : (low x d).1 = x / (Nat.gcd x.natAbs d : Int) := rfl
  rw [h2, h5]
  generalize Nat.gcd x.natAbs d = g at *
  refine ⟨by omega, by omega, ?_, ?_⟩
  · rcases Int.le_total 0 x with hx | hx
    · have := Int.ediv_nonneg hx (show 0 ≤ (g : Int) by omega); omega
    · have : x ≤ x / g := by
        rw [Int.le_ediv_iff_mul_le (by omega)]
        have := Int.mul_le_mul_of_nonpos_right (a := (g : Int)) (b := 1) (c := x) (by omega) hx
        rw [Int.mul_comm (g : Int) x] at this; omega
      omega
  · rcases Int.le_total 0 x with hx | hx
    · have := Int.ediv_le_self (a := x) (g : Int) hx; omega
    · have : x / (g : Int) ≤ 0 := Int.ediv_nonpos_of_nonpos_of_neg hx (by omega)
      omega

set_option maxHeartbeats 400000 in
theorem fraction_any (x : Int) (d : Nat) (d' : Int) (w : World) (hd' : d' = d) (hx1 : -9223372036854775807 ≤ x) (hx2 : x ≤ 9223372036854775807) (hd : d ≤ 9223372036854775807) (hd1 : 1 ≤ d) :
    Calls Try.prog 50 #[.int .i64 x, .int .i64 d'] w fun e w' => e = .returned (.agg #[.int .i64 (low x d).1, .int .i64 (low x d).2]) ∧ w.grownBy w' none := by
  subst hd'
  have hg0 : (Nat.gcd x.natAbs d : Int) ∣ x := Int.ofNat_dvd_left.2 (Nat.gcd_dvd_left _ _)
  have hg1 : (Nat.gcd x.natAbs d : Int) ∣ (d : Int) := Int.natCast_dvd_natCast.2 (Nat.gcd_dvd_right _ _)
  have hgp := gcd_pos x.natAbs d hd1
  have hgl : Nat.gcd x.natAbs d ≤ d := Nat.le_of_dvd hd1 (Nat.gcd_dvd_right _ _)
  have HL : Hid (low x d = (x.tdiv (Nat.gcd x.natAbs d : Int), (d : Int) / (Nat.gcd x.natAbs d : Int))) := by
    show low x d = _; rw [quo_eq _ _ hgp hg0]; rfl
  have hq2 : IntKind.i64.wrap (x.tdiv (Nat.gcd x.natAbs d : Int)) = x.tdiv (Nat.gcd x.natAbs d : Int) := by
    have h := low_bd x d hd1
    rw [HL.out] at h
    exact IntWalk.i64_in _ ⟨by simp at h; omega, by simp at h; omega⟩
  have hq3 : IntKind.i64.wrap ((d : Int) / (Nat.gcd x.natAbs d : Int)) = (d : Int) / (Nat.gcd x.natAbs d : Int) := by
    have h := low_bd x d hd1
    rw [HL.out] at h
    exact IntWalk.i64_in _ ⟨by simp at h; omega, by simp at h; omega⟩
  clear hg0 hg1
  have HG : Hid (∀ A w, A = (x.natAbs : Int) → Calls Try.prog 54 #[.int .i64 A, .int .i64 d] w fun e w' => e = .returned (.int .i64 (Nat.gcd x.natAbs d)) ∧ ∃ n, w' = w.drewN n) :=
    fun A w hA => gcd_any x.natAbs d A w hA (by omega) hd
  generalize Nat.gcd x.natAbs d = g at *
  have key : ∀ A, A = (x.natAbs : Int) → max x (-x) = A → True := fun _ _ _ => trivial
  by_cases hs : 0 ≤ x
  all_goals
    go_enter Try.func50, Try.ntmps50
    go_wp2_with fail
    refine (HG.out _ _ (by omega)).mono ?_
    clear HG key
    rintro e w' ⟨rfl, n, rfl⟩
    go_wp2_with fail
    go_region
    go_wp2_with fail
    refine bodyPost_ret (v := .agg #[.int .i64 (x.tdiv g), .int .i64 ((d : Int) / g)]) (by simp [results, Try.results50, go_sem]) rfl ⟨by rw [HL.out], ?_⟩
    exact grown_setCell (grown_setCell (grown_drewN (World.grownBy_alloc _ _ _) _) (Nat.le_refl _) _) (Nat.le_refl _) _

/-! the reference's -/
/-! rounding down -/
theorem down_lo {a b : Int} (hb : 1 ≤ b) (h : a.tmod b < 0) : a.tdiv b - 1 = a / b := by
  rw [Int.tdiv_eq_ediv]; rw [Int.tmod_eq_emod] at h
  have h3 := Int.emod_nonneg a (b := b) (by omega)
  split at h
  · omega
  · rename_i hc; rw [if_neg hc, Int.sign_eq_one_of_pos (by omega)]; omega
theorem down_hi {a b : Int} (hb : 1 ≤ b) (h : 0 ≤ a.tmod b) : a.tdiv b = a / b := by
  rw [Int.tdiv_eq_ediv]; rw [Int.tmod_eq_emod] at h
  have h3 := Int.emod_lt_of_pos a (b := b) (by omega)
  split at h
  · rename_i hc; rw [if_pos hc]; omega
  · omega
theorem tdiv_bd {a b : Int} (hb : 1 ≤ b) (h1 : -9223372036854775807 ≤ a) (h2 : a ≤ 9223372036854775807) : -9223372036854775807 ≤ a.tdiv b ∧ a.tdiv b ≤ 9223372036854775807 := by
  have h := Int.natAbs_tdiv_le_natAbs a b
  omega

set_option maxHeartbeats 400000 in
theorem down_any (a b : Int) (w : World) (h1 : -9223372036854775807 ≤ a) (h2 : a ≤ 9223372036854775807) (hb : 1 ≤ b) (hb2 : b ≤ 9223372036854775807) :
    Calls Try.prog 42 #[.int .i64 a, .int .i64 b] w fun e w' => e = .returned (.int .i64 (a / b)) ∧ w = w' := by
  have h3 := tdiv_bd hb h1 h2
  have h4 : IntKind.i64.wrap (a.tdiv b) = a.tdiv b := IntWalk.i64_in _ ⟨by omega, by omega⟩
  by_cases hm : a.tmod b < 0
  · have H := Lib.hid (down_lo hb hm)
    go_enter Try.func42, Try.ntmps42
    go_wp2
    go_ret
    exact ⟨ret_int (by first | exact H.out | (rw [IntWalk.wrap64_in _ (by omega)]; exact H.out)), rfl⟩
  · have H := Lib.hid (down_hi (a := a) hb (by omega))
    go_enter Try.func42, Try.ntmps42
    go_wp2
    go_ret
    exact ⟨ret_int H.out, rfl⟩

end Go.Proofs.Ytjflmenfinohcaa.Hd

/- Walks of package base: comparisons, the first error, lowest terms. -/
namespace Go.Proofs.Ytjflmenfinohcaa.Hd
set_option linter.unusedVariables false
set_option linter.unusedSimpArgs false
open Go.RowKit

/-! the first error -/
def firstErr : List Int → Int
  | [] => 0
  | x :: r => if x = 0 then firstErr r else x
theorem firstErr_drop (xs : List Int) (k : Nat) (h : k < xs.length) : firstErr (xs.drop k) = if xs.getD k 0 = 0 then firstErr (xs.drop (k + 1)) else xs.getD k 0 := by
  rw [List.drop_eq_getElem_cons h]; simp [firstErr, h]

set_option maxHeartbeats 400000 in
theorem first_any (a : Option Addr) (n cap : Nat) (xs : List Int) (w : World) (hn : n = xs.length) (hm : n ≤ maxLen) (h : At w a (ints xs)) :
    Calls Try.prog 32 #[.slice a n cap] w fun e w' => e = .returned (.int .i64 (firstErr xs)) ∧ w = w' := by
  subst hn
  unfold maxLen at hm
  go_enter Try.func32, Try.ntmps32
  go_wp2
  go_loop [7] (fun i => ∃ k : Nat, k ≤ xs.length ∧ Hid (firstErr (xs.drop k) = firstErr xs) ∧ i = .int .i64 k) (fun i => xs.length - (intOf i).toNat)
  case atStart => exact ⟨0, Nat.zero_le _, by exact Lib.hid rfl, rfl⟩
  case round =>
    obtain ⟨k, hk, hf, rfl⟩ := hrel
    by_cases hlt : k < xs.length
    · obtain ⟨b, off, rfl, hck⟩ := h.int hlt
      have HS := Lib.hid (firstErr_drop xs k hlt)
      generalize xs.getD k 0 = x at hck HS
      by_cases hx : x = 0
      · subst hx
        go_wp2
        go_round
        case rel => exact ⟨k + 1, by omega, (by have := HS.out; rw [if_pos rfl, hf.out] at this; exact this.symm), by go_num⟩
        case measure => simp [intOf]; omega
      · have hx2 : (x != 0) = true := by simp; exact hx
        go_wp2
        go_ret
        exact ⟨ret_int (by have := HS.out; rw [if_neg hx, hf.out] at this; exact this.symm), rfl⟩
    · go_wp2
      go_ret
      exact ⟨ret_int (by rw [← hf.out, List.drop_of_length_le (by omega)]; rfl), rfl⟩
theorem first_lit (xs : List Int) (w : World) (cs : Array Value) (n : Nat) (E : TypeId) (B : Nat) (hB : w.heap.size = B) (hcs : cs = (ints xs).toArray) (hn : n = xs.length) (h2 : n < 1000) :
    Calls Try.prog 32 #[.slice (some ⟨B, 0, none⟩) n n] (w.alloc (.cells cs E)) fun e w' => e = .returned (.int .i64 (firstErr xs)) ∧ w.alloc (.cells cs E) = w' := by
  subst hB
  exact first_any _ _ _ xs _ hn (by unfold maxLen; omega) (by subst hcs; exact At.lit _ _ _)

/-! comparisons -/
def cmp3 (x y : Int) : Int := if x < y then -1 else if y < x then 1 else 0
theorem cmp3_lt {x y : Int} (h : x < y) : cmp3 x y = -1 := by simp [cmp3, h]
theorem cmp3_gt {x y : Int} (h : y < x) : cmp3 x y = 1 := by unfold cmp3; rw [if_neg (by omega), if_pos h]
theorem cmp3_eq {x y : Int} (h : x = y) : cmp3 x y = 0 := by subst h; simp [cmp3]

set_option maxHeartbeats 400000 in
theorem isnan_any (x : Int) (w : World) : Calls Try.prog 55 #[.int .i64 x] w fun e w' => e = .returned (.bool false) ∧ w = w' := by
  go_enter Try.func55, Try.ntmps55
  go_wp2
  go_ret
  exact ⟨ret_bool (by simp), rfl⟩

set_option maxHeartbeats 400000 in
theorem cmp_any (x y : Int) (w : World) : Calls Try.prog 51 #[.int .i64 x, .int .i64 y] w fun e w' => e = .returned (.int .i64 (cmp3 x y)) ∧ w = w' := by
  rcases Int.lt_trichotomy x y with h | h | h
  · have H := Lib.hid (cmp3_lt h)
    go_enter Try.func51, Try.ntmps51
    go_wp2_with fail
    refine (isnan_any _ _).mono ?_
    rintro e w1 ⟨rfl, rfl⟩
    go_wp2_with fail
    refine (isnan_any _ _).mono ?_
    rintro e w1 ⟨rfl, rfl⟩
    go_wp2_with fail
    go_ret
    exact ⟨ret_int H.out.symm, rfl⟩
  · subst h
    have H := Lib.hid (cmp3_eq (x := x) rfl)
    go_enter Try.func51, Try.ntmps51
    go_wp2_with fail
    refine (isnan_any _ _).mono ?_
    rintro e w1 ⟨rfl, rfl⟩
    go_wp2_with fail
    refine (isnan_any _ _).mono ?_
    rintro e w1 ⟨rfl, rfl⟩
    go_wp2_with fail
    go_ret
    exact ⟨ret_int H.out.symm, rfl⟩
  · have H := Lib.hid (cmp3_gt h)
    go_enter Try.func51, Try.ntmps51
    go_wp2_with fail
    refine (isnan_any _ _).mono ?_
    rintro e w1 ⟨rfl, rfl⟩
    go_wp2_with fail
    refine (isnan_any _ _).mono ?_
    rintro e w1 ⟨rfl, rfl⟩
    go_wp2_with fail
    go_ret
    exact ⟨ret_int H.out.symm, rfl⟩

namespace M64
theorem maskN (a : Nat) (ha : a < 18446744073709551616) : bits .and .u64 (a : Int) 4294967295 = ((a % 4294967296 : Nat) : Int) := by
  have h := bits_and_u64_nat a 4294967295 ha (by omega)
  have e : a &&& 4294967295 = a % 4294967296 := Nat.and_two_pow_sub_one_eq_mod a 32
  rw [e] at h
  exact h
theorem divN (a : Nat) : (a : Int) / 4294967296 = ((a / 4294967296 : Nat) : Int) := by omega
theorem mulN (a b : Nat) : (a : Int) * (b : Int) = ((a * b : Nat) : Int) := (Int.natCast_mul a b).symm
theorem addN (a b : Nat) : (a : Int) + (b : Int) = ((a + b : Nat) : Int) := (Int.natCast_add a b).symm
theorem wrapN (a : Nat) (ha : a < 18446744073709551616) : IntKind.u64.wrap (a : Int) = (a : Int) := by rw [IntKind.wrap_u64]; omega
theorem wrapM (a : Nat) : IntKind.u64.wrap (a : Int) = ((a % 18446744073709551616 : Nat) : Int) := by rw [IntKind.wrap_u64]; omega
end M64

set_option maxHeartbeats 1000000 in
theorem mul64_any (x y : Nat) (hx : x < 18446744073709551616) (hy : y < 18446744073709551616) (w : World) :
    Calls Try.prog 56 #[.int .u64 x, .int .u64 y] w fun e w' => e = .returned (.tuple #[.int .u64 ((x * y / 18446744073709551616 : Nat) : Int), .int .u64 ((x * y % 18446744073709551616 : Nat) : Int)]) ∧ w = w' := by
  obtain ⟨bd, bt, bw, hhi⟩ := Lib.mul64_hi x y hx hy
  have ba := Lib.half_mul_le (a := x / 4294967296) (b := y / 4294967296) (by omega) (by omega)
  have bb := Lib.half_mul_le (a := x / 4294967296) (b := y % 4294967296) (by omega) (by omega)
  have bc := Lib.half_mul_le (a := x % 4294967296) (b := y / 4294967296) (by omega) (by omega)
  have ba' : x / 4294967296 * (y / 4294967296) < 18446744073709551616 := by omega
  have bb' : x / 4294967296 * (y % 4294967296) < 18446744073709551616 := by omega
  have bc' : x % 4294967296 * (y / 4294967296) < 18446744073709551616 := by omega
  have bh1 : x / 4294967296 * (y / 4294967296) + (x / 4294967296 * (y % 4294967296) + x % 4294967296 * (y % 4294967296) / 4294967296) / 4294967296 < 18446744073709551616 := by omega
  have bh : x / 4294967296 * (y / 4294967296) + (x / 4294967296 * (y % 4294967296) + x % 4294967296 * (y % 4294967296) / 4294967296) / 4294967296 + ((x / 4294967296 * (y % 4294967296) + x % 4294967296 * (y % 4294967296) / 4294967296) % 4294967296 + x % 4294967296 * (y / 4294967296)) / 4294967296 < 18446744073709551616 := by omega
  go_enter Try.func56, Try.ntmps56
  go_wp2
  simp only [M64.maskN x hx, M64.maskN y hy, M64.divN, M64.mulN, M64.addN, M64.wrapN _ bd, M64.wrapN _ bb', M64.wrapN _ bt, M64.maskN _ bt, M64.wrapN _ bc', M64.wrapN _ bw, M64.wrapN _ ba', M64.wrapN _ bh1, M64.wrapN _ bh, M64.wrapM (x * y)]
  rw [hhi]
  go_ret2
  exact ⟨rfl, rfl⟩

def CPost (x y : Int) (w : World) (e : Ending) (w' : World) : Prop := e = .returned (.int .i64 (cmp3 x y)) ∧ w = w'

set_option maxHeartbeats 1000000 in
theorem products_any (a b c d : Nat) (w : World) (ha : a ≤ 9223372036854775807) (hb : b ≤ 9223372036854775807) (hc : c ≤ 9223372036854775807) (hd : d ≤ 9223372036854775807) :
    Calls Try.prog 52 #[.int .i64 a, .int .i64 b, .int .i64 c, .int .i64 d] w (CPost ((a * b : Nat) : Int) ((c * d : Nat) : Int) w) := by
  have HM : Hid (∀ (x y : Nat) (w : World), x ≤ 9223372036854775807 → y ≤ 9223372036854775807 → Calls Try.prog 56 #[.int .u64 x, .int .u64 y] w fun e w' => e = .returned (.tuple #[.int .u64 ((x * y / 18446744073709551616 : Nat) : Int), .int .u64 ((x * y % 18446744073709551616 : Nat) : Int)]) ∧ w = w') :=
    fun x y w hx hy => mul64_any x y (by omega) (by omega) w
  have hp := HM.out a b
  have hq := HM.out c d
  have HP := Lib.hid hp
  have HQ := Lib.hid hq
  clear hp hq HM
  generalize a * b = X at *
  generalize c * d = Y at *
  obtain ⟨h, H1⟩ : ∃ h, Hid (X / 18446744073709551616 = h) := ⟨_, rfl⟩
  obtain ⟨l, H2⟩ : ∃ l, Hid (X % 18446744073709551616 = l) := ⟨_, rfl⟩
  obtain ⟨i, H3⟩ : ∃ i, Hid (Y / 18446744073709551616 = i) := ⟨_, rfl⟩
  obtain ⟨m, H4⟩ : ∃ m, Hid (Y % 18446744073709551616 = m) := ⟨_, rfl⟩
  rw [H1.out, H2.out] at HP
  rw [H3.out, H4.out] at HQ
  rcases Nat.lt_trichotomy h i with hi | hi | hi
  · have HR : Hid (cmp3 (X : Int) Y = -1) := cmp3_lt (by have := H1.out; have := H2.out; have := H3.out; have := H4.out; omega)
    have hne : ((h : Int) != i) = true := by simp; omega
    clear H1 H2 H3 H4
    go_enter Try.func52, Try.ntmps52
    go_wp2_with fail
    refine (HP.out _ ha hb).mono ?_
    rintro e w1 ⟨rfl, rfl⟩
    go_wp2_with fail
    refine (HQ.out _ hc hd).mono ?_
    rintro e w1 ⟨rfl, rfl⟩
    go_wp2_with fail
    go_ret
    exact ⟨ret_int HR.out.symm, rfl⟩
  · subst hi
    rcases Nat.lt_trichotomy l m with hl | hl | hl
    · have HR : Hid (cmp3 (X : Int) Y = -1) := cmp3_lt (by have := H1.out; have := H2.out; have := H3.out; have := H4.out; omega)
      have hlt : (l : Int) < m := by omega
      clear H1 H2 H3 H4
      go_enter Try.func52, Try.ntmps52
      go_wp2_with fail
      refine (HP.out _ ha hb).mono ?_
      rintro e w1 ⟨rfl, rfl⟩
      go_wp2_with fail
      refine (HQ.out _ hc hd).mono ?_
      rintro e w1 ⟨rfl, rfl⟩
      go_wp2_with fail
      go_ret
      exact ⟨ret_int HR.out.symm, rfl⟩
    · subst hl
      have HR : Hid (cmp3 (X : Int) Y = 0) := cmp3_eq (by have := H1.out; have := H2.out; have := H3.out; have := H4.out; omega)
      clear H1 H2 H3 H4
      go_enter Try.func52, Try.ntmps52
      go_wp2_with fail
      refine (HP.out _ ha hb).mono ?_
      rintro e w1 ⟨rfl, rfl⟩
      go_wp2_with fail
      refine (HQ.out _ hc hd).mono ?_
      rintro e w1 ⟨rfl, rfl⟩
      go_wp2_with fail
      go_ret
      exact ⟨ret_int HR.out.symm, rfl⟩
    · have HR : Hid (cmp3 (X : Int) Y = 1) := cmp3_gt (by have := H1.out; have := H2.out; have := H3.out; have := H4.out; omega)
      have hne : ((l : Int) == m) = false := by simp; omega
      clear H1 H2 H3 H4
      go_enter Try.func52, Try.ntmps52
      go_wp2_with fail
      refine (HP.out _ ha hb).mono ?_
      rintro e w1 ⟨rfl, rfl⟩
      go_wp2_with fail
      refine (HQ.out _ hc hd).mono ?_
      rintro e w1 ⟨rfl, rfl⟩
      go_wp2_with fail
      go_ret
      exact ⟨ret_int HR.out.symm, rfl⟩
  · have HR : Hid (cmp3 (X : Int) Y = 1) := cmp3_gt (by have := H1.out; have := H2.out; have := H3.out; have := H4.out; omega)
    have hne : ((h : Int) != i) = true := by simp; omega
    have hne' : ((h : Int) == i) = false := by simp; omega
    clear H1 H2 H3 H4
    go_enter Try.func52, Try.ntmps52
    go_wp2_with fail
    refine (HP.out _ ha hb).mono ?_
    rintro e w1 ⟨rfl, rfl⟩
    go_wp2_with fail
    refine (HQ.out _ hc hd).mono ?_
    rintro e w1 ⟨rfl, rfl⟩
    go_wp2_with fail
    go_ret
    exact ⟨ret_int HR.out.symm, rfl⟩

/-! lowest terms -/
def LowRel (g : Nat) (w : World) (x y : Value) (wr : World) : Prop :=
  ∃ a b n : Nat, x = .int .u64 a ∧ y = .int .u64 b ∧ Hid (Nat.gcd a b = g) ∧ a ≤ 9223372036854775807 ∧ b ≤ 9223372036854775807 ∧ Hid (wr = w.drewN n)

set_option maxHeartbeats 1000000 in
theorem blowest_any (x d : Nat) (w : World) (hx : x ≤ 9223372036854775807) (hd : d ≤ 9223372036854775807) :
    Calls Try.prog 53 #[.agg #[.int .i64 x, .int .i64 d]] w fun e w' => e = .returned (.bool (decide (Nat.gcd x d = 1))) ∧ w.grownBy w' none := by
  go_enter Try.func53, Try.ntmps53
  go_wp2_with fail
  go_quiet (fail)
  go_wp2_with fail
  go_loopw [3, 4] (LowRel (Nat.gcd x d) (w.alloc (.cells #[.int .i64 x, .int .i64 d] 70))) (fun _ y _ => (intOf y).toNat)
  case atStart => exact ⟨x, d, _, rfl, rfl, Lib.hid rfl, hx, hd, rfl⟩
  case round =>
    clear hx hd
    obtain ⟨a', b', n, rfl, rfl, hg, ha', hb', hwr⟩ := hrel
    by_cases hz : b' = 0
    · subst hz
      have HG : Hid (a' = Nat.gcd x d) := by have hg2 := hg.out; simp at hg2; exact hg2
      go_wp2
      go_ret
      exact ⟨ret_bool (by have hz := HG.out; rw [Bool.eq_iff_iff]; simp; omega), by rw [hwr.out]; exact grown_drewN (World.grownBy_alloc _ _ _) _⟩
    · have h1 : 1 ≤ b' := by omega
      have h2 : a' % b' < b' := Nat.mod_lt _ h1
      have h3 : ((b' : Int) != 0) = true := by simp; omega
      have HG : Hid (Nat.gcd b' (a' % b') = Nat.gcd x d) := (gcd_step a' b').trans hg.out
      clear hz
      go_wp2_with fail
      go_quiet (fail)
      go_roundw
      case rel => (repeat apply Exists.intro); exact ⟨⟨b', a' % b', n + _, rfl, rfl, HG, hb', by omega, (by rw [hwr.out]; exact drewN_add _ _ _)⟩, rfl⟩
      case measure => simp [intOf]; omega

/-! fractions -/
set_option maxHeartbeats 1000000 in
theorem compare_nonneg (a b c d : Nat) (w : World) (ha : a ≤ 9223372036854775807) (hb : b ≤ 9223372036854775807) (hc : c ≤ 9223372036854775807) (hd : d ≤ 9223372036854775807) :
    Calls Try.prog 43 #[.agg #[.int .i64 a, .int .i64 b], .agg #[.int .i64 c, .int .i64 d]] w fun e w' => e = .returned (.int .i64 (cmp3 ((a * d : Nat) : Int) ((c * b : Nat) : Int))) ∧ w.grownBy w' none := by
  go_enter Try.func43, Try.ntmps43
  go_wp2_with fail
  refine (products_any a d c b _ ha hd hc hb).mono ?_
  rintro e w1 ⟨rfl, rfl⟩
  go_wp2_with fail
  go_ret
  exact ⟨rfl, grown_alloc_r (World.grownBy_alloc _ _ _) _⟩

set_option maxHeartbeats 1000000 in
theorem compare_mixed (a c : Int) (b d : Nat) (w : World) (h1 : a < 0 ∨ c < 0) (h2 : 0 ≤ a ∨ 0 ≤ c) :
    Calls Try.prog 43 #[.agg #[.int .i64 a, .int .i64 b], .agg #[.int .i64 c, .int .i64 d]] w fun e w' => e = .returned (.int .i64 (cmp3 a c)) ∧ w.grownBy w' none := by
  by_cases ha : a < 0
  · have hc : ¬ c < 0 := by omega
    clear h1 h2
    go_enter Try.func43, Try.ntmps43
    go_wp2_with fail
    refine (cmp_any _ _ _).mono ?_
    rintro e w1 ⟨rfl, rfl⟩
    go_wp2_with fail
    go_ret
    exact ⟨rfl, grown_alloc_r (World.grownBy_alloc _ _ _) _⟩
  · have hc : c < 0 := by omega
    clear h1 h2
    go_enter Try.func43, Try.ntmps43
    go_wp2_with fail
    refine (cmp_any _ _ _).mono ?_
    rintro e w1 ⟨rfl, rfl⟩
    go_wp2_with fail
    go_ret
    exact ⟨rfl, grown_alloc_r (World.grownBy_alloc _ _ _) _⟩

set_option maxHeartbeats 1000000 in
theorem compare_neg (a c : Int) (b d : Nat) (w : World) (h1 : a < 0) (h2 : c < 0) (h3 : -9223372036854775807 ≤ a) (h4 : -9223372036854775807 ≤ c) (hb : b ≤ 9223372036854775807) (hd : d ≤ 9223372036854775807) :
    Calls Try.prog 43 #[.agg #[.int .i64 a, .int .i64 b], .agg #[.int .i64 c, .int .i64 d]] w fun e w' => e = .returned (.int .i64 (cmp3 ((c.natAbs * b : Nat) : Int) ((a.natAbs * d : Nat) : Int))) ∧ w.grownBy w' none := by
  obtain ⟨A, rfl⟩ : ∃ A : Nat, a = -(A : Int) := ⟨a.natAbs, by omega⟩
  obtain ⟨C, rfl⟩ : ∃ C : Nat, c = -(C : Int) := ⟨c.natAbs, by omega⟩
  rw [show (-(A : Int)).natAbs = A by omega, show (-(C : Int)).natAbs = C by omega]
  have HC : Hid (∀ w, Calls Try.prog 43 #[.agg #[.int .i64 C, .int .i64 d], .agg #[.int .i64 A, .int .i64 b]] w fun e w' => e = .returned (.int .i64 (cmp3 ((C * b : Nat) : Int) ((A * d : Nat) : Int))) ∧ w.grownBy w' none) :=
    fun w => compare_nonneg C d A b w (by omega) hd (by omega) hb
  go_enter Try.func43, Try.ntmps43
  go_wp2_with fail
  refine (HC.out _).mono ?_
  rintro e w1 ⟨rfl, hg⟩
  clear HC
  go_wp2_with fail
  go_ret
  exact ⟨rfl, (grown_alloc_r (World.grownBy_alloc _ _ _) _).trans hg⟩

theorem compare_any (a c : Int) (b d : Nat) (w : World) (ha : -9223372036854775807 ≤ a ∧ a ≤ 9223372036854775807) (hc : -9223372036854775807 ≤ c ∧ c ≤ 9223372036854775807) (hb : 1 ≤ b ∧ b ≤ 9223372036854775807) (hd : 1 ≤ d ∧ d ≤ 9223372036854775807) :
    Calls Try.prog 43 #[.agg #[.int .i64 a, .int .i64 b], .agg #[.int .i64 c, .int .i64 d]] w fun e w' => e = .returned (.int .i64 (cmp3 (a * d) (c * b))) ∧ w.grownBy w' none := by
  by_cases h1 : a < 0
  · by_cases h2 : c < 0
    · have e : cmp3 (a * d) (c * b) = cmp3 ((c.natAbs * b : Nat) : Int) ((a.natAbs * d : Nat) : Int) := by
        have e1 : ((c.natAbs * b : Nat) : Int) = -(c * b) := by rw [Int.natCast_mul, show ((c.natAbs : Nat) : Int) = -c by omega, Int.neg_mul]
        have e2 : ((a.natAbs * d : Nat) : Int) = -(a * d) := by rw [Int.natCast_mul, show ((a.natAbs : Nat) : Int) = -a by omega, Int.neg_mul]
        rw [e1, e2]; unfold cmp3; generalize a * d = X; generalize c * b = Y
        (repeat' split) <;> omega
      rw [e]; exact compare_neg a c b d w h1 h2 ha.1 hc.1 hb.2 hd.2
    · have e : cmp3 (a * d) (c * b) = cmp3 a c := by
        rw [cmp3_lt (show a < c by omega)]
        refine cmp3_lt ?_
        have : a * d ≤ a * 1 := Int.mul_le_mul_of_nonpos_left (by omega) (by omega)
        have : 0 ≤ c * (b : Int) := Int.mul_nonneg (by omega) (by omega)
        omega
      rw [e]; exact compare_mixed a c b d w (.inl h1) (.inr (by omega))
  · by_cases h2 : c < 0
    · have e : cmp3 (a * d) (c * b) = cmp3 a c := by
        rw [cmp3_gt (show c < a by omega)]
        refine cmp3_gt ?_
        have : c * b ≤ c * 1 := Int.mul_le_mul_of_nonpos_left (by omega) (by omega)
        have : 0 ≤ a * (d : Int) := Int.mul_nonneg (by omega) (by omega)
        omega
      rw [e]; exact compare_mixed a c b d w (.inr h2) (.inl (by omega))
    · obtain ⟨A, rfl⟩ := Int.eq_ofNat_of_zero_le (show 0 ≤ a by omega)
      obtain ⟨C, rfl⟩ := Int.eq_ofNat_of_zero_le (show 0 ≤ c by omega)
      rw [← Int.natCast_mul, ← Int.natCast_mul]
      exact compare_nonneg A b C d w (by omega) hb.2 (by omega) hd.2
end Go.Proofs.Ytjflmenfinohcaa.Hd

/- Walks: slices.IndexFunc and ContainsFunc of numbers, over whatever function that only reads. -/
namespace Go.Proofs.Ytjflmenfinohcaa.Hd
set_option linter.unusedVariables false
set_option linter.unusedSimpArgs false
open Go.RowKit

end Go.Proofs.Ytjflmenfinohcaa.Hd
