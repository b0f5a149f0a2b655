/- Walks: rules and traces are looked at (package trace, and the reference). -/
import Derived.Test.YtfocpjjcllpfbaaBase2
import Derived.Deep.RegionHeld3
namespace Go.Proofs.Ytfocpjjcllpfbaa
open Go.RowKit

theorem out_in {n lo hi : Int} (h : lo ≤ n ∧ n ≤ hi) (w : World) : Calls Try.prog 53 #[.int .i64 n, .int .i64 lo, .int .i64 hi] w fun e w' => e = .returned (.bool false) ∧ w = w' :=
  (out_any n lo hi w).mono fun e w' ⟨h1, h2⟩ => ⟨by rw [h1, inB_true h]; rfl, h2⟩
theorem out_out {n lo hi : Int} (h : ¬ (lo ≤ n ∧ n ≤ hi)) (w : World) : Calls Try.prog 53 #[.int .i64 n, .int .i64 lo, .int .i64 hi] w fun e w' => e = .returned (.bool true) ∧ w = w' :=
  (out_any n lo hi w).mono fun e w' ⟨h1, h2⟩ => ⟨by rw [h1, inB_false h]; rfl, h2⟩
theorem in_in {n lo hi : Int} (h : lo ≤ n ∧ n ≤ hi) (w : World) : Calls Try.prog 46 #[.int .i64 n, .int .i64 lo, .int .i64 hi] w fun e w' => e = .returned (.bool true) ∧ w = w' :=
  (in_any n lo hi w).mono fun e w' ⟨h1, h2⟩ => ⟨by rw [h1, inB_true h], h2⟩
theorem in_out {n lo hi : Int} (h : ¬ (lo ≤ n ∧ n ≤ hi)) (w : World) : Calls Try.prog 46 #[.int .i64 n, .int .i64 lo, .int .i64 hi] w fun e w' => e = .returned (.bool false) ∧ w = w' :=
  (in_any n lo hi w).mono fun e w' ⟨h1, h2⟩ => ⟨by rw [h1, inB_false h], h2⟩

def rulesFault (st wd ls nm dn : Int) : Int :=
  if ¬ (1 ≤ st ∧ st ≤ 100) ∨ ¬ (1 ≤ wd ∧ wd ≤ 100) ∨ ¬ (1 ≤ ls ∧ ls ≤ 10000) then 1
  else if nm < 0 ∨ dn < 1 ∨ Nat.gcd nm.natAbs dn.natAbs ≠ 1 then 3
  else if 10000 < nm ∨ 1000 < dn then 1 else 0
theorem rf_1 {st wd ls nm dn : Int} (h : ¬ (1 ≤ st ∧ st ≤ 100) ∨ ¬ (1 ≤ wd ∧ wd ≤ 100) ∨ ¬ (1 ≤ ls ∧ ls ≤ 10000)) : rulesFault st wd ls nm dn = 1 := by rw [rulesFault, if_pos h]
theorem rf_3 {st wd ls nm dn : Int} (h1 : 1 ≤ st ∧ st ≤ 100) (h2 : 1 ≤ wd ∧ wd ≤ 100) (h3 : 1 ≤ ls ∧ ls ≤ 10000) (h : nm < 0 ∨ dn < 1 ∨ Nat.gcd nm.natAbs dn.natAbs ≠ 1) : rulesFault st wd ls nm dn = 3 := by
  rw [rulesFault, if_neg (by omega), if_pos h]
theorem rf_11 {st wd ls nm dn : Int} (h1 : 1 ≤ st ∧ st ≤ 100) (h2 : 1 ≤ wd ∧ wd ≤ 100) (h3 : 1 ≤ ls ∧ ls ≤ 10000) (h4 : ¬ (nm < 0 ∨ dn < 1 ∨ Nat.gcd nm.natAbs dn.natAbs ≠ 1)) (h : 10000 < nm ∨ 1000 < dn) : rulesFault st wd ls nm dn = 1 := by
  rw [rulesFault, if_neg (by omega), if_neg h4, if_pos h]
theorem rf_0 {st wd ls nm dn : Int} (h1 : 1 ≤ st ∧ st ≤ 100) (h2 : 1 ≤ wd ∧ wd ≤ 100) (h3 : 1 ≤ ls ∧ ls ≤ 10000) (h4 : ¬ (nm < 0 ∨ dn < 1 ∨ Nat.gcd nm.natAbs dn.natAbs ≠ 1)) (h : ¬ (10000 < nm ∨ 1000 < dn)) : rulesFault st wd ls nm dn = 0 := by
  rw [rulesFault, if_neg (by omega), if_neg h4, if_neg h]

set_option maxHeartbeats 2000000 in
theorem checkrules_any (st wd ls nm dn : Int) (w : World) (hb : nm ≤ 9223372036854775807 ∧ dn ≤ 9223372036854775807) :
    Calls Try.prog 20 #[.agg #[.int .i64 st, .int .i64 wd, .int .i64 ls, .int .i64 nm, .int .i64 dn]] w fun e w' => e = .returned (.int .i64 (rulesFault st wd ls nm dn)) ∧ w.grownBy w' none := by
  have HL : 0 ≤ nm → 1 ≤ dn → Hid (∀ w, Calls Try.prog 54 #[.agg #[.int .i64 nm, .int .i64 dn]] w fun e w' => e = .returned (.bool (decide (Nat.gcd nm.natAbs dn.natAbs = 1))) ∧ w.grownBy w' none) := by
    intro h1 h2 w
    have := blowest_any nm.natAbs dn.natAbs w (by omega) (by omega)
    rwa [show ((nm.natAbs : Nat) : Int) = nm by omega, show ((dn.natAbs : Nat) : Int) = dn by omega] at this
  by_cases h1 : 1 ≤ st ∧ st ≤ 100
  · by_cases h2 : 1 ≤ wd ∧ wd ≤ 100
    · by_cases h3 : 1 ≤ ls ∧ ls ≤ 10000
      · by_cases h4 : nm < 0
        · have H := Lib.hid (rf_3 (nm := nm) (dn := dn) h1 h2 h3 (.inl h4))
          clear HL
          go_enter Try.func20, Try.ntmps20
          go_wp2_with fail
          refine (out_in h1 _).mono ?_
          rintro e w1 ⟨rfl, rfl⟩
          go_wp2_with fail
          refine (out_in h2 _).mono ?_
          rintro e w1 ⟨rfl, rfl⟩
          go_wp2_with fail
          refine (out_in h3 _).mono ?_
          rintro e w1 ⟨rfl, rfl⟩
          go_wp2_with fail
          go_ret
          exact ⟨ret_int H.out.symm, World.grownBy_alloc _ _ _⟩
        · by_cases h5 : dn < 1
          · have H := Lib.hid (rf_3 (nm := nm) (dn := dn) h1 h2 h3 (.inr (.inl h5)))
            clear HL
            go_enter Try.func20, Try.ntmps20
            go_wp2_with fail
            refine (out_in h1 _).mono ?_
            rintro e w1 ⟨rfl, rfl⟩
            go_wp2_with fail
            refine (out_in h2 _).mono ?_
            rintro e w1 ⟨rfl, rfl⟩
            go_wp2_with fail
            refine (out_in h3 _).mono ?_
            rintro e w1 ⟨rfl, rfl⟩
            go_wp2_with fail
            go_ret
            exact ⟨ret_int H.out.symm, World.grownBy_alloc _ _ _⟩
          · have HL2 := HL (by omega) (by omega)
            clear HL
            by_cases h6 : Nat.gcd nm.natAbs dn.natAbs = 1
            · have h7 : ¬ (nm < 0 ∨ dn < 1 ∨ Nat.gcd nm.natAbs dn.natAbs ≠ 1) := by omega
              have HD : Hid (decide (Nat.gcd nm.natAbs dn.natAbs = 1) = true) := decide_eq_true h6
              by_cases h8 : 10000 < nm
              · have H := Lib.hid (rf_11 h1 h2 h3 h7 (.inl h8))
                clear h6 h7
                go_enter Try.func20, Try.ntmps20
                go_wp2_with fail
                refine (out_in h1 _).mono ?_
                rintro e w1 ⟨rfl, rfl⟩
                go_wp2_with fail
                refine (out_in h2 _).mono ?_
                rintro e w1 ⟨rfl, rfl⟩
                go_wp2_with fail
                refine (out_in h3 _).mono ?_
                rintro e w1 ⟨rfl, rfl⟩
                go_wp2_with fail
                refine (HL2.out _).mono ?_
                clear HL2
                rintro e w2 ⟨rfl, hg⟩
                rw [HD.out]
                have hcc : ∀ j, j < 5 → w2.cell? ⟨w.heap.size, j, none⟩ = (#[Value.int .i64 st, .int .i64 wd, .int .i64 ls, .int .i64 nm, .int .i64 dn])[j]? := by
                  intro j hj
                  have h0 := heap_alloc_new w (.cells #[.int .i64 st, .int .i64 wd, .int .i64 ls, .int .i64 nm, .int .i64 dn] 30)
                  simp only [World.cell?, hg.block _ (lt_of_block h0) (by simp), h0]; simp
                have hc3 := hcc 3 (by omega)
                have hc4 := hcc 4 (by omega)
                simp at hc3 hc4
                clear hcc
                go_wp2_with fail
                go_ret
                exact ⟨ret_int H.out.symm, (World.grownBy_alloc _ _ _).trans hg⟩
              · by_cases h9 : 1000 < dn
                · have H := Lib.hid (rf_11 h1 h2 h3 h7 (.inr h9))
                  clear h6 h7
                  go_enter Try.func20, Try.ntmps20
                  go_wp2_with fail
                  refine (out_in h1 _).mono ?_
                  rintro e w1 ⟨rfl, rfl⟩
                  go_wp2_with fail
                  refine (out_in h2 _).mono ?_
                  rintro e w1 ⟨rfl, rfl⟩
                  go_wp2_with fail
                  refine (out_in h3 _).mono ?_
                  rintro e w1 ⟨rfl, rfl⟩
                  go_wp2_with fail
                  refine (HL2.out _).mono ?_
                  clear HL2
                  rintro e w2 ⟨rfl, hg⟩
                  rw [HD.out]
                  have hcc : ∀ j, j < 5 → w2.cell? ⟨w.heap.size, j, none⟩ = (#[Value.int .i64 st, .int .i64 wd, .int .i64 ls, .int .i64 nm, .int .i64 dn])[j]? := by
                    intro j hj
                    have h0 := heap_alloc_new w (.cells #[.int .i64 st, .int .i64 wd, .int .i64 ls, .int .i64 nm, .int .i64 dn] 30)
                    simp only [World.cell?, hg.block _ (lt_of_block h0) (by simp), h0]; simp
                  have hc3 := hcc 3 (by omega)
                  have hc4 := hcc 4 (by omega)
                  simp at hc3 hc4
                  clear hcc
                  go_wp2_with fail
                  go_ret
                  exact ⟨ret_int H.out.symm, (World.grownBy_alloc _ _ _).trans hg⟩
                · have H := Lib.hid (rf_0 h1 h2 h3 h7 (by omega))
                  clear h6 h7
                  go_enter Try.func20, Try.ntmps20
                  go_wp2_with fail
                  refine (out_in h1 _).mono ?_
                  rintro e w1 ⟨rfl, rfl⟩
                  go_wp2_with fail
                  refine (out_in h2 _).mono ?_
                  rintro e w1 ⟨rfl, rfl⟩
                  go_wp2_with fail
                  refine (out_in h3 _).mono ?_
                  rintro e w1 ⟨rfl, rfl⟩
                  go_wp2_with fail
                  refine (HL2.out _).mono ?_
                  clear HL2
                  rintro e w2 ⟨rfl, hg⟩
                  rw [HD.out]
                  have hcc : ∀ j, j < 5 → w2.cell? ⟨w.heap.size, j, none⟩ = (#[Value.int .i64 st, .int .i64 wd, .int .i64 ls, .int .i64 nm, .int .i64 dn])[j]? := by
                    intro j hj
                    have h0 := heap_alloc_new w (.cells #[.int .i64 st, .int .i64 wd, .int .i64 ls, .int .i64 nm, .int .i64 dn] 30)
                    simp only [World.cell?, hg.block _ (lt_of_block h0) (by simp), h0]; simp
                  have hc3 := hcc 3 (by omega)
                  have hc4 := hcc 4 (by omega)
                  simp at hc3 hc4
                  clear hcc
                  go_wp2_with fail
                  go_ret
                  exact ⟨ret_int H.out.symm, (World.grownBy_alloc _ _ _).trans hg⟩
            · have H := Lib.hid (rf_3 h1 h2 h3 (.inr (.inr h6)))
              have HD : Hid (decide (Nat.gcd nm.natAbs dn.natAbs = 1) = false) := decide_eq_false h6
              clear h6
              go_enter Try.func20, Try.ntmps20
              go_wp2_with fail
              refine (out_in h1 _).mono ?_
              rintro e w1 ⟨rfl, rfl⟩
              go_wp2_with fail
              refine (out_in h2 _).mono ?_
              rintro e w1 ⟨rfl, rfl⟩
              go_wp2_with fail
              refine (out_in h3 _).mono ?_
              rintro e w1 ⟨rfl, rfl⟩
              go_wp2_with fail
              refine (HL2.out _).mono ?_
              clear HL2
              rintro e w2 ⟨rfl, hg⟩
              rw [HD.out]
              have hcc : ∀ j, j < 5 → w2.cell? ⟨w.heap.size, j, none⟩ = (#[Value.int .i64 st, .int .i64 wd, .int .i64 ls, .int .i64 nm, .int .i64 dn])[j]? := by
                intro j hj
                have h0 := heap_alloc_new w (.cells #[.int .i64 st, .int .i64 wd, .int .i64 ls, .int .i64 nm, .int .i64 dn] 30)
                simp only [World.cell?, hg.block _ (lt_of_block h0) (by simp), h0]; simp
              have hc3 := hcc 3 (by omega)
              have hc4 := hcc 4 (by omega)
              simp at hc3 hc4
              clear hcc
              go_wp2_with fail
              go_ret
              exact ⟨ret_int H.out.symm, (World.grownBy_alloc _ _ _).trans hg⟩
      · have H := Lib.hid (rf_1 (nm := nm) (dn := dn) (st := st) (wd := wd) (.inr (.inr h3)))
        clear HL
        go_enter Try.func20, Try.ntmps20
        go_wp2_with fail
        refine (out_in h1 _).mono ?_
        rintro e w1 ⟨rfl, rfl⟩
        go_wp2_with fail
        refine (out_in h2 _).mono ?_
        rintro e w1 ⟨rfl, rfl⟩
        go_wp2_with fail
        refine (out_out h3 _).mono ?_
        rintro e w1 ⟨rfl, rfl⟩
        go_wp2_with fail
        go_ret
        exact ⟨ret_int H.out.symm, World.grownBy_alloc _ _ _⟩
    · have H := Lib.hid (rf_1 (nm := nm) (dn := dn) (st := st) (ls := ls) (.inr (.inl h2)))
      clear HL
      go_enter Try.func20, Try.ntmps20
      go_wp2_with fail
      refine (out_in h1 _).mono ?_
      rintro e w1 ⟨rfl, rfl⟩
      go_wp2_with fail
      refine (out_out h2 _).mono ?_
      rintro e w1 ⟨rfl, rfl⟩
      go_wp2_with fail
      go_ret
      exact ⟨ret_int H.out.symm, World.grownBy_alloc _ _ _⟩
  · have H := Lib.hid (rf_1 (nm := nm) (dn := dn) (wd := wd) (ls := ls) (.inl h1))
    clear HL
    go_enter Try.func20, Try.ntmps20
    go_wp2_with fail
    refine (out_out h1 _).mono ?_
    rintro e w1 ⟨rfl, rfl⟩
    go_wp2_with fail
    go_ret
    exact ⟨ret_int H.out.symm, World.grownBy_alloc _ _ _⟩

set_option maxHeartbeats 2000000 in
theorem rulesfault_any (st wd ls nm dn : Int) (w : World) (hb : nm ≤ 9223372036854775807 ∧ dn ≤ 9223372036854775807) :
    Calls Try.prog 15 #[.agg #[.int .i64 st, .int .i64 wd, .int .i64 ls, .int .i64 nm, .int .i64 dn]] w fun e w' => e = .returned (.int .i64 (rulesFault st wd ls nm dn)) ∧ w.grownBy w' none := by
  have HL : 0 ≤ nm → 1 ≤ dn → Hid (∀ w, Calls Try.prog 47 #[.int .i64 nm, .int .i64 dn] w fun e w' => e = .returned (.int .i64 (Nat.gcd nm.natAbs dn.natAbs)) ∧ ∃ n, w' = w.drewN n) :=
    fun h1 h2 w => divisor_any nm dn w (by omega)
  by_cases h1 : 1 ≤ st ∧ st ≤ 100
  · by_cases h2 : 1 ≤ wd ∧ wd ≤ 100
    · by_cases h3 : 1 ≤ ls ∧ ls ≤ 10000
      · by_cases h4 : nm < 0
        · have H := Lib.hid (rf_3 (nm := nm) (dn := dn) h1 h2 h3 (.inl h4))
          clear HL
          go_enter Try.func15, Try.ntmps15
          go_wp2_with fail
          refine (in_in h1 _).mono ?_
          rintro e w1 ⟨rfl, rfl⟩
          go_wp2_with fail
          refine (in_in h2 _).mono ?_
          rintro e w1 ⟨rfl, rfl⟩
          go_wp2_with fail
          refine (in_in h3 _).mono ?_
          rintro e w1 ⟨rfl, rfl⟩
          go_wp2_with fail
          go_ret
          exact ⟨ret_int H.out.symm, World.grownBy_alloc _ _ _⟩
        · by_cases h5 : dn < 1
          · have H := Lib.hid (rf_3 (nm := nm) (dn := dn) h1 h2 h3 (.inr (.inl h5)))
            clear HL
            go_enter Try.func15, Try.ntmps15
            go_wp2_with fail
            refine (in_in h1 _).mono ?_
            rintro e w1 ⟨rfl, rfl⟩
            go_wp2_with fail
            refine (in_in h2 _).mono ?_
            rintro e w1 ⟨rfl, rfl⟩
            go_wp2_with fail
            refine (in_in h3 _).mono ?_
            rintro e w1 ⟨rfl, rfl⟩
            go_wp2_with fail
            go_ret
            exact ⟨ret_int H.out.symm, World.grownBy_alloc _ _ _⟩
          · have HL2 := HL (by omega) (by omega)
            clear HL
            by_cases h6 : Nat.gcd nm.natAbs dn.natAbs = 1
            · have h7 : ¬ (nm < 0 ∨ dn < 1 ∨ Nat.gcd nm.natAbs dn.natAbs ≠ 1) := by omega
              have hdv : (((Nat.gcd nm.natAbs dn.natAbs : Nat) : Int) != 1) = false := by simp; omega
              by_cases h8 : 10000 < nm
              · have H := Lib.hid (rf_11 h1 h2 h3 h7 (.inl h8))
                clear h6 h7
                go_enter Try.func15, Try.ntmps15
                go_wp2_with fail
                refine (in_in h1 _).mono ?_
                rintro e w1 ⟨rfl, rfl⟩
                go_wp2_with fail
                refine (in_in h2 _).mono ?_
                rintro e w1 ⟨rfl, rfl⟩
                go_wp2_with fail
                refine (in_in h3 _).mono ?_
                rintro e w1 ⟨rfl, rfl⟩
                go_wp2_with fail
                refine (HL2.out _).mono ?_
                clear HL2
                rintro e w2 ⟨rfl, n, rfl⟩
                go_wp2_with fail
                go_ret
                exact ⟨ret_int H.out.symm, grown_drewN (World.grownBy_alloc _ _ _) _⟩
              · by_cases h9 : 1000 < dn
                · have H := Lib.hid (rf_11 h1 h2 h3 h7 (.inr h9))
                  clear h6 h7
                  go_enter Try.func15, Try.ntmps15
                  go_wp2_with fail
                  refine (in_in h1 _).mono ?_
                  rintro e w1 ⟨rfl, rfl⟩
                  go_wp2_with fail
                  refine (in_in h2 _).mono ?_
                  rintro e w1 ⟨rfl, rfl⟩
                  go_wp2_with fail
                  refine (in_in h3 _).mono ?_
                  rintro e w1 ⟨rfl, rfl⟩
                  go_wp2_with fail
                  refine (HL2.out _).mono ?_
                  clear HL2
                  rintro e w2 ⟨rfl, n, rfl⟩
                  go_wp2_with fail
                  go_ret
                  exact ⟨ret_int H.out.symm, grown_drewN (World.grownBy_alloc _ _ _) _⟩
                · have H := Lib.hid (rf_0 h1 h2 h3 h7 (by omega))
                  clear h6 h7
                  go_enter Try.func15, Try.ntmps15
                  go_wp2_with fail
                  refine (in_in h1 _).mono ?_
                  rintro e w1 ⟨rfl, rfl⟩
                  go_wp2_with fail
                  refine (in_in h2 _).mono ?_
                  rintro e w1 ⟨rfl, rfl⟩
                  go_wp2_with fail
                  refine (in_in h3 _).mono ?_
                  rintro e w1 ⟨rfl, rfl⟩
                  go_wp2_with fail
                  refine (HL2.out _).mono ?_
                  clear HL2
                  rintro e w2 ⟨rfl, n, rfl⟩
                  go_wp2_with fail
                  go_ret
                  exact ⟨ret_int H.out.symm, grown_drewN (World.grownBy_alloc _ _ _) _⟩
            · have H := Lib.hid (rf_3 h1 h2 h3 (.inr (.inr h6)))
              have hdv : (((Nat.gcd nm.natAbs dn.natAbs : Nat) : Int) != 1) = true := by simp; omega
              clear h6
              go_enter Try.func15, Try.ntmps15
              go_wp2_with fail
              refine (in_in h1 _).mono ?_
              rintro e w1 ⟨rfl, rfl⟩
              go_wp2_with fail
              refine (in_in h2 _).mono ?_
              rintro e w1 ⟨rfl, rfl⟩
              go_wp2_with fail
              refine (in_in h3 _).mono ?_
              rintro e w1 ⟨rfl, rfl⟩
              go_wp2_with fail
              refine (HL2.out _).mono ?_
              clear HL2
              rintro e w2 ⟨rfl, n, rfl⟩
              go_wp2_with fail
              go_ret
              exact ⟨ret_int H.out.symm, grown_drewN (World.grownBy_alloc _ _ _) _⟩
      · have H := Lib.hid (rf_1 (nm := nm) (dn := dn) (st := st) (wd := wd) (.inr (.inr h3)))
        clear HL
        go_enter Try.func15, Try.ntmps15
        go_wp2_with fail
        refine (in_in h1 _).mono ?_
        rintro e w1 ⟨rfl, rfl⟩
        go_wp2_with fail
        refine (in_in h2 _).mono ?_
        rintro e w1 ⟨rfl, rfl⟩
        go_wp2_with fail
        refine (in_out h3 _).mono ?_
        rintro e w1 ⟨rfl, rfl⟩
        go_wp2_with fail
        go_ret
        exact ⟨ret_int H.out.symm, World.grownBy_alloc _ _ _⟩
    · have H := Lib.hid (rf_1 (nm := nm) (dn := dn) (st := st) (ls := ls) (.inr (.inl h2)))
      clear HL
      go_enter Try.func15, Try.ntmps15
      go_wp2_with fail
      refine (in_in h1 _).mono ?_
      rintro e w1 ⟨rfl, rfl⟩
      go_wp2_with fail
      refine (in_out h2 _).mono ?_
      rintro e w1 ⟨rfl, rfl⟩
      go_wp2_with fail
      go_ret
      exact ⟨ret_int H.out.symm, World.grownBy_alloc _ _ _⟩
  · have H := Lib.hid (rf_1 (nm := nm) (dn := dn) (wd := wd) (ls := ls) (.inl h1))
    clear HL
    go_enter Try.func15, Try.ntmps15
    go_wp2_with fail
    refine (in_out h1 _).mono ?_
    rintro e w1 ⟨rfl, rfl⟩
    go_wp2_with fail
    go_ret
    exact ⟨ret_int H.out.symm, World.grownBy_alloc _ _ _⟩
end Go.Proofs.Ytfocpjjcllpfbaa
