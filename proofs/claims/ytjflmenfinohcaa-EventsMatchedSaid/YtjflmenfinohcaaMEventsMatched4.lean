/- Parts of the proof, in order. -/
import Derived.Test.YtjflmenfinohcaaMEventsMatched3
import Derived.Deep.RegionHeld3

/- Walks: rules and traces are looked at (package trace, and the reference). -/
namespace Go.Proofs.Ytjflmenfinohcaa.Hd
set_option linter.unusedVariables false
set_option linter.unusedSimpArgs false
open Go.RowKit

theorem out_in {n lo hi : Int} (h : lo ≤ n ∧ n ≤ hi) (w : World) : Calls Try.prog 22 #[.int .i64 n, .int .i64 lo, .int .i64 hi] w fun e w' => e = .returned (.bool false) ∧ w = w' :=
  (out_any n lo hi w).mono fun e w' ⟨h1, h2⟩ => ⟨by rw [h1, inB_true h]; rfl, h2⟩
theorem out_out {n lo hi : Int} (h : ¬ (lo ≤ n ∧ n ≤ hi)) (w : World) : Calls Try.prog 22 #[.int .i64 n, .int .i64 lo, .int .i64 hi] w fun e w' => e = .returned (.bool true) ∧ w = w' :=
  (out_any n lo hi w).mono fun e w' ⟨h1, h2⟩ => ⟨by rw [h1, inB_false h]; rfl, h2⟩
def rulesFault (st wd ls nm dn : Int) : Int :=
  if ¬ (1 ≤ st ∧ st ≤ 100) ∨ ¬ (1 ≤ wd ∧ wd ≤ 100) ∨ ¬ (1 ≤ ls ∧ ls ≤ 10000) then 1
  else if nm < 0 ∨ dn < 1 ∨ Nat.gcd nm.natAbs dn.natAbs ≠ 1 then 3
  else if 10000 < nm ∨ 1000 < dn then 1 else 0
theorem rf_1 {st wd ls nm dn : Int} (h : ¬ (1 ≤ st ∧ st ≤ 100) ∨ ¬ (1 ≤ wd ∧ wd ≤ 100) ∨ ¬ (1 ≤ ls ∧ ls ≤ 10000)) : rulesFault st wd ls nm dn = 1 := by rw [rulesFault, if_pos h]
theorem rf_3 {st wd ls nm dn : Int} (h1 : 1 ≤ st ∧ st ≤ 100) (h2 : 1 ≤ wd ∧ wd ≤ 100) (h3 : 1 ≤ ls ∧ ls ≤ 10000) (h : nm < 0 ∨ dn < 1 ∨ Nat.gcd nm.natAbs dn.natAbs ≠ 1) : rulesFault st wd ls nm dn = 3 := by
  rw [rulesFault, if_neg (by omega), if_pos h]
theorem rf_11 {st wd ls nm dn : Int} (h1 : 1 ≤ st ∧ st ≤ 100) (h2 : 1 ≤ wd ∧ wd ≤ 100) (h3 : 1 ≤ ls ∧ ls ≤ 10000) (h4 : ¬ (nm < 0 ∨ dn < 1 ∨ Nat.gcd nm.natAbs dn.natAbs ≠ 1)) (h : 10000 < nm ∨ 1000 < dn) : rulesFault st wd ls nm dn = 1 := by
  rw [rulesFault, if_neg (by omega), if_neg h4, if_pos h]
theorem rf_0 {st wd ls nm dn : Int} (h1 : 1 ≤ st ∧ st ≤ 100) (h2 : 1 ≤ wd ∧ wd ≤ 100) (h3 : 1 ≤ ls ∧ ls ≤ 10000) (h4 : ¬ (nm < 0 ∨ dn < 1 ∨ Nat.gcd nm.natAbs dn.natAbs ≠ 1)) (h : ¬ (10000 < nm ∨ 1000 < dn)) : rulesFault st wd ls nm dn = 0 := by
  rw [rulesFault, if_neg (by omega), if_neg h4, if_neg h]

set_option maxHeartbeats 2000000 in
theorem checkrules_any (st wd ls nm dn : Int) (w : World) (hb : nm ≤ 9223372036854775807 ∧ dn ≤ 9223372036854775807) :
    Calls Try.prog 48 #[.agg #[.int .i64 st, .int .i64 wd, .int .i64 ls, .int .i64 nm, .int .i64 dn]] w fun e w' => e = .returned (.int .i64 (rulesFault st wd ls nm dn)) ∧ w.grownBy w' none := by
  have HL : 0 ≤ nm → 1 ≤ dn → Hid (∀ w, Calls Try.prog 53 #[.agg #[.int .i64 nm, .int .i64 dn]] w fun e w' => e = .returned (.bool (decide (Nat.gcd nm.natAbs dn.natAbs = 1))) ∧ w.grownBy w' none) := by
    intro h1 h2 w
    have := blowest_any nm.natAbs dn.natAbs w (by omega) (by omega)
    rwa [show ((nm.natAbs : Nat) : Int) = nm by omega, show ((dn.natAbs : Nat) : Int) = dn by omega] at this
  by_cases h1 : 1 ≤ st ∧ st ≤ 100
  · by_cases h2 : 1 ≤ wd ∧ wd ≤ 100
    · by_cases h3 : 1 ≤ ls ∧ ls ≤ 10000
      · by_cases h4 : nm < 0
        · have H := Lib.hid (rf_3 (nm := nm) (dn := dn) h1 h2 h3 (.inl h4))
          clear HL
          go_enter Try.func48, Try.ntmps48
          go_wp2_with fail
          refine (out_in h1 _).mono ?_
          rintro e w1 ⟨rfl, rfl⟩
          go_wp2_with fail
          refine (out_in h2 _).mono ?_
          rintro e w1 ⟨rfl, rfl⟩
          go_wp2_with fail
          refine (out_in h3 _).mono ?_
          rintro e w1 ⟨rfl, rfl⟩
          go_wp2_with fail
          go_ret
          exact ⟨ret_int H.out.symm, World.grownBy_alloc _ _ _⟩
        · by_cases h5 : dn < 1
          · have H := Lib.hid (rf_3 (nm := nm) (dn := dn) h1 h2 h3 (.inr (.inl h5)))
            clear HL
            go_enter Try.func48, Try.ntmps48
            go_wp2_with fail
            refine (out_in h1 _).mono ?_
            rintro e w1 ⟨rfl, rfl⟩
            go_wp2_with fail
            refine (out_in h2 _).mono ?_
            rintro e w1 ⟨rfl, rfl⟩
            go_wp2_with fail
            refine (out_in h3 _).mono ?_
            rintro e w1 ⟨rfl, rfl⟩
            go_wp2_with fail
            go_ret
            exact ⟨ret_int H.out.symm, World.grownBy_alloc _ _ _⟩
          · have HL2 := HL (by omega) (by omega)
            clear HL
            by_cases h6 : Nat.gcd nm.natAbs dn.natAbs = 1
            · have h7 : ¬ (nm < 0 ∨ dn < 1 ∨ Nat.gcd nm.natAbs dn.natAbs ≠ 1) := by omega
              have HD : Hid (decide (Nat.gcd nm.natAbs dn.natAbs = 1) = true) := decide_eq_true h6
              by_cases h8 : 10000 < nm
              · have H := Lib.hid (rf_11 h1 h2 h3 h7 (.inl h8))
                clear h6 h7
                go_enter Try.func48, Try.ntmps48
                go_wp2_with fail
                refine (out_in h1 _).mono ?_
                rintro e w1 ⟨rfl, rfl⟩
                go_wp2_with fail
                refine (out_in h2 _).mono ?_
                rintro e w1 ⟨rfl, rfl⟩
                go_wp2_with fail
                refine (out_in h3 _).mono ?_
                rintro e w1 ⟨rfl, rfl⟩
                go_wp2_with fail
                refine (HL2.out _).mono ?_
                clear HL2
                rintro e w2 ⟨rfl, hg⟩
                rw [HD.out]
                have hcc : ∀ j, j < 5 → w2.cell? ⟨w.heap.size, j, none⟩ = (#[Value.int .i64 st, .int .i64 wd, .int .i64 ls, .int .i64 nm, .int .i64 dn])[j]? := by
                  intro j hj
                  have h0 := heap_alloc_new w (.cells #[.int .i64 st, .int .i64 wd, .int .i64 ls, .int .i64 nm, .int .i64 dn] 72)
                  simp only [World.cell?, hg.block _ (lt_of_block h0) (by simp), h0]; simp
                have hc3 := hcc 3 (by omega)
                have hc4 := hcc 4 (by omega)
                simp at hc3 hc4
                clear hcc
                go_wp2_with fail
                go_ret
                exact ⟨ret_int H.out.symm, (World.grownBy_alloc _ _ _).trans hg⟩
              · by_cases h9 : 1000 < dn
                · have H := Lib.hid (rf_11 h1 h2 h3 h7 (.inr h9))
                  clear h6 h7
                  go_enter Try.func48, Try.ntmps48
                  go_wp2_with fail
                  refine (out_in h1 _).mono ?_
                  rintro e w1 ⟨rfl, rfl⟩
                  go_wp2_with fail
                  refine (out_in h2 _).mono ?_
                  rintro e w1 ⟨rfl, rfl⟩
                  go_wp2_with fail
                  refine (out_in h3 _).mono ?_
                  rintro e w1 ⟨rfl, rfl⟩
                  go_wp2_with fail
                  refine (HL2.out _).mono ?_
                  clear HL2
                  rintro e w2 ⟨rfl, hg⟩
                  rw [HD.out]
                  have hcc : ∀ j, j < 5 → w2.cell? ⟨w.heap.size, j, none⟩ = (#[Value.int .i64 st, .int .i64 wd, .int .i64 ls, .int .i64 nm, .int .i64 dn])[j]? := by
                    intro j hj
                    have h0 := heap_alloc_new w (.cells #[.int .i64 st, .int .i64 wd, .int .i64 ls, .int .i64 nm, .int .i64 dn] 72)
                    simp only [World.cell?, hg.block _ (lt_of_block h0) (by simp), h0]; simp
                  have hc3 := hcc 3 (by omega)
                  have hc4 := hcc 4 (by omega)
                  simp at hc3 hc4
                  clear hcc
                  go_wp2_with fail
                  go_ret
                  exact ⟨ret_int H.out.symm, (World.grownBy_alloc _ _ _).trans hg⟩
                · have H := Lib.hid (rf_0 h1 h2 h3 h7 (by omega))
                  clear h6 h7
                  go_enter Try.func48, Try.ntmps48
                  go_wp2_with fail
                  refine (out_in h1 _).mono ?_
                  rintro e w1 ⟨rfl, rfl⟩
                  go_wp2_with fail
                  refine (out_in h2 _).mono ?_
                  rintro e w1 ⟨rfl, rfl⟩
                  go_wp2_with fail
                  refine (out_in h3 _).mono ?_
                  rintro e w1 ⟨rfl, rfl⟩
                  go_wp2_with fail
                  refine (HL2.out _).mono ?_
                  clear HL2
                  rintro e w2 ⟨rfl, hg⟩
                  rw [HD.out]
                  have hcc : ∀ j, j < 5 → w2.cell? ⟨w.heap.size, j, none⟩ = (#[Value.int .i64 st, .int .i64 wd, .int .i64 ls, .int .i64 nm, .int .i64 dn])[j]? := by
                    intro j hj
                    have h0 := heap_alloc_new w (.cells #[.int .i64 st, .int .i64 wd, .int .i64 ls, .int .i64 nm, .int .i64 dn] 72)
                    simp only [World.cell?, hg.block _ (lt_of_block h0) (by simp), h0]; simp
                  have hc3 := hcc 3 (by omega)
                  have hc4 := hcc 4 (by omega)
                  simp at hc3 hc4
                  clear hcc
                  go_wp2_with fail
                  go_ret
                  exact ⟨ret_int H.out.symm, (World.grownBy_alloc _ _ _).trans hg⟩
            · have H := Lib.hid (rf_3 h1 h2 h3 (.inr (.inr h6)))
              have HD : Hid (decide (Nat.gcd nm.natAbs dn.natAbs = 1) = false) := decide_eq_false h6
              clear h6
              go_enter Try.func48, Try.ntmps48
              go_wp2_with fail
              refine (out_in h1 _).mono ?_
              rintro e w1 ⟨rfl, rfl⟩
              go_wp2_with fail
              refine (out_in h2 _).mono ?_
              rintro e w1 ⟨rfl, rfl⟩
              go_wp2_with fail
              refine (out_in h3 _).mono ?_
              rintro e w1 ⟨rfl, rfl⟩
              go_wp2_with fail
              refine (HL2.out _).mono ?_
              clear HL2
              rintro e w2 ⟨rfl, hg⟩
              rw [HD.out]
              have hcc : ∀ j, j < 5 → w2.cell? ⟨w.heap.size, j, none⟩ = (#[Value.int .i64 st, .int .i64 wd, .int .i64 ls, .int .i64 nm, .int .i64 dn])[j]? := by
                intro j hj
                have h0 := heap_alloc_new w (.cells #[.int .i64 st, .int .i64 wd, .int .i64 ls, .int .i64 nm, .int .i64 dn] 72)
                simp only [World.cell?, hg.block _ (lt_of_block h0) (by simp), h0]; simp
              have hc3 := hcc 3 (by omega)
              have hc4 := hcc 4 (by omega)
              simp at hc3 hc4
              clear hcc
              go_wp2_with fail
              go_ret
              exact ⟨ret_int H.out.symm, (World.grownBy_alloc _ _ _).trans hg⟩
      · have H := Lib.hid (rf_1 (nm := nm) (dn := dn) (st := st) (wd := wd) (.inr (.inr h3)))
        clear HL
        go_enter Try.func48, Try.ntmps48
        go_wp2_with fail
        refine (out_in h1 _).mono ?_
        rintro e w1 ⟨rfl, rfl⟩
        go_wp2_with fail
        refine (out_in h2 _).mono ?_
        rintro e w1 ⟨rfl, rfl⟩
        go_wp2_with fail
        refine (out_out h3 _).mono ?_
        rintro e w1 ⟨rfl, rfl⟩
        go_wp2_with fail
        go_ret
        exact ⟨ret_int H.out.symm, World.grownBy_alloc _ _ _⟩
    · have H := Lib.hid (rf_1 (nm := nm) (dn := dn) (st := st) (ls := ls) (.inr (.inl h2)))
      clear HL
      go_enter Try.func48, Try.ntmps48
      go_wp2_with fail
      refine (out_in h1 _).mono ?_
      rintro e w1 ⟨rfl, rfl⟩
      go_wp2_with fail
      refine (out_out h2 _).mono ?_
      rintro e w1 ⟨rfl, rfl⟩
      go_wp2_with fail
      go_ret
      exact ⟨ret_int H.out.symm, World.grownBy_alloc _ _ _⟩
  · have H := Lib.hid (rf_1 (nm := nm) (dn := dn) (wd := wd) (ls := ls) (.inl h1))
    clear HL
    go_enter Try.func48, Try.ntmps48
    go_wp2_with fail
    refine (out_out h1 _).mono ?_
    rintro e w1 ⟨rfl, rfl⟩
    go_wp2_with fail
    go_ret
    exact ⟨ret_int H.out.symm, World.grownBy_alloc _ _ _⟩

end Go.Proofs.Ytjflmenfinohcaa.Hd

/- Walks: a trace is looked at (package trace, and the reference). -/
namespace Go.Proofs.Ytjflmenfinohcaa.Hd
set_option linter.unusedVariables false
set_option linter.unusedSimpArgs false
open Go.RowKit

def okR (n : Int) : Bool := inB n (-10000) 10000
def traceFault (p : List Int) : Int := if 5000 < p.length then 2 else if p.all okR then 0 else 1

set_option maxHeartbeats 400000 in
theorem isreading_any (n : Int) (w : World) : Calls Try.prog 44 #[.int .i64 n] w fun e w' => e = .returned (.bool (okR n)) ∧ w = w' := by
  go_enter Try.func44, Try.ntmps44
  go_wp2_with fail
  refine (out_any _ _ _ _).mono ?_
  rintro e w1 ⟨rfl, rfl⟩
  go_wp2_with fail
  go_ret
  exact ⟨ret_bool (by simp [okR]), rfl⟩

theorem all_take_succ (p : List Int) (k : Nat) (h : k < p.length) : (p.take (k + 1)).all okR = ((p.take k).all okR && okR (p.getD k 0)) := by
  rw [take_snocD p k h]; simp

set_option maxHeartbeats 800000 in
theorem checktrace_any (a : Option Addr) (n cap : Nat) (p : List Int) (w : World) (hn : n = p.length) (hm : n ≤ maxLen) (h : At w a (ints p)) :
    Calls Try.prog 47 #[.slice a n cap] w fun e w' => e = .returned (.int .i64 (traceFault p)) ∧ w = w' := by
  subst hn
  unfold maxLen at hm
  by_cases hl : 5000 < p.length
  · have H : Hid (traceFault p = 2) := by show traceFault p = 2; rw [traceFault, if_pos hl]
    go_enter Try.func47, Try.ntmps47
    go_wp2
    go_ret
    exact ⟨ret_int H.out.symm, rfl⟩
  · have H : Hid (traceFault p = if p.all okR then 0 else 1) := by show traceFault p = _; rw [traceFault, if_neg hl]
    go_enter Try.func47, Try.ntmps47
    go_wp2
    go_loop [10] (fun i => ∃ k : Nat, k ≤ p.length ∧ Hid ((p.take k).all okR = true) ∧ i = .int .i64 k) (fun i => p.length - (intOf i).toNat)
    case atStart => exact ⟨0, Nat.zero_le _, by exact Lib.hid rfl, rfl⟩
    case round =>
      obtain ⟨k, hk, hf, rfl⟩ := hrel
      by_cases hlt : k < p.length
      · obtain ⟨b, off, rfl, hck⟩ := h.int hlt
        have HS := Lib.hid (all_take_succ p k hlt)
        have HM := Lib.hid (show p.getD k 0 ∈ p by simp [hlt])
        generalize p.getD k 0 = x at hck HS HM
        go_wp2_with fail
        refine (isreading_any _ _).mono ?_
        rintro e w1 ⟨rfl, rfl⟩
        by_cases hx : okR x = true
        · go_wp2_with fail
          go_round
          case rel => exact ⟨k + 1, by omega, (by have := HS.out; rw [hf.out, hx] at this; exact this), by go_num⟩
          case measure => simp [intOf]; omega
        · have hx' : okR x = false := by simpa using hx
          clear hx
          go_wp2_with fail
          go_ret
          exact ⟨ret_int (by rw [H.out, if_neg (by rw [List.all_eq_true]; intro hh; rw [hh x HM.out] at hx'; cases hx')]), rfl⟩
      · go_wp2
        go_ret
        exact ⟨ret_int (by rw [H.out]; have := hf.out; rw [List.take_of_length_le (by omega)] at this; rw [this]; rfl), rfl⟩

/-- both faults -/
def faultOf (p : List Int) (st wd ls nm dn : Int) : Int := firstErr [traceFault p, rulesFault st wd ls nm dn]

set_option maxHeartbeats 800000 in
theorem fault_any (a : Option Addr) (n cap : Nat) (p : List Int) (st wd ls nm dn : Int) (w : World) (hn : n = p.length) (hm : n ≤ maxLen) (h : At w a (ints p)) (hb : nm ≤ 9223372036854775807 ∧ dn ≤ 9223372036854775807) :
    Calls Try.prog 39 #[.slice a n cap, .agg #[.int .i64 st, .int .i64 wd, .int .i64 ls, .int .i64 nm, .int .i64 dn]] w fun e w' => e = .returned (.int .i64 (faultOf p st wd ls nm dn)) ∧ w.grownBy w' none := by
  subst hn
  have h0 := heap_alloc_new w (.cells #[.int .i64 st, .int .i64 wd, .int .i64 ls, .int .i64 nm, .int .i64 dn] 72)
  have hc := cells5 h0
  have hat := h.alloc (.cells #[.int .i64 st, .int .i64 wd, .int .i64 ls, .int .i64 nm, .int .i64 dn] 72)
  go_enter Try.func39, Try.ntmps39
  go_wp2_with fail
  go_region_held3 (fun w' => w'.cell? ⟨w.heap.size, 0, none⟩ = some (.int .i64 st) ∧ w'.cell? ⟨w.heap.size, 1, none⟩ = some (.int .i64 wd) ∧ w'.cell? ⟨w.heap.size, 2, none⟩ = some (.int .i64 ls) ∧ w'.cell? ⟨w.heap.size, 3, none⟩ = some (.int .i64 nm) ∧ w'.cell? ⟨w.heap.size, 4, none⟩ = some (.int .i64 dn)) (go_keep) (first | (go_at_call 47; go_must (refine (checktrace_any _ _ _ p _ rfl hm hat.drew).mono ?_); rintro e w1 ⟨rfl, rfl⟩) | (go_at_call 48; go_must (refine (checkrules_any _ _ _ _ _ _ hb).mono ?_); rintro e w2 ⟨rfl, hg⟩; have hb2 := (hg.block _ (lt_of_block h0) (by simp)).trans h0; have hc := cells5 hb2) | (go_at_call 32; go_must (refine (first_lit [traceFault p, rulesFault st wd ls nm dn] _ _ _ _ _ rfl rfl rfl (by simp)).mono ?_); rintro e w3 ⟨rfl, rfl⟩))
  go_wp2_with fail
  go_ret
  exact ⟨ret_int rfl, grown_alloc_r ((grown_drew_r (World.grownBy_alloc _ _ _)).trans hg) _⟩
end Go.Proofs.Ytjflmenfinohcaa.Hd

/- Walks: the excess of a trace (package trace, and the reference). -/
namespace Go.Proofs.Ytjflmenfinohcaa.Hd
set_option linter.unusedVariables false
set_option linter.unusedSimpArgs false
open Go.RowKit

theorem okR_bd {x : Int} (h : okR x = true) : -10000 ≤ x ∧ x ≤ 10000 := of_inB h
theorem okR_get (xs : List Int) (h : xs.all okR = true) (k : Nat) (hk : k < xs.length) : -10000 ≤ xs.getD k 0 ∧ xs.getD k 0 ≤ 10000 :=
  okR_bd (List.all_eq_true.1 h _ (by simp [hk]))
theorem sum_bd (xs : List Int) (h : xs.all okR = true) : -10000 * (xs.length : Int) ≤ xs.sum ∧ xs.sum ≤ 10000 * xs.length := by
  induction xs with
  | nil => simp
  | cons x r ih =>
    simp only [List.all_cons, Bool.and_eq_true] at h
    have h1 := okR_bd h.1
    have h2 := ih h.2
    simp only [List.sum_cons, List.length_cons]
    omega
theorem all_take (xs : List Int) (h : xs.all okR = true) (k : Nat) : (xs.take k).all okR = true := by
  rw [List.all_eq_true] at *; exact fun x hx => h x (List.mem_of_mem_take hx)
theorem all_drop (xs : List Int) (h : xs.all okR = true) (k : Nat) : (xs.drop k).all okR = true := by
  rw [List.all_eq_true] at *; exact fun x hx => h x (List.mem_of_mem_drop hx)
theorem sum_take_bd (xs : List Int) (h : xs.all okR = true) (k : Nat) (hk : k ≤ xs.length) : -10000 * (k : Int) ≤ (xs.take k).sum ∧ (xs.take k).sum ≤ 10000 * k := by
  have := sum_bd (xs.take k) (all_take xs h k)
  rw [List.length_take, Nat.min_eq_left hk] at this; exact this
theorem sum_snoc (xs : List Int) (k : Nat) (h : k < xs.length) : (xs.take (k + 1)).sum = (xs.take k).sum + xs.getD k 0 := by
  rw [take_snocD xs k h]; simp

set_option maxHeartbeats 400000 in
theorem sum_any (a : Option Addr) (n cap : Nat) (xs : List Int) (w : World) (hn : n = xs.length) (hm : n ≤ 5000) (ho : xs.all okR = true) (h : At w a (ints xs)) :
    Calls Try.prog 49 #[.slice a n cap] w fun e w' => e = .returned (.int .i64 xs.sum) ∧ w = w' := by
  subst hn
  go_enter Try.func49, Try.ntmps49
  go_wp2
  go_loop [3, 8] (fun t i => ∃ k : Nat, k ≤ xs.length ∧ i = .int .i64 k ∧ t = .int .i64 (xs.take k).sum) (fun _ i => xs.length - (intOf i).toNat)
  case atStart => exact ⟨0, Nat.zero_le _, rfl, rfl⟩
  case round =>
    obtain ⟨k, hk, rfl, rfl⟩ := hrel
    by_cases hlt : k < xs.length
    · obtain ⟨b, off, rfl, hck⟩ := h.int hlt
      have HS := Lib.hid (sum_snoc xs k hlt)
      have hb1 := sum_take_bd xs ho k hk
      have hb2 := okR_get xs ho k hlt
      generalize xs.getD k 0 = x at hck HS hb2
      generalize (xs.take k).sum = s at *
      go_wp2
      go_round
      case rel => exact ⟨k + 1, by omega, by go_num, by rw [HS.out]⟩
      case measure => simp [intOf]; omega
    · go_wp2
      go_ret
      exact ⟨ret_int (by rw [List.take_of_length_le (by omega)]), rfl⟩

/-! the excess -/
def win (p : List Int) (lo m : Nat) : List Int := (p.drop lo).take m
theorem ints_win (p : List Int) (lo m : Nat) : ((ints p).drop lo).take m = ints (win p lo m) := by simp [ints, win, List.map_take, List.map_drop]
theorem win_all (p : List Int) (h : p.all okR = true) (lo m : Nat) : (win p lo m).all okR = true := all_take _ (all_drop _ h _) _
theorem win_len (p : List Int) (lo m : Nat) (h : lo + m ≤ p.length) : (win p lo m).length = m := by simp [win]; omega
/-- what falls at index i, over windows of W samples -/
def drp (p : List Int) (W i : Nat) : Int := (win p (i - W) W).sum - (win p i W).sum
theorem drp_bd (p : List Int) (h : p.all okR = true) (W i : Nat) (hi : W ≤ i) (hi2 : i + W ≤ p.length) : -20000 * (W : Int) ≤ drp p W i ∧ drp p W i ≤ 20000 * W := by
  have h1 := sum_bd _ (win_all p h (i - W) W)
  have h2 := sum_bd _ (win_all p h i W)
  rw [win_len _ _ _ (by omega)] at h1 h2
  unfold drp; omega
def exn (p : List Int) (W D : Nat) (nm : Int) (i : Nat) : Int := drp p W i * D - W * W * nm
def exf (p : List Int) (W D : Nat) (nm : Int) (i : Nat) : Int × Int := low (exn p W D nm i) (W * D)
def exc (p : List Int) (W : Nat) : Nat := p.length + 1 - 2 * W
def exL (p : List Int) (W D : Nat) (nm : Int) : List (Int × Int) := (List.range (exc p W)).map fun j => exf p W D nm (W + j)
def exR (p : List Int) (W D : Nat) (nm : Int) : List Int := (List.range (exc p W)).map fun j => exn p W D nm (W + j)

def prs (l : List (Int × Int)) : List Value := l.flatMap fun q => [.int .i64 q.1, .int .i64 q.2]
theorem prs_snoc (l : List (Int × Int)) (q : Int × Int) : prs (l ++ [q]) = prs l ++ [.int .i64 q.1, .int .i64 q.2] := by simp [prs]

theorem elem_frac : Elem Try.prog 85 70 2 16 := by
  obtain ⟨i, hi, hz, h1, h2⟩ := info_parts (show (Try.prog.info? 70).map (fun i => (i.zero, i.size, i.bytes)) = some (some (.agg #[.int .i64 0, .int .i64 0]), 2, 16) by kernel_rfl)
  exact ⟨Try.underlying85, i, _, hi, hz, h1, h2, rfl, by omega⟩

theorem mul_bd (x y A B : Int) (hx : -A ≤ x ∧ x ≤ A) (hy : 0 ≤ y ∧ y ≤ B) (hA : 0 ≤ A) : -(A * B) ≤ x * y ∧ x * y ≤ A * B := by
  have h1 : x * y ≤ A * y := Int.mul_le_mul_of_nonneg_right hx.2 hy.1
  have h2 : A * y ≤ A * B := Int.mul_le_mul_of_nonneg_left hy.2 hA
  have h3 : -A * y ≤ x * y := Int.mul_le_mul_of_nonneg_right hx.1 hy.1
  rw [Int.neg_mul] at h3
  omega
theorem exn_bd (p : List Int) (h : p.all okR = true) (W D : Nat) (nm : Int) (i : Nat) (hW : W ≤ 100) (hD : D ≤ 1000) (hn : 0 ≤ nm ∧ nm ≤ 10000) (hi : W ≤ i) (hi2 : i + W ≤ p.length) :
    (-2000000000 ≤ drp p W i * D ∧ drp p W i * D ≤ 2000000000) ∧ (0 ≤ (W : Int) * W ∧ (W : Int) * W ≤ 10000) ∧ (0 ≤ (W : Int) * W * nm ∧ (W : Int) * W * nm ≤ 100000000) := by
  have h1 := drp_bd p h W i hi hi2
  have h2 := mul_bd (drp p W i) D 2000000 1000 (by omega) (by omega) (by omega)
  have h3 := mul_bd (W : Int) W 100 100 (by omega) (by omega) (by omega)
  have h3' : 0 ≤ (W : Int) * W := Int.mul_nonneg (by omega) (by omega)
  have h4 := mul_bd ((W : Int) * W) nm 10000 10000 (by omega) (by omega) (by omega)
  have h4' : 0 ≤ (W : Int) * W * nm := Int.mul_nonneg h3' (by omega)
  omega

theorem sum_win (p : List Int) (b off : Nat) (w : World) (h : At w (some ⟨b, off, none⟩) (ints p)) (ho : p.all okR = true) (lo m c : Nat) (h1 : lo + m ≤ p.length) (h2 : m ≤ 5000) :
    Calls Try.prog 49 #[.slice (some ⟨b, off + lo, none⟩) m c] w fun e w' => e = .returned (.int .i64 (win p lo m).sum) ∧ w = w' :=
  sum_any _ _ _ (win p lo m) w (win_len p lo m h1).symm h2 (win_all p ho lo m) (by rw [← ints_win]; exact h.sub lo m)
def ExRel (p : List Int) (W D : Nat) (st ls nm : Int) (w : World) (v5 v7 : Value) (wr : World) : Prop :=
  ∃ (a : Option Addr) (c k : Nat), k ≤ exc p W ∧ v7 = .int .i64 ((W : Int) + k) ∧ v5 = .slice a k c ∧
    wr.ownsRow (w.heap.size + 1) 70 2 (.slice a k c) k (prs ((List.range k).map fun j => exf p W D nm (W + j))) ∧
    wr.heap[w.heap.size]? = some (.cells #[.int .i64 st, .int .i64 W, .int .i64 ls, .int .i64 nm, .int .i64 D] 72 (0, 0)) ∧ w.grownBy wr none

set_option maxHeartbeats 2000000 in
theorem excess_any (a : Option Addr) (n cap : Nat) (p : List Int) (st ls nm : Int) (W D : Nat) (w : World) (hn : n = p.length) (hcap : n ≤ cap) (hc2 : cap ≤ maxLen) (hm : n ≤ 5000) (ho : p.all okR = true) (h : At w a (ints p))
    (hW : 1 ≤ W ∧ W ≤ 100) (hD : 1 ≤ D ∧ D ≤ 1000) (hnm : 0 ≤ nm ∧ nm ≤ 10000) :
    Calls Try.prog 40 #[.slice a n cap, .agg #[.int .i64 st, .int .i64 W, .int .i64 ls, .int .i64 nm, .int .i64 D]] w fun e w' =>
      ∃ a' c', e = .returned (.slice a' (exL p W D nm).length c') ∧ w'.ownsRow w.heap.size 70 2 (.slice a' (exL p W D nm).length c') (exL p W D nm).length (prs (exL p W D nm)) ∧ w.grownBy w' none := by
  subst hn
  have h0 := heap_alloc_new w (.cells #[.int .i64 st, .int .i64 W, .int .i64 ls, .int .i64 nm, .int .i64 D] 72)
  have H0 := Lib.hid h0
  clear h0
  go_enter Try.func40, Try.ntmps40
  go_wp2_with fail
  go_loopw [5, 7] (ExRel p W D st ls nm w) (fun _ i _ => p.length + 1 - (intOf i).toNat)
  case atStart => exact ⟨none, 0, 0, by omega, by simp, rfl, World.ownsRow_nil _ _ _ _, H0.out, World.grownBy_alloc _ _ _⟩
  case round =>
    clear H0
    obtain ⟨a2, c2, k, hk, rfl, rfl, hown, hb, hg⟩ := hrel
    by_cases hlt : W + k + W ≤ p.length
    · have hlt' : (W : Int) + k ≤ p.length - W := by omega
      obtain ⟨b, off, rfl⟩ := h.addr (by rw [length_ints]; omega)
      have hat := h.grown hg (by simp)
      obtain ⟨hB1, hB2, hB3⟩ := exn_bd p ho W D nm (W + k) hW.2 hD.2 hnm (by omega) (by omega)
      have HD : Hid ((win p k W).sum - (win p (W + k) W).sum = drp p W (W + k)) := by show _ = _; rw [drp, Nat.add_sub_cancel_left]
      have hdb := drp_bd p ho W (W + k) (by omega) (by omega)
      have HE : Hid (exf p W D nm (W + k) = low (drp p W (W + k) * D - W * W * nm) (W * D)) := rfl
      have hWD : (1 : Int) ≤ (W : Int) * D ∧ (W : Int) * D ≤ 100000 := by
        have := mul_bd (W : Int) D 100 1000 (by omega) (by omega) (by omega)
        have h2 : (1 : Int) * 1 ≤ (W : Int) * D := Int.mul_le_mul (by omega) (by omega) (by omega) (by omega)
        omega
      have hb' := sum_bd _ (win_all p ho k W)
      have hb'' := sum_bd _ (win_all p ho (W + k) W)
      rw [win_len p k W (by omega)] at hb'
      rw [win_len p (W + k) W (by omega)] at hb''
      have hcc := cells5 hb
      go_wp2_with fail
      go_quiet ((go_at_call 49; exact quiet_same (sum_win p b off _ (hat.drewN _) ho _ _ _ (by omega) (by omega))))
      rw [HD.out]
      clear HD hb' hb'' hat
      generalize drp p W (W + k) = X at *
      go_wp2_with fail
      refine (fraction_any _ (W * D) _ _ (by rw [Int.natCast_mul]) (by omega) (by omega) (by have := Int.natCast_mul W D; omega) (by have := Int.natCast_mul W D; omega)).mono ?_
      rw [← HE.out]
      obtain ⟨q, HQ⟩ : ∃ q, Hid (exf p W D nm (W + k) = q) := ⟨_, rfl⟩
      rw [HQ.out]
      clear HE
      rintro e w2 ⟨rfl, hg2⟩
      have hg2' := hg2
      replace hown := own_kept hown (show wr.grownBy w2 none from ⟨hg2.os, hg2.tape, hg2.output, hg2.size, hg2.block⟩) (by simp)
      replace hb := (hg2.block _ (lt_of_block hb) (by simp)).trans hb
      replace hg := hg.trans (show wr.grownBy w2 none from ⟨hg2.os, hg2.tape, hg2.output, hg2.size, hg2.block⟩)
      clear hg2 hg2' hcc
      have hq1 : (k + 1) * 16 ≤ 140737488355328 := by unfold exc at hk; omega
      have hq2 : k + 1 ≤ maxLen := by unfold maxLen; unfold exc at hk; omega
      have hq3 : w.heap.size + 1 ≤ w2.heap.size := lt_of_block hb
      go_wp2_with (at_builtin; refine wpList_push rfl _ _ _ rfl (w.heap.size + 1) _ _ _ _ elem_frac a2 k c2 _ hown 1 1 [.int .i64 q.1, .int .i64 q.2] rfl rfl rfl (by simp [Value.oneCell']) hq1 hq2 hq3 ?_; intro a3 c3 w4 hown4 hg4 hat4)
      refine ⟨⟨a3, c3, k + 1, by unfold exc; omega, by rw [Int.natCast_add, Int.add_assoc]; rfl, rfl, ?_, ?_, ?_⟩, by simp [intOf]; omega⟩
      · rw [List.range_succ, List.map_append, List.map_singleton, prs_snoc, HQ.out]; exact hown4
      · refine (hg4.block _ (lt_of_block hb) (fun e => ?_)).trans hb
        obtain ⟨p', hp', hpb⟩ := Option.map_eq_some_iff.1 e.symm
        have := (own_lt hown p' hp').1
        omega
      · exact grown_own hg hg4 (by intro b' hb'; obtain ⟨p', hp', hpb⟩ := Option.map_eq_some_iff.1 hb'; have := (own_lt hown p' hp').1; omega)
    · have hk2 : k = exc p W := by unfold exc at *; omega
      have hlt' : (p.length : Int) - W < W + k := by omega
      have HL : Hid (exL p W D nm = (List.range k).map fun j => exf p W D nm (W + j)) := by show _ = _; rw [hk2]; rfl
      clear hk2
      go_wp2_with fail
      go_ret
      refine ⟨a2, c2, ?_, ?_, hg⟩
      · rw [HL.out]; simp
      · rw [HL.out]; simpa using own_base hown (Nat.le_succ _)

end Go.Proofs.Ytjflmenfinohcaa.Hd

/- Walks: where a trace ends (package trace, and the reference). -/
namespace Go.Proofs.Ytjflmenfinohcaa.Hd
set_option linter.unusedVariables false
set_option linter.unusedSimpArgs false
open Go.RowKit

end Go.Proofs.Ytjflmenfinohcaa.Hd
