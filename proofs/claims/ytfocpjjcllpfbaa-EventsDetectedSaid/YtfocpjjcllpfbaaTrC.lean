/- Walks: the excess of a trace (package trace, and the reference). -/
import Derived.Test.YtfocpjjcllpfbaaTrB
import Derived.Test.YtfocpjjcllpfbaaStream
namespace Go.Proofs.Ytfocpjjcllpfbaa
open Go.RowKit

theorem okR_bd {x : Int} (h : okR x = true) : -10000 ≤ x ∧ x ≤ 10000 := of_inB h
theorem okR_get (xs : List Int) (h : xs.all okR = true) (k : Nat) (hk : k < xs.length) : -10000 ≤ xs.getD k 0 ∧ xs.getD k 0 ≤ 10000 :=
  okR_bd (List.all_eq_true.1 h _ (by simp [hk]))
theorem sum_bd (xs : List Int) (h : xs.all okR = true) : -10000 * (xs.length : Int) ≤ xs.sum ∧ xs.sum ≤ 10000 * xs.length := by
  induction xs with
  | nil => simp
  | cons x r ih =>
    simp only [List.all_cons, Bool.and_eq_true] at h
    have h1 := okR_bd h.1
    have h2 := ih h.2
    simp only [List.sum_cons, List.length_cons]
    omega
theorem all_take (xs : List Int) (h : xs.all okR = true) (k : Nat) : (xs.take k).all okR = true := by
  rw [List.all_eq_true] at *; exact fun x hx => h x (List.mem_of_mem_take hx)
theorem all_drop (xs : List Int) (h : xs.all okR = true) (k : Nat) : (xs.drop k).all okR = true := by
  rw [List.all_eq_true] at *; exact fun x hx => h x (List.mem_of_mem_drop hx)
theorem sum_take_bd (xs : List Int) (h : xs.all okR = true) (k : Nat) (hk : k ≤ xs.length) : -10000 * (k : Int) ≤ (xs.take k).sum ∧ (xs.take k).sum ≤ 10000 * k := by
  have := sum_bd (xs.take k) (all_take xs h k)
  rw [List.length_take, Nat.min_eq_left hk] at this; exact this
theorem sum_snoc (xs : List Int) (k : Nat) (h : k < xs.length) : (xs.take (k + 1)).sum = (xs.take k).sum + xs.getD k 0 := by
  rw [take_snocD xs k h]; simp

set_option maxHeartbeats 400000 in
theorem sum_any (a : Option Addr) (n cap : Nat) (xs : List Int) (w : World) (hn : n = xs.length) (hm : n ≤ 5000) (ho : xs.all okR = true) (h : At w a (ints xs)) :
    Calls Try.prog 65 #[.slice a n cap] w fun e w' => e = .returned (.int .i64 xs.sum) ∧ w = w' := by
  subst hn
  go_enter Try.func65, Try.ntmps65
  go_wp2
  go_loop [3, 8] (fun t i => ∃ k : Nat, k ≤ xs.length ∧ i = .int .i64 k ∧ t = .int .i64 (xs.take k).sum) (fun _ i => xs.length - (intOf i).toNat)
  case atStart => exact ⟨0, Nat.zero_le _, rfl, rfl⟩
  case round =>
    obtain ⟨k, hk, rfl, rfl⟩ := hrel
    by_cases hlt : k < xs.length
    · obtain ⟨b, off, rfl, hck⟩ := h.int hlt
      have HS := Lib.hid (sum_snoc xs k hlt)
      have hb1 := sum_take_bd xs ho k hk
      have hb2 := okR_get xs ho k hlt
      generalize xs.getD k 0 = x at hck HS hb2
      generalize (xs.take k).sum = s at *
      go_wp2
      go_round
      case rel => exact ⟨k + 1, by omega, by go_num, by rw [HS.out]⟩
      case measure => simp [intOf]; omega
    · go_wp2
      go_ret
      exact ⟨ret_int (by rw [List.take_of_length_le (by omega)]), rfl⟩

set_option maxHeartbeats 400000 in
theorem total_any (a : Option Addr) (n cap : Nat) (xs : List Int) (w : World) (hn : n = xs.length) (hm : n ≤ 5000) (ho : xs.all okR = true) (h : At w a (ints xs)) :
    Calls Try.prog 70 #[.slice a n cap] w fun e w' => e = .returned (.int .i64 xs.sum) ∧ w = w' := by
  subst hn
  go_enter Try.func70, Try.ntmps70
  go_wp2
  go_loop [3, 8] (fun t i => ∃ k : Nat, k ≤ xs.length ∧ i = .int .i64 k ∧ t = .int .i64 (xs.take k).sum) (fun _ i => xs.length - (intOf i).toNat)
  case atStart => exact ⟨0, Nat.zero_le _, rfl, rfl⟩
  case round =>
    obtain ⟨k, hk, rfl, rfl⟩ := hrel
    by_cases hlt : k < xs.length
    · obtain ⟨b, off, rfl, hck⟩ := h.int hlt
      have HS := Lib.hid (sum_snoc xs k hlt)
      have hb1 := sum_take_bd xs ho k hk
      have hb2 := okR_get xs ho k hlt
      generalize xs.getD k 0 = x at hck HS hb2
      generalize (xs.take k).sum = s at *
      go_wp2
      go_round
      case rel => exact ⟨k + 1, by omega, by go_num, by rw [HS.out]⟩
      case measure => simp [intOf]; omega
    · go_wp2
      go_ret
      exact ⟨ret_int (by rw [List.take_of_length_le (by omega)]), rfl⟩

/-! the excess -/
def win (p : List Int) (lo m : Nat) : List Int := (p.drop lo).take m
theorem ints_win (p : List Int) (lo m : Nat) : ((ints p).drop lo).take m = ints (win p lo m) := by simp [ints, win, List.map_take, List.map_drop]
theorem win_all (p : List Int) (h : p.all okR = true) (lo m : Nat) : (win p lo m).all okR = true := all_take _ (all_drop _ h _) _
theorem win_len (p : List Int) (lo m : Nat) (h : lo + m ≤ p.length) : (win p lo m).length = m := by simp [win]; omega
/-- what falls at index i, over windows of W samples -/
def drp (p : List Int) (W i : Nat) : Int := (win p (i - W) W).sum - (win p i W).sum
theorem drp_bd (p : List Int) (h : p.all okR = true) (W i : Nat) (hi : W ≤ i) (hi2 : i + W ≤ p.length) : -20000 * (W : Int) ≤ drp p W i ∧ drp p W i ≤ 20000 * W := by
  have h1 := sum_bd _ (win_all p h (i - W) W)
  have h2 := sum_bd _ (win_all p h i W)
  rw [win_len _ _ _ (by omega)] at h1 h2
  unfold drp; omega
def exn (p : List Int) (W D : Nat) (nm : Int) (i : Nat) : Int := drp p W i * D - W * W * nm
def exf (p : List Int) (W D : Nat) (nm : Int) (i : Nat) : Int × Int := low (exn p W D nm i) (W * D)
def exc (p : List Int) (W : Nat) : Nat := p.length + 1 - 2 * W
def exL (p : List Int) (W D : Nat) (nm : Int) : List (Int × Int) := (List.range (exc p W)).map fun j => exf p W D nm (W + j)
def exR (p : List Int) (W D : Nat) (nm : Int) : List Int := (List.range (exc p W)).map fun j => exn p W D nm (W + j)

def prs (l : List (Int × Int)) : List Value := l.flatMap fun q => [.int .i64 q.1, .int .i64 q.2]
theorem prs_snoc (l : List (Int × Int)) (q : Int × Int) : prs (l ++ [q]) = prs l ++ [.int .i64 q.1, .int .i64 q.2] := by simp [prs]

theorem elem_frac : Elem Try.prog 35 28 2 16 := by
  obtain ⟨i, hi, hz, h1, h2⟩ := info_parts (show (Try.prog.info? 28).map (fun i => (i.zero, i.size, i.bytes)) = some (some (.agg #[.int .i64 0, .int .i64 0]), 2, 16) by kernel_rfl)
  exact ⟨Try.underlying35, i, _, hi, hz, h1, h2, rfl, by omega⟩

theorem mul_bd (x y A B : Int) (hx : -A ≤ x ∧ x ≤ A) (hy : 0 ≤ y ∧ y ≤ B) (hA : 0 ≤ A) : -(A * B) ≤ x * y ∧ x * y ≤ A * B := by
  have h1 : x * y ≤ A * y := Int.mul_le_mul_of_nonneg_right hx.2 hy.1
  have h2 : A * y ≤ A * B := Int.mul_le_mul_of_nonneg_left hy.2 hA
  have h3 : -A * y ≤ x * y := Int.mul_le_mul_of_nonneg_right hx.1 hy.1
  rw [Int.neg_mul] at h3
  omega
theorem exn_bd (p : List Int) (h : p.all okR = true) (W D : Nat) (nm : Int) (i : Nat) (hW : W ≤ 100) (hD : D ≤ 1000) (hn : 0 ≤ nm ∧ nm ≤ 10000) (hi : W ≤ i) (hi2 : i + W ≤ p.length) :
    (-2000000000 ≤ drp p W i * D ∧ drp p W i * D ≤ 2000000000) ∧ (0 ≤ (W : Int) * W ∧ (W : Int) * W ≤ 10000) ∧ (0 ≤ (W : Int) * W * nm ∧ (W : Int) * W * nm ≤ 100000000) := by
  have h1 := drp_bd p h W i hi hi2
  have h2 := mul_bd (drp p W i) D 2000000 1000 (by omega) (by omega) (by omega)
  have h3 := mul_bd (W : Int) W 100 100 (by omega) (by omega) (by omega)
  have h3' : 0 ≤ (W : Int) * W := Int.mul_nonneg (by omega) (by omega)
  have h4 := mul_bd ((W : Int) * W) nm 10000 10000 (by omega) (by omega) (by omega)
  have h4' : 0 ≤ (W : Int) * W * nm := Int.mul_nonneg h3' (by omega)
  omega

theorem sum_win (p : List Int) (b off : Nat) (w : World) (h : At w (some ⟨b, off, none⟩) (ints p)) (ho : p.all okR = true) (lo m c : Nat) (h1 : lo + m ≤ p.length) (h2 : m ≤ 5000) :
    Calls Try.prog 65 #[.slice (some ⟨b, off + lo, none⟩) m c] w fun e w' => e = .returned (.int .i64 (win p lo m).sum) ∧ w = w' :=
  sum_any _ _ _ (win p lo m) w (win_len p lo m h1).symm h2 (win_all p ho lo m) (by rw [← ints_win]; exact h.sub lo m)
theorem total_win (p : List Int) (b off : Nat) (w : World) (h : At w (some ⟨b, off, none⟩) (ints p)) (ho : p.all okR = true) (lo m c : Nat) (h1 : lo + m ≤ p.length) (h2 : m ≤ 5000) :
    Calls Try.prog 70 #[.slice (some ⟨b, off + lo, none⟩) m c] w fun e w' => e = .returned (.int .i64 (win p lo m).sum) ∧ w = w' :=
  total_any _ _ _ (win p lo m) w (win_len p lo m h1).symm h2 (win_all p ho lo m) (by rw [← ints_win]; exact h.sub lo m)

def ExRel (p : List Int) (W D : Nat) (st ls nm : Int) (w : World) (v5 v7 : Value) (wr : World) : Prop :=
  ∃ (a : Option Addr) (c k : Nat), k ≤ exc p W ∧ v7 = .int .i64 ((W : Int) + k) ∧ v5 = .slice a k c ∧
    wr.ownsRow (w.heap.size + 1) 28 2 (.slice a k c) k (prs ((List.range k).map fun j => exf p W D nm (W + j))) ∧
    wr.heap[w.heap.size]? = some (.cells #[.int .i64 st, .int .i64 W, .int .i64 ls, .int .i64 nm, .int .i64 D] 30 (0, 0)) ∧ w.grownBy wr none

set_option maxHeartbeats 2000000 in
theorem excess_any (a : Option Addr) (n cap : Nat) (p : List Int) (st ls nm : Int) (W D : Nat) (w : World) (hn : n = p.length) (hcap : n ≤ cap) (hc2 : cap ≤ maxLen) (hm : n ≤ 5000) (ho : p.all okR = true) (h : At w a (ints p))
    (hW : 1 ≤ W ∧ W ≤ 100) (hD : 1 ≤ D ∧ D ≤ 1000) (hnm : 0 ≤ nm ∧ nm ≤ 10000) :
    Calls Try.prog 39 #[.slice a n cap, .agg #[.int .i64 st, .int .i64 W, .int .i64 ls, .int .i64 nm, .int .i64 D]] w fun e w' =>
      ∃ a' c', e = .returned (.slice a' (exL p W D nm).length c') ∧ w'.ownsRow w.heap.size 28 2 (.slice a' (exL p W D nm).length c') (exL p W D nm).length (prs (exL p W D nm)) ∧ w.grownBy w' none := by
  subst hn
  have h0 := heap_alloc_new w (.cells #[.int .i64 st, .int .i64 W, .int .i64 ls, .int .i64 nm, .int .i64 D] 30)
  have H0 := Lib.hid h0
  clear h0
  go_enter Try.func39, Try.ntmps39
  go_wp2_with fail
  go_loopw [5, 7] (ExRel p W D st ls nm w) (fun _ i _ => p.length + 1 - (intOf i).toNat)
  case atStart => exact ⟨none, 0, 0, by omega, by simp, rfl, World.ownsRow_nil _ _ _ _, H0.out, World.grownBy_alloc _ _ _⟩
  case round =>
    clear H0
    obtain ⟨a2, c2, k, hk, rfl, rfl, hown, hb, hg⟩ := hrel
    by_cases hlt : W + k + W ≤ p.length
    · have hlt' : (W : Int) + k ≤ p.length - W := by omega
      obtain ⟨b, off, rfl⟩ := h.addr (by rw [length_ints]; omega)
      have hat := h.grown hg (by simp)
      obtain ⟨hB1, hB2, hB3⟩ := exn_bd p ho W D nm (W + k) hW.2 hD.2 hnm (by omega) (by omega)
      have HD : Hid ((win p k W).sum - (win p (W + k) W).sum = drp p W (W + k)) := by show _ = _; rw [drp, Nat.add_sub_cancel_left]
      have hdb := drp_bd p ho W (W + k) (by omega) (by omega)
      have HE : Hid (exf p W D nm (W + k) = low (drp p W (W + k) * D - W * W * nm) (W * D)) := rfl
      have hWD : (1 : Int) ≤ (W : Int) * D ∧ (W : Int) * D ≤ 100000 := by
        have := mul_bd (W : Int) D 100 1000 (by omega) (by omega) (by omega)
        have h2 : (1 : Int) * 1 ≤ (W : Int) * D := Int.mul_le_mul (by omega) (by omega) (by omega) (by omega)
        omega
      have hb' := sum_bd _ (win_all p ho k W)
      have hb'' := sum_bd _ (win_all p ho (W + k) W)
      rw [win_len p k W (by omega)] at hb'
      rw [win_len p (W + k) W (by omega)] at hb''
      have hcc := cells5 hb
      go_wp2_with fail
      go_quiet ((go_at_call 65; exact quiet_same (sum_win p b off _ (hat.drewN _) ho _ _ _ (by omega) (by omega))))
      rw [HD.out]
      clear HD hb' hb'' hat
      generalize drp p W (W + k) = X at *
      go_wp2_with fail
      refine (fraction_any _ (W * D) _ _ (by rw [Int.natCast_mul]) (by omega) (by omega) (by have := Int.natCast_mul W D; omega) (by have := Int.natCast_mul W D; omega)).mono ?_
      rw [← HE.out]
      obtain ⟨q, HQ⟩ : ∃ q, Hid (exf p W D nm (W + k) = q) := ⟨_, rfl⟩
      rw [HQ.out]
      clear HE
      rintro e w2 ⟨rfl, hg2⟩
      have hg2' := hg2
      replace hown := own_kept hown (show wr.grownBy w2 none from ⟨hg2.os, hg2.tape, hg2.output, hg2.size, hg2.block⟩) (by simp)
      replace hb := (hg2.block _ (lt_of_block hb) (by simp)).trans hb
      replace hg := hg.trans (show wr.grownBy w2 none from ⟨hg2.os, hg2.tape, hg2.output, hg2.size, hg2.block⟩)
      clear hg2 hg2' hcc
      have hq1 : (k + 1) * 16 ≤ 140737488355328 := by unfold exc at hk; omega
      have hq2 : k + 1 ≤ maxLen := by unfold maxLen; unfold exc at hk; omega
      have hq3 : w.heap.size + 1 ≤ w2.heap.size := lt_of_block hb
      go_wp2_with (at_builtin; refine wpList_push rfl _ _ _ rfl (w.heap.size + 1) _ _ _ _ elem_frac a2 k c2 _ hown 1 1 [.int .i64 q.1, .int .i64 q.2] rfl rfl rfl (by simp [Value.oneCell']) hq1 hq2 hq3 ?_; intro a3 c3 w4 hown4 hg4 hat4)
      refine ⟨⟨a3, c3, k + 1, by unfold exc; omega, by rw [Int.natCast_add, Int.add_assoc]; rfl, rfl, ?_, ?_, ?_⟩, by simp [intOf]; omega⟩
      · rw [List.range_succ, List.map_append, List.map_singleton, prs_snoc, HQ.out]; exact hown4
      · refine (hg4.block _ (lt_of_block hb) (fun e => ?_)).trans hb
        obtain ⟨p', hp', hpb⟩ := Option.map_eq_some_iff.1 e.symm
        have := (own_lt hown p' hp').1
        omega
      · exact grown_own hg hg4 (by intro b' hb'; obtain ⟨p', hp', hpb⟩ := Option.map_eq_some_iff.1 hb'; have := (own_lt hown p' hp').1; omega)
    · have hk2 : k = exc p W := by unfold exc at *; omega
      have hlt' : (p.length : Int) - W < W + k := by omega
      have HL : Hid (exL p W D nm = (List.range k).map fun j => exf p W D nm (W + j)) := by show _ = _; rw [hk2]; rfl
      clear hk2
      go_wp2_with fail
      go_ret
      refine ⟨a2, c2, ?_, ?_, hg⟩
      · rw [HL.out]; simp
      · rw [HL.out]; simpa using own_base hown (Nat.le_succ _)

def ExsRel (p : List Int) (W D : Nat) (st ls nm : Int) (w : World) (v5 v6 : Value) (wr : World) : Prop :=
  ∃ (a : Option Addr) (c k : Nat), k ≤ exc p W ∧ v6 = .int .i64 ((W : Int) + k) ∧ v5 = .slice a k c ∧
    wr.ownsRow (w.heap.size + 1) 3 1 (.slice a k c) k (ints ((List.range k).map fun j => exn p W D nm (W + j))) ∧
    wr.heap[w.heap.size]? = some (.cells #[.int .i64 st, .int .i64 W, .int .i64 ls, .int .i64 nm, .int .i64 D] 30 (0, 0)) ∧ w.grownBy wr none

set_option maxHeartbeats 2000000 in
theorem excesses_any (a : Option Addr) (n cap : Nat) (p : List Int) (st ls nm : Int) (W D : Nat) (w : World) (hn : n = p.length) (hcap : n ≤ cap) (hc2 : cap ≤ maxLen) (hm : n ≤ 5000) (ho : p.all okR = true) (h : At w a (ints p))
    (hW : 1 ≤ W ∧ W ≤ 100) (hD : 1 ≤ D ∧ D ≤ 1000) (hnm : 0 ≤ nm ∧ nm ≤ 10000) :
    Calls Try.prog 48 #[.slice a n cap, .agg #[.int .i64 st, .int .i64 W, .int .i64 ls, .int .i64 nm, .int .i64 D]] w fun e w' =>
      ∃ a' c', e = .returned (.slice a' (exR p W D nm).length c') ∧ w'.ownsRow w.heap.size 3 1 (.slice a' (exR p W D nm).length c') (exR p W D nm).length (ints (exR p W D nm)) ∧ w.grownBy w' none := by
  subst hn
  have h0 := heap_alloc_new w (.cells #[.int .i64 st, .int .i64 W, .int .i64 ls, .int .i64 nm, .int .i64 D] 30)
  have H0 := Lib.hid h0
  clear h0
  go_enter Try.func48, Try.ntmps48
  go_wp2_with fail
  go_loopw [5, 6] (ExsRel p W D st ls nm w) (fun _ i _ => p.length + 1 - (intOf i).toNat)
  case atStart => exact ⟨none, 0, 0, by omega, by simp, rfl, World.ownsRow_nil _ _ _ _, H0.out, World.grownBy_alloc _ _ _⟩
  case round =>
    clear H0
    obtain ⟨a2, c2, k, hk, rfl, rfl, hown, hb, hg⟩ := hrel
    have hcc := cells5 hb
    have hkb : k ≤ 5001 := by unfold exc at hk; omega
    by_cases hlt : W + k + W ≤ p.length
    · have hlt' : (W : Int) + k + W ≤ p.length := by omega
      obtain ⟨b, off, rfl⟩ := h.addr (by rw [length_ints]; omega)
      have hat := h.grown hg (by simp)
      obtain ⟨hB1, hB2, hB3⟩ := exn_bd p ho W D nm (W + k) hW.2 hD.2 hnm (by omega) (by omega)
      have HD : Hid ((win p k W).sum - (win p (W + k) W).sum = drp p W (W + k)) := by show _ = _; rw [drp, Nat.add_sub_cancel_left]
      have hdb := drp_bd p ho W (W + k) (by omega) (by omega)
      have HE : Hid (exn p W D nm (W + k) = drp p W (W + k) * D - W * W * nm) := rfl
      have hb' := sum_bd _ (win_all p ho k W)
      have hb'' := sum_bd _ (win_all p ho (W + k) W)
      rw [win_len p k W (by omega)] at hb'
      rw [win_len p (W + k) W (by omega)] at hb''
      go_wp2_with fail
      go_quiet ((go_at_call 70; exact quiet_same (total_win p b off _ (hat.drewN _) ho _ _ _ (by omega) (by omega))))
      rw [HD.out]
      clear HD hb' hb'' hat
      generalize drp p W (W + k) = X at *
      obtain ⟨q, HQ⟩ : ∃ q, Hid (exn p W D nm (W + k) = q) := ⟨_, rfl⟩
      rw [HQ.out] at HE
      have hq1 : (k + 1) * 8 ≤ 140737488355328 := by unfold exc at hk; omega
      have hq2 : k + 1 ≤ maxLen := by unfold maxLen; unfold exc at hk; omega
      have hq3 : w.heap.size + 1 ≤ wr.heap.size := lt_of_block hb
      go_wp2_with (at_builtin; refine wpList_push rfl _ _ _ rfl (w.heap.size + 1) _ _ _ _ elem_int a2 k c2 _ (own_drewN hown _) 1 1 [.int .i64 (X * D - W * W * nm)] rfl rfl rfl (by simp [Value.oneCell']) hq1 hq2 hq3 ?_; intro a3 c3 w4 hown4 hg4 hat4)
      refine ⟨⟨a3, c3, k + 1, by unfold exc; omega, by rw [Int.natCast_add, Int.add_assoc]; rfl, rfl, ?_, ?_, ?_⟩, by simp [intOf]; omega⟩
      · rw [List.range_succ, List.map_append, List.map_singleton, HQ.out, HE.out]; simpa [ints] using hown4
      · exact blk_apart hb (show wr.grownBy w4 _ from ⟨hg4.os, hg4.tape, hg4.output, hg4.size, hg4.block⟩) (fun b' hb' => (own_blk hown b' hb').1)
      · exact grown_own hg (show wr.grownBy w4 _ from ⟨hg4.os, hg4.tape, hg4.output, hg4.size, hg4.block⟩) (fun b' hb' => by have := (own_blk hown b' hb').1; omega)
    · have hk2 : k = exc p W := by unfold exc at *; omega
      have hlt' : (p.length : Int) < W + k + W := by omega
      have HL : Hid (exR p W D nm = (List.range k).map fun j => exn p W D nm (W + j)) := by show _ = _; rw [hk2]; rfl
      clear hk2
      go_wp2_with fail
      go_ret
      refine ⟨a2, c2, ?_, ?_, hg⟩
      · rw [HL.out]; simp
      · rw [HL.out]; simpa using own_base hown (Nat.le_succ _)

def EofRel (p : List Int) (W D : Nat) (st ls nm : Int) (w w2 : World) (a1 : Option Addr) (v5 v12 : Value) (wr : World) : Prop :=
  ∃ (a : Option Addr) (c k : Nat), k ≤ (exR p W D nm).length ∧ v12 = .int .i64 (k : Int) ∧ v5 = .slice a k c ∧
    wr.ownsRow w2.heap.size 28 2 (.slice a k c) k (prs ((List.range k).map fun j => exf p W D nm (W + j))) ∧ At wr a1 (ints (exR p W D nm)) ∧
    wr.heap[w.heap.size]? = some (.cells #[.int .i64 st, .int .i64 W, .int .i64 ls, .int .i64 nm, .int .i64 D] 30 (0, 0)) ∧ w2.grownBy wr none

set_option maxHeartbeats 2000000 in
theorem excessof_any (a : Option Addr) (n cap : Nat) (p : List Int) (st ls nm : Int) (W D : Nat) (w : World) (hn : n = p.length) (hcap : n ≤ cap) (hc2 : cap ≤ maxLen) (hm : n ≤ 5000) (ho : p.all okR = true) (h : At w a (ints p))
    (hW : 1 ≤ W ∧ W ≤ 100) (hD : 1 ≤ D ∧ D ≤ 1000) (hnm : 0 ≤ nm ∧ nm ≤ 10000) :
    Calls Try.prog 17 #[.slice a n cap, .agg #[.int .i64 st, .int .i64 W, .int .i64 ls, .int .i64 nm, .int .i64 D]] w fun e w' =>
      ∃ a' c', e = .returned (.slice a' (exL p W D nm).length c') ∧ w'.ownsRow w.heap.size 28 2 (.slice a' (exL p W D nm).length c') (exL p W D nm).length (prs (exL p W D nm)) ∧ w.grownBy w' none := by
  have h0 := heap_alloc_new w (.cells #[.int .i64 st, .int .i64 W, .int .i64 ls, .int .i64 nm, .int .i64 D] 30)
  have HX := Lib.hid (excesses_any a n cap p st ls nm W D (w.alloc (.cells #[.int .i64 st, .int .i64 W, .int .i64 ls, .int .i64 nm, .int .i64 D] 30)) hn hcap hc2 hm ho (h.alloc _) hW hD hnm)
  have hlen : Hid ((exR p W D nm).length = exc p W) := by show _ = _; simp [exR]
  have hlen2 : Hid ((exL p W D nm).length = exc p W) := by show _ = _; simp [exL]
  have hexc : exc p W ≤ 5001 := by unfold exc; omega
  subst hn
  have hcc := cells5 h0
  have H0 := Lib.hid h0
  clear h0 h
  go_enter Try.func17, Try.ntmps17
  go_wp2_with fail
  refine HX.out.mono ?_
  clear HX hcc
  rintro e w2 ⟨a1, c1, rfl, hown1, hg2⟩
  have hb := (hg2.block _ (lt_of_block H0.out) (by simp)).trans H0.out
  have hg0 : w.grownBy w2 none := (World.grownBy_alloc w _ none).trans hg2
  have hat1 := own_at hown1
  have hlt1 : ∀ p, a1 = some p → p.block < w2.heap.size := fun p hp => (own_lt hown1 p hp).2
  have hb3 := lt_of_block hb
  have hl5 : (exR p W D nm).length ≤ 5001 := by rw [hlen.out]; exact hexc
  clear H0 hg2 hown1
  go_wp2_with fail
  go_loopw [5, 12] (EofRel p W D st ls nm w w2 a1) (fun _ i _ => (exR p W D nm).length - (intOf i).toNat)
  case atStart => exact ⟨none, 0, 0, by omega, by simp, rfl, World.ownsRow_nil _ _ _ _, hat1, hb, grown_refl _ _⟩
  case round =>
    clear hat1 hb
    obtain ⟨a2, c2, k, hk, rfl, rfl, hown, hat, hb, hg⟩ := hrel
    have hcc := cells5 hb
    by_cases hlt : k < (exR p W D nm).length
    · obtain ⟨b, off, rfl, hck⟩ := hat.int hlt
      have hk' : k < exc p W := by rw [← hlen.out]; exact hlt
      have HXk : Hid ((exR p W D nm).getD k 0 = exn p W D nm (W + k)) := by
        show _ = _; rw [hlen.out] at hlt; simp [exR, hlt]
      obtain ⟨hB1, hB2, hB3⟩ := exn_bd p ho W D nm (W + k) hW.2 hD.2 hnm (by omega) (by unfold exc at hk'; omega)
      have HE : Hid (exf p W D nm (W + k) = low (exn p W D nm (W + k)) (W * D)) := rfl
      have hxb : -2100000000 ≤ exn p W D nm (W + k) ∧ exn p W D nm (W + k) ≤ 2100000000 := by unfold exn; omega
      have hWD : (1 : Int) ≤ (W : Int) * D ∧ (W : Int) * D ≤ 100000 := by
        have := mul_bd (W : Int) D 100 1000 (by omega) (by omega) (by omega)
        have h2 : (1 : Int) * 1 ≤ (W : Int) * D := Int.mul_le_mul (by omega) (by omega) (by omega) (by omega)
        omega
      rw [HXk.out] at hck
      clear hB1 hB2 hB3 HXk
      generalize exn p W D nm (W + k) = X at *
      obtain ⟨q, HQ⟩ : ∃ q, Hid (exf p W D nm (W + k) = q) := ⟨_, rfl⟩
      rw [HQ.out] at HE
      go_wp2_with fail
      refine (rlowest_any X (W * D) _ _ (by rw [Int.natCast_mul]) (by omega) (by omega) (by have := Int.natCast_mul W D; omega) (by have := Int.natCast_mul W D; omega)).mono ?_
      rw [← HE.out]
      rintro e w3 ⟨rfl, hg3⟩
      replace hown := own_kept hown hg3 (by simp)
      replace hb := (hg3.block _ (lt_of_block hb) (by simp)).trans hb
      replace hat := hat.grown hg3 (by simp)
      replace hg := hg.trans hg3
      clear hg3 hcc hck
      have hq1 : (k + 1) * 16 ≤ 140737488355328 := by omega
      have hq2 : k + 1 ≤ maxLen := by unfold maxLen; omega
      have hq3 : w2.heap.size ≤ w3.heap.size := hg.size
      go_wp2_with (at_builtin; refine wpList_push rfl _ _ _ rfl w2.heap.size _ _ _ _ elem_frac a2 k c2 _ hown 1 1 [.int .i64 q.1, .int .i64 q.2] rfl rfl rfl (by simp [Value.oneCell']) hq1 hq2 hq3 ?_; intro a3 c3 w4 hown4 hg4 hat4)
      refine ⟨⟨a3, c3, k + 1, by omega, by go_num, rfl, ?_, hat.apart hg4 hlt1 (fun b' hb' => (own_blk hown b' hb').1), blk_apart hb hg4 (fun b' hb' => Nat.lt_of_lt_of_le hb3 (own_blk hown b' hb').1), grown_own hg hg4 (fun b' hb' => (own_blk hown b' hb').1)⟩, by simp [intOf]; omega⟩
      rw [List.range_succ, List.map_append, List.map_singleton, prs_snoc, HQ.out]; exact hown4
    · have hk2 : k = exc p W := by rw [← hlen.out]; omega
      have HL : Hid (exL p W D nm = (List.range k).map fun j => exf p W D nm (W + j)) := by show _ = _; rw [hk2]; rfl
      clear hk2
      go_wp2_with fail
      go_ret
      refine ⟨a2, c2, ?_, ?_, hg0.trans hg⟩
      · rw [HL.out]; simp
      · rw [HL.out]; simpa using own_base hown hg0.size

set_option maxHeartbeats 800000 in
theorem Excess_bad (a : Option Addr) (n cap : Nat) (p : List Int) (st wd ls nm dn : Int) (w : World) (hn : n = p.length) (hm : n ≤ maxLen) (h : At w a (ints p)) (hb : nm ≤ 9223372036854775807 ∧ dn ≤ 9223372036854775807) (hf : faultOf p st wd ls nm dn ≠ 0) :
    Calls Try.prog 10 #[.slice a n cap, .agg #[.int .i64 st, .int .i64 wd, .int .i64 ls, .int .i64 nm, .int .i64 dn]] w fun e w' => e = .returned (.tuple #[.slice none 0 0, .int .i64 (faultOf p st wd ls nm dn)]) ∧ w.grownBy w' none := by
  have hcc := cells5 (heap_alloc_new w (.cells #[.int .i64 st, .int .i64 wd, .int .i64 ls, .int .i64 nm, .int .i64 dn] 30))
  have HX := Lib.hid (fault_any a n cap p st wd ls nm dn (w.alloc (.cells #[.int .i64 st, .int .i64 wd, .int .i64 ls, .int .i64 nm, .int .i64 dn] 30)) hn hm (h.alloc _) hb)
  generalize faultOf p st wd ls nm dn = f at *
  have hf' : (f != 0) = true := by simpa using hf
  clear hf h hn
  go_enter Try.func10, Try.ntmps10
  go_wp2_with fail
  refine HX.out.mono ?_
  clear HX hcc
  rintro e w2 ⟨rfl, hg⟩
  go_wp2_with fail
  go_ret2
  exact ⟨rfl, (World.grownBy_alloc w _ none).trans hg⟩

set_option maxHeartbeats 800000 in
theorem Excess_good (a : Option Addr) (n cap : Nat) (p : List Int) (st ls nm : Int) (W D : Nat) (w : World) (hn : n = p.length) (hcap : n ≤ cap) (hc2 : cap ≤ maxLen) (hm : n ≤ 5000) (ho : p.all okR = true) (h : At w a (ints p))
    (hW : 1 ≤ W ∧ W ≤ 100) (hD : 1 ≤ D ∧ D ≤ 1000) (hnm : 0 ≤ nm ∧ nm ≤ 10000) (hf : faultOf p st W ls nm D = 0) :
    Calls Try.prog 10 #[.slice a n cap, .agg #[.int .i64 st, .int .i64 W, .int .i64 ls, .int .i64 nm, .int .i64 D]] w fun e w' =>
      ∃ a' c', e = .returned (.tuple #[.slice a' (exL p W D nm).length c', .int .i64 0]) ∧ w'.ownsRow w.heap.size 28 2 (.slice a' (exL p W D nm).length c') (exL p W D nm).length (prs (exL p W D nm)) ∧ w.grownBy w' none := by
  have h0 := heap_alloc_new w (.cells #[.int .i64 st, .int .i64 W, .int .i64 ls, .int .i64 nm, .int .i64 D] 30)
  have hcc := cells5 h0
  have HX := Lib.hid (fault_any a n cap p st W ls nm D (w.alloc (.cells #[.int .i64 st, .int .i64 W, .int .i64 ls, .int .i64 nm, .int .i64 D] 30)) hn (by unfold maxLen at *; omega) (h.alloc _) (by omega))
  rw [hf] at HX
  have H0 := Lib.hid h0
  clear h0
  subst hn
  go_enter Try.func10, Try.ntmps10
  go_wp2_with fail
  refine HX.out.mono ?_
  clear HX hcc
  rintro e w2 ⟨rfl, hg⟩
  have hb := (hg.block _ (lt_of_block H0.out) (by simp)).trans H0.out
  have hg0 : w.grownBy w2 none := (World.grownBy_alloc w _ none).trans hg
  have hcc := cells5 hb
  clear H0 hg hb
  go_wp2_with fail
  refine (excess_any a _ cap p st ls nm W D _ rfl hcap hc2 hm ho (h.grown hg0 (by simp)) hW hD hnm).mono ?_
  rintro e w3 ⟨a', c', rfl, hown, hg3⟩
  clear hcc
  go_wp2_with fail
  go_ret2
  exact ⟨a', c', rfl, own_base hown hg0.size, hg0.trans hg3⟩
end Go.Proofs.Ytfocpjjcllpfbaa
