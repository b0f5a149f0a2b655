/- Walks: where a trace ends (package trace, and the reference). -/
import Derived.Test.YtfocpjjcllpfbaaTrC
namespace Go.Proofs.Ytfocpjjcllpfbaa
open Go.RowKit

/-- the first index from which on no sample is above the floor -/
def lastIdx (fl : Int) : List Int → Nat
  | [] => 0
  | x :: r => if (x :: r).all (fun y => decide (y ≤ fl)) then 0 else lastIdx fl r + 1
theorem lastIdx_le (fl : Int) : ∀ p : List Int, lastIdx fl p ≤ p.length
  | [] => Nat.le_refl _
  | x :: r => by unfold lastIdx; split; exact Nat.zero_le _; have := lastIdx_le fl r; simp; exact this
theorem lastIdx_all (fl : Int) : ∀ p : List Int, (p.drop (lastIdx fl p)).all (fun y => decide (y ≤ fl)) = true
  | [] => rfl
  | x :: r => by unfold lastIdx; split; assumption; exact lastIdx_all fl r
theorem lastIdx_lt (fl : Int) : ∀ (p : List Int) (i : Nat), i < lastIdx fl p → (p.drop i).all (fun y => decide (y ≤ fl)) = false
  | [], i, h => by simp [lastIdx] at h
  | x :: r, i, h => by
    unfold lastIdx at h
    split at h
    · omega
    · rename_i hn
      cases i with
      | zero => simpa using hn
      | succ i => exact lastIdx_lt fl r i (by omega)
theorem all_drop_mono {fl : Int} {p : List Int} {i j : Nat} (hij : i ≤ j) (h : (p.drop i).all (fun y => decide (y ≤ fl)) = true) : (p.drop j).all (fun y => decide (y ≤ fl)) = true := by
  rw [List.all_eq_true] at *
  intro y hy
  have : p.drop j = (p.drop i).drop (j - i) := by rw [List.drop_drop]; congr 1; omega
  rw [this] at hy
  exact h y (List.mem_of_mem_drop hy)
theorem lastIdx_eq (fl : Int) (p : List Int) (i : Nat) (hi : i ≤ p.length) (h1 : (p.drop i).all (fun y => decide (y ≤ fl)) = true) (h2 : i = 0 ∨ fl < p.getD (i - 1) 0) : lastIdx fl p = i := by
  rcases Nat.lt_trichotomy (lastIdx fl p) i with h | h | h
  · exfalso
    rcases h2 with h2 | h2
    · omega
    · have h3 := all_drop_mono (show lastIdx fl p ≤ i - 1 by omega) (lastIdx_all fl p)
      rw [List.drop_eq_getElem_cons (by omega)] at h3
      simp only [List.all_cons, Bool.and_eq_true, decide_eq_true_eq] at h3
      have h4 : p.getD (i - 1) 0 = p[i - 1]'(by omega) := by simp [show i - 1 < p.length by omega]
      omega
  · exact h
  · have := lastIdx_lt fl p i h
    rw [h1] at this; cases this
theorem drop_all_step (fl : Int) (p : List Int) (i : Nat) (hi : i < p.length) (h1 : (p.drop (i + 1)).all (fun y => decide (y ≤ fl)) = true) (h2 : p.getD i 0 ≤ fl) : (p.drop i).all (fun y => decide (y ≤ fl)) = true := by
  rw [List.drop_eq_getElem_cons hi]
  have h4 : p.getD i 0 = p[i] := by simp [hi]
  simp only [List.all_cons, h1, Bool.and_true, decide_eq_true_eq]
  omega

set_option maxHeartbeats 800000 in
theorem Last_bad (a : Option Addr) (n cap : Nat) (p : List Int) (fl st wd ls nm dn : Int) (w : World) (hn : n = p.length) (hm : n ≤ maxLen) (h : At w a (ints p)) (hb : nm ≤ 9223372036854775807 ∧ dn ≤ 9223372036854775807) (hf : faultOf p st wd ls nm dn ≠ 0) :
    Calls Try.prog 12 #[.slice a n cap, .int .i64 fl, .agg #[.int .i64 st, .int .i64 wd, .int .i64 ls, .int .i64 nm, .int .i64 dn]] w fun e w' => e = .returned (.tuple #[.int .i64 0, .bool false, .int .i64 (faultOf p st wd ls nm dn)]) ∧ w.grownBy w' none := by
  have hcc := cells5 (heap_alloc_new w (.cells #[.int .i64 st, .int .i64 wd, .int .i64 ls, .int .i64 nm, .int .i64 dn] 30))
  have HX := Lib.hid (fault_any a n cap p st wd ls nm dn (w.alloc (.cells #[.int .i64 st, .int .i64 wd, .int .i64 ls, .int .i64 nm, .int .i64 dn] 30)) hn hm (h.alloc _) hb)
  generalize faultOf p st wd ls nm dn = f at *
  have hf' : (f != 0) = true := by simpa using hf
  clear hf h hn
  go_enter Try.func12, Try.ntmps12
  go_wp2_with fail
  refine HX.out.mono ?_
  clear HX hcc
  rintro e w2 ⟨rfl, hg⟩
  go_wp2_with fail
  go_ret3
  exact ⟨rfl, (World.grownBy_alloc w _ none).trans hg⟩

set_option maxHeartbeats 800000 in
theorem Last_out (a : Option Addr) (n cap : Nat) (p : List Int) (fl st wd ls nm dn : Int) (w : World) (hn : n = p.length) (hm : n ≤ maxLen) (h : At w a (ints p)) (hb : nm ≤ 9223372036854775807 ∧ dn ≤ 9223372036854775807) (hf : faultOf p st wd ls nm dn = 0) (hfl : okR fl = false) :
    Calls Try.prog 12 #[.slice a n cap, .int .i64 fl, .agg #[.int .i64 st, .int .i64 wd, .int .i64 ls, .int .i64 nm, .int .i64 dn]] w fun e w' => e = .returned (.tuple #[.int .i64 0, .bool false, .int .i64 1]) ∧ w.grownBy w' none := by
  have hcc := cells5 (heap_alloc_new w (.cells #[.int .i64 st, .int .i64 wd, .int .i64 ls, .int .i64 nm, .int .i64 dn] 30))
  have HX := Lib.hid (fault_any a n cap p st wd ls nm dn (w.alloc (.cells #[.int .i64 st, .int .i64 wd, .int .i64 ls, .int .i64 nm, .int .i64 dn] 30)) hn hm (h.alloc _) hb)
  rw [hf] at HX
  clear hf h hn
  go_enter Try.func12, Try.ntmps12
  go_wp2_with fail
  refine HX.out.mono ?_
  clear HX hcc
  rintro e w2 ⟨rfl, hg⟩
  go_wp2_with fail
  refine (isreading_any _ _).mono ?_
  rintro e w3 ⟨rfl, rfl⟩
  go_wp2_with fail
  go_ret3
  exact ⟨rfl, (World.grownBy_alloc w _ none).trans hg⟩

def lastRes (p : List Int) (fl st : Int) : Value := if lastIdx fl p = p.length then .tuple #[.int .i64 0, .bool false, .int .i64 0] else .tuple #[.int .i64 ((lastIdx fl p : Int) * st), .bool true, .int .i64 0]

set_option maxHeartbeats 1000000 in
theorem Last_good (a : Option Addr) (n cap : Nat) (p : List Int) (fl st wd ls nm dn : Int) (w : World) (hn : n = p.length) (hm : n ≤ 5000) (h : At w a (ints p)) (hb : nm ≤ 9223372036854775807 ∧ dn ≤ 9223372036854775807) (hst : 1 ≤ st ∧ st ≤ 100) (hf : faultOf p st wd ls nm dn = 0) (hfl : okR fl = true) :
    Calls Try.prog 12 #[.slice a n cap, .int .i64 fl, .agg #[.int .i64 st, .int .i64 wd, .int .i64 ls, .int .i64 nm, .int .i64 dn]] w fun e w' => e = .returned (lastRes p fl st) ∧ w.grownBy w' none := by
  have h0 := heap_alloc_new w (.cells #[.int .i64 st, .int .i64 wd, .int .i64 ls, .int .i64 nm, .int .i64 dn] 30)
  have hcc := cells5 h0
  have HX := Lib.hid (fault_any a n cap p st wd ls nm dn (w.alloc (.cells #[.int .i64 st, .int .i64 wd, .int .i64 ls, .int .i64 nm, .int .i64 dn] 30)) hn (by unfold maxLen; omega) (h.alloc _) hb)
  rw [hf] at HX
  have H0 := Lib.hid h0
  clear hf h0
  subst hn
  go_enter Try.func12, Try.ntmps12
  go_wp2_with fail
  refine HX.out.mono ?_
  clear HX hcc
  rintro e w2 ⟨rfl, hg⟩
  have hcc := cells5 ((hg.block _ (lt_of_block H0.out) (by simp)).trans H0.out)
  have hg0 : w.grownBy w2 none := (World.grownBy_alloc w _ none).trans hg
  have hat := h.grown hg0 (by simp)
  clear H0 h hg
  go_wp2_with fail
  refine (isreading_any _ _).mono ?_
  rintro e w3 ⟨rfl, rfl⟩
  go_wp2_with fail
  go_loop [10] (fun i => ∃ k : Nat, k ≤ p.length ∧ Hid ((p.drop k).all (fun y => decide (y ≤ fl)) = true) ∧ i = .int .i64 k) (fun i => (intOf i).toNat)
  case atStart => exact ⟨p.length, Nat.le_refl _, by show _ = _; simp, rfl⟩
  case round =>
    obtain ⟨k, hk, hall, rfl⟩ := hrel
    by_cases hz : k = 0
    · subst hz
      have HL : Hid (lastIdx fl p = 0) := lastIdx_eq fl p 0 (Nat.zero_le _) hall.out (.inl rfl)
      by_cases hp : p.length = 0
      · have HR : Hid (lastRes p fl st = .tuple #[.int .i64 0, .bool false, .int .i64 0]) := by show _ = _; rw [lastRes, HL.out, if_pos hp.symm]
        go_wp2_with fail
        go_ret3
        exact ⟨congrArg Ending.returned HR.out.symm, hg0⟩
      · have hp' : ((0 : Int) == (p.length : Int)) = false := by simp; omega
        have HR : Hid (lastRes p fl st = .tuple #[.int .i64 0, .bool true, .int .i64 0]) := by show _ = _; rw [lastRes, HL.out, if_neg (by omega)]; simp
        clear hp
        go_wp2_with fail
        go_ret3
        exact ⟨congrArg Ending.returned HR.out.symm, hg0⟩
    · obtain ⟨j, rfl⟩ : ∃ j, k = j + 1 := ⟨k - 1, by omega⟩
      obtain ⟨b, off, rfl, hck⟩ := hat.int (k := j) (by omega)
      have HS := Lib.hid (drop_all_step fl p j (by omega) hall.out)
      have HE := Lib.hid (lastIdx_eq fl p (j + 1) hk hall.out)
      simp only [Nat.add_sub_cancel] at HE
      generalize p.getD j 0 = x at hck HS HE
      clear hz
      by_cases hx : x ≤ fl
      · go_wp2_with fail
        go_round
        case rel => exact ⟨j, by omega, HS.out hx, by go_num⟩
        case measure => simp [intOf]
      · have HL : Hid (lastIdx fl p = j + 1) := HE.out (.inr (by omega))
        by_cases hp : j + 1 = p.length
        · have HR : Hid (lastRes p fl st = .tuple #[.int .i64 0, .bool false, .int .i64 0]) := by show _ = _; rw [lastRes, HL.out, if_pos hp]
          have hp' : ((j : Int) + 1 == (p.length : Int)) = true := by simp; omega
          clear hp
          go_wp2_with fail
          go_ret3
          exact ⟨congrArg Ending.returned HR.out.symm, hg0⟩
        · have hp' : ((j : Int) + 1 == (p.length : Int)) = false := by simp; omega
          have HR : Hid (lastRes p fl st = .tuple #[.int .i64 (((j : Int) + 1) * st), .bool true, .int .i64 0]) := by show _ = _; rw [lastRes, HL.out, if_neg hp]; simp
          have hmb := mul_bd ((j : Int) + 1) st 5000 100 (by omega) (by omega) (by omega)
          clear hp
          go_wp2_with fail
          go_ret3
          exact ⟨congrArg Ending.returned HR.out.symm, hg0⟩

set_option maxHeartbeats 400000 in
theorem lastof1_any (x fl : Int) (b : Nat) (w : World) (hb : w.cell? ⟨b, 0, none⟩ = some (.int .i64 fl)) : Calls Try.prog 52 #[.int .i64 x, .pointer (some ⟨b, 0, none⟩)] w fun e w' => e = .returned (.bool (decide (fl < x))) ∧ w = w' := by
  go_enter Try.func52, Try.ntmps52
  go_wp2
  go_ret
  exact ⟨rfl, rfl⟩

def lastRes2 (p : List Int) (fl st : Int) : Value := if lastIdx fl p = p.length then .tuple #[.int .i64 0, .bool false] else .tuple #[.int .i64 ((lastIdx fl p : Int) * st), .bool true]

def LoRel (p : List Int) (fl : Int) (w : World) (v11 : Value) (wr : World) : Prop :=
  ∃ k m : Nat, k ≤ p.length ∧ k ≤ lastIdx fl p ∧ v11 = .int .i64 k ∧ Hid (wr = w.drewN m)

set_option maxHeartbeats 1000000 in
theorem LastOf_any (a : Option Addr) (n cap : Nat) (p : List Int) (fl st wd ls nm dn : Int) (w : World) (hn : n = p.length) (hcap : n ≤ cap) (hc2 : cap ≤ maxLen) (hm : n ≤ 5000) (h : At w a (ints p)) (hst : 1 ≤ st ∧ st ≤ 100) :
    Calls Try.prog 19 #[.slice a n cap, .int .i64 fl, .agg #[.int .i64 st, .int .i64 wd, .int .i64 ls, .int .i64 nm, .int .i64 dn]] w fun e w' => e = .returned (lastRes2 p fl st) ∧ w.grownBy w' none := by
  subst hn
  obtain ⟨W2, hW2⟩ : ∃ W2, W2 = (w.alloc (.cells #[.int .i64 fl] 3)).alloc (.cells #[.int .i64 st, .int .i64 wd, .int .i64 ls, .int .i64 nm, .int .i64 dn] 30) := ⟨_, rfl⟩
  have h1 : W2.heap[w.heap.size]? = some (.cells #[.int .i64 fl] 3 (0, 0)) := by rw [hW2]; exact (heap_alloc_old _ _ (by simp)).trans (heap_alloc_new w _)
  have h2 : W2.heap[w.heap.size + 1]? = some (.cells #[.int .i64 st, .int .i64 wd, .int .i64 ls, .int .i64 nm, .int .i64 dn] 30 (0, 0)) := by rw [hW2]; have := heap_alloc_new (w.alloc (.cells #[.int .i64 fl] 3)) (.cells #[.int .i64 st, .int .i64 wd, .int .i64 ls, .int .i64 nm, .int .i64 dn] 30); simpa using this
  have hg0 : w.grownBy W2 none := by rw [hW2]; exact grown_alloc_r (World.grownBy_alloc w _ none) _
  have hat := h.grown hg0 (by simp)
  have hfl := cells1 h1
  have hcc := cells5 h2
  clear h1 h2 h
  have HW := Lib.hid hW2
  clear hW2
  have HC : Hid (∀ (m b off lo c' : Nat), a = some ⟨b, off, none⟩ → lo ≤ p.length → Calls Try.prog 44 #[.slice (some ⟨b, off + lo, none⟩) (p.length - lo) c', .func (.func 52) #[] #[.pointer (some ⟨w.heap.size, 0, none⟩)]] (W2.drewN m) fun e w' => e = .returned (.bool (!(p.drop lo).all (fun y => decide (y ≤ fl)))) ∧ ∃ q, w' = W2.drewN q) := by
    intro m b off lo c' ha hlo
    subst ha
    have := containsInt_any 52 #[.pointer (some ⟨w.heap.size, 0, none⟩)] (fun x => decide (fl < x)) (some ⟨b, off + lo, none⟩) (p.length - lo) c' (p.drop lo) (W2.drewN m) (enters_fn Try.func52 (by kernel_rfl) (by kernel_rfl)) (fun x _ q => (lastof1_any x fl w.heap.size ((W2.drewN m).drewN q) hfl).mono fun e w' ⟨h1, h2⟩ => ⟨h1, q, h2.symm⟩) (by simp) (by unfold maxLen; omega) (by
      have := (hat.drewN m).sub lo (p.length - lo)
      rw [ints_win, win, List.take_of_length_le (by simp)] at this
      exact this)
    refine this.mono ?_
    rintro e w' ⟨rfl, q, rfl⟩
    refine ⟨?_, m + q, drewN_add _ _ _⟩
    rw [show ((p.drop lo).any fun x => decide (fl < x)) = !(p.drop lo).all (fun y => decide (y ≤ fl)) from ?_]
    rw [List.all_eq_not_any_not, Bool.not_not]
    congr 1; funext x; rw [Bool.eq_iff_iff]; simp
  go_enter Try.func19, Try.ntmps19
  go_wp2_with fail
  rw [show ((w.alloc (.cells #[.int .i64 fl] 3)).alloc (.cells #[.int .i64 st, .int .i64 wd, .int .i64 ls, .int .i64 nm, .int .i64 dn] 30)) = W2 from HW.out.symm]
  clear HW
  go_loopw [11] (LoRel p fl W2) (fun i _ => p.length - (intOf i).toNat)
  case atStart => exact ⟨0, 0, Nat.zero_le _, Nat.zero_le _, rfl, rfl⟩
  case round =>
    obtain ⟨k, m, hk, hkl, rfl, hwr⟩ := hrel
    have hll := lastIdx_le fl p
    by_cases hlt : k < p.length
    · obtain ⟨b, off, rfl⟩ := hat.addr (by rw [length_ints]; omega)
      have HCk := Lib.hid (HC.out m b off k (cap - k) rfl hk)
      rw [← hwr.out] at HCk
      have hcc' : wr.cell? ⟨w.heap.size + 1, 0, none⟩ = some (.int .i64 st) := by rw [hwr.out]; exact hcc.1
      by_cases hz : k < lastIdx fl p
      · have HF := lastIdx_lt fl p k hz
        rw [HF] at HCk
        clear HF
        go_wp2_with fail
        refine HCk.out.mono ?_
        clear HCk HC hat
        rintro e w3 ⟨rfl, q, hw3⟩
        have HW3 := Lib.hid hw3
        clear hw3
        go_wp2_with fail
        go_roundw
        case rel => exact ⟨k + 1, q, by omega, by omega, by go_num, HW3⟩
        case measure => simp [intOf]; omega
      · have HL : Hid (lastIdx fl p = k) := by show _ = _; omega
        have HF := lastIdx_all fl p
        rw [HL.out] at HF
        rw [HF] at HCk
        clear HF
        have HR : Hid (lastRes2 p fl st = .tuple #[.int .i64 ((k : Int) * st), .bool true]) := by show _ = _; rw [lastRes2, HL.out, if_neg (by omega)]
        have hmb := mul_bd (k : Int) st 5000 100 (by omega) (by omega) (by omega)
        go_wp2_with fail
        refine HCk.out.mono ?_
        clear HCk HC hat
        rintro e w3 ⟨rfl, q, hw3⟩
        have hcc3 : w3.cell? ⟨w.heap.size + 1, 0, none⟩ = some (.int .i64 st) := by rw [hw3]; exact hcc.1
        have HW3 := Lib.hid hw3
        clear hw3
        go_wp2_with fail
        go_ret2
        exact ⟨congrArg Ending.returned HR.out.symm, by rw [HW3.out]; exact grown_drewN hg0 _⟩
    · have HR : Hid (lastRes2 p fl st = .tuple #[.int .i64 0, .bool false]) := by show _ = _; rw [lastRes2, if_pos (by omega)]
      clear HC
      go_wp2_with fail
      go_ret2
      exact ⟨congrArg Ending.returned HR.out.symm, by rw [hwr.out]; exact grown_drewN hg0 _⟩
end Go.Proofs.Ytfocpjjcllpfbaa
