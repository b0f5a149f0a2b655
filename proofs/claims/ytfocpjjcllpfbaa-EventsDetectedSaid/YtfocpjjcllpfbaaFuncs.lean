/- Walks: slices.IndexFunc and ContainsFunc of numbers, over whatever function that only reads. -/
import Derived.Test.YtfocpjjcllpfbaaBase2
namespace Go.Proofs.Ytfocpjjcllpfbaa
open Go.RowKit

/-- the first index from k on at which p holds; -1 -/
def idxFrom (p : Int → Bool) : Nat → List Int → Int
  | _, [] => -1
  | k, x :: r => if p x then k else idxFrom p (k + 1) r
theorem idxFrom_neg (p : Int → Bool) : ∀ (xs : List Int) (k : Nat), (0 ≤ idxFrom p k xs) = (xs.any p = true)
  | [], k => by simp [idxFrom]
  | x :: r, k => by
    by_cases h : p x = true
    · simp [idxFrom, h]
    · have := idxFrom_neg p r (k + 1)
      simp [idxFrom, h, this]
theorem idxFrom_step (p : Int → Bool) (xs : List Int) (k : Nat) (h : k < xs.length) : idxFrom p k (xs.drop k) = if p (xs.getD k 0) then (k : Int) else idxFrom p (k + 1) (xs.drop (k + 1)) := by
  rw [List.drop_eq_getElem_cons h]; simp [idxFrom, h]

/-- a call of function k is entered -/
def Enters (P : Program) (k : Nat) : Prop := ∀ (args : Array Value) (w : World), (callFunc k args).run P w = .ok (.enter k args) w

theorem enters_fn {P : Program} {k : Nat} {fn : Func} (hf : P.funcs[k]? = some fn) (hn : (fn.name == "runtime.NumGoroutine") = false) (hb : fn.body.isNone = false) : Enters P k := by
  intro args w
  have hn' : ¬ fn.name = "runtime.NumGoroutine" := by simpa using hn
  have hb' : ¬ fn.body = none := by intro h; simp [h] at hb
  simp [callFunc, hf, hn', hb']

/-- a predicate as a function value: it only reads -/
def Pred1 (P : Program) (k : Nat) (caps : Array Value) (p : Int → Bool) (xs : List Int) (w : World) : Prop :=
  ∀ x, x ∈ xs → ∀ n, Calls P k (#[.int .i64 x] ++ caps) (w.drewN n) fun e w' => e = .returned (.bool (p x)) ∧ ∃ m, w' = w.drewN m

def IdxRel (p : Int → Bool) (xs : List Int) (w : World) (i : Value) (wr : World) : Prop :=
  ∃ k n : Nat, k ≤ xs.length ∧ Hid (idxFrom p k (xs.drop k) = idxFrom p 0 xs) ∧ i = .int .i64 k ∧ Hid (wr = w.drewN n)

set_option maxHeartbeats 800000 in
theorem indexInt_any (k : Nat) (caps : Array Value) (p : Int → Bool) (a : Option Addr) (n cap : Nat) (xs : List Int) (w : World) (hE : Enters Try.prog k) (hp : Pred1 Try.prog k caps p xs w)
    (hn : n = xs.length) (hm : n ≤ maxLen) (h : At w a (ints xs)) :
    Calls Try.prog 69 #[.slice a n cap, .func (.func k) #[] caps] w fun e w' => e = .returned (.int .i64 (idxFrom p 0 xs)) ∧ ∃ m, w' = w.drewN m := by
  subst hn
  unfold maxLen at hm
  have HP := Lib.hid hp
  unfold Enters at hE
  clear hp
  go_enter Try.func69, Try.ntmps69
  go_wp2
  go_loopw [8] (IdxRel p xs w) (fun i _ => xs.length - (intOf i).toNat)
  case atStart => exact ⟨0, 0, Nat.zero_le _, by exact Lib.hid rfl, rfl, rfl⟩
  case round =>
    obtain ⟨i, q, hk, hf, rfl, hwr⟩ := hrel
    by_cases hlt : i < xs.length
    · obtain ⟨b, off, rfl, hck⟩ := h.int hlt
      have HS := Lib.hid (idxFrom_step p xs i hlt)
      have HC := Lib.hid (HP.out (xs.getD i 0) (by simp [hlt]) q)
      rw [← hwr.out] at HC
      have hck' : wr.cell? ⟨b, off + i, none⟩ = some (.int .i64 (xs.getD i 0)) := by rw [hwr.out]; exact hck
      clear hck
      generalize xs.getD i 0 = x at hck' HS HC
      by_cases hpx : p x = true
      · go_wp2_with fail
        refine HC.out.mono ?_
        clear HC
        rintro e w1 ⟨rfl, m, hw1⟩
        have HW := Lib.hid hw1
        clear hw1 HP
        go_wp2_with fail
        go_ret
        exact ⟨ret_int (by have := HS.out; rw [if_pos hpx, hf.out] at this; exact this.symm), m, HW.out⟩
      · have hpx' : p x = false := by simpa using hpx
        clear hpx
        go_wp2_with fail
        refine HC.out.mono ?_
        clear HC
        rintro e w1 ⟨rfl, m, hw1⟩
        have HW := Lib.hid hw1
        clear hw1
        go_wp2_with fail
        go_roundw
        case rel => exact ⟨i + 1, m, by omega, (by have := HS.out; rw [hpx', hf.out] at this; simp at this; exact this.symm), by go_num, HW⟩
        case measure => simp [intOf]; omega
    · go_wp2
      go_ret
      exact ⟨ret_int (by rw [← hf.out, List.drop_of_length_le (by omega)]; rfl), q, hwr.out⟩

set_option maxHeartbeats 400000 in
theorem containsInt_any (k : Nat) (caps : Array Value) (p : Int → Bool) (a : Option Addr) (n cap : Nat) (xs : List Int) (w : World) (hE : Enters Try.prog k) (hp : Pred1 Try.prog k caps p xs w)
    (hn : n = xs.length) (hm : n ≤ maxLen) (h : At w a (ints xs)) :
    Calls Try.prog 44 #[.slice a n cap, .func (.func k) #[] caps] w fun e w' => e = .returned (.bool (xs.any p)) ∧ ∃ m, w' = w.drewN m := by
  have HI := Lib.hid (indexInt_any k caps p a n cap xs w hE hp hn hm h)
  have HN := Lib.hid (idxFrom_neg p xs 0)
  clear hE hp h hn
  generalize idxFrom p 0 xs = i at *
  go_enter Try.func44, Try.ntmps44
  go_wp2_with fail
  refine (HI.out).mono ?_
  rintro e w1 ⟨rfl, m, rfl⟩
  go_wp2_with fail
  go_ret
  exact ⟨ret_bool (by rw [Bool.eq_iff_iff, ← HN.out]; simp), m, rfl⟩
end Go.Proofs.Ytfocpjjcllpfbaa
