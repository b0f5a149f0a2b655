/- Parts of the proof, in order. -/
import Derived.Test.YtlifcpcfhkpejaaGreatRows
import Derived.Test.YtlifcpcfhkpejaaGreatLib
import Derived.Lib.Mul64
import Derived.Laws.Bits64b
import Derived.StillTailTactics
import Derived.Deep.RegionHeld3
import Derived.Test.YtlifcpcfhkpejaaGreatRegion
import Derived.Test.YtlifcpcfhkpejaaGreatStep
import Derived.Test.YtlifcpcfhkpejaaGreatLib2
import Derived.BigRegion
import Derived.BigGuardPart
import Derived.Test.YtlifcpcfhkpejaaGreatGrid

/- Walks of package base, and of the small functions of the reference that say the same. -/
namespace Go.Proofs.YtlifcpcfhkpejaaGreat.Hd
set_option linter.unusedVariables false
set_option linter.unusedSimpArgs false
open Go.RowKit

/-- n is from lo to hi -/
def inB (n lo hi : Int) : Bool := decide (lo ≤ n ∧ n ≤ hi)
theorem inB_true {n lo hi : Int} (h : lo ≤ n ∧ n ≤ hi) : inB n lo hi = true := decide_eq_true h
theorem inB_false {n lo hi : Int} (h : ¬ (lo ≤ n ∧ n ≤ hi)) : inB n lo hi = false := decide_eq_false h
theorem of_inB {n lo hi : Int} (h : inB n lo hi = true) : lo ≤ n ∧ n ≤ hi := of_decide_eq_true h

set_option maxHeartbeats 400000 in
theorem out_any (n lo hi : Int) (w : World) : Calls Tryz.prog 44 #[.int .i64 n, .int .i64 lo, .int .i64 hi] w fun e w' => e = .returned (.bool (!inB n lo hi)) ∧ w = w' := by
  by_cases h1 : n < lo
  · have H := Lib.hid (inB_false (n := n) (lo := lo) (hi := hi) (by omega))
    go_enter Tryz.func44, Tryz.ntmps44
    go_wp2
    go_ret
    exact ⟨ret_bool (by rw [H.out]; rfl), rfl⟩
  · by_cases h2 : hi < n
    · have H := Lib.hid (inB_false (n := n) (lo := lo) (hi := hi) (by omega))
      go_enter Tryz.func44, Tryz.ntmps44
      go_wp2
      go_ret
      exact ⟨ret_bool (by rw [H.out]; simp [h2]), rfl⟩
    · have H := Lib.hid (inB_true (n := n) (lo := lo) (hi := hi) (by omega))
      go_enter Tryz.func44, Tryz.ntmps44
      go_wp2
      go_ret
      exact ⟨ret_bool (by rw [H.out]; simp [h2]), rfl⟩

set_option maxHeartbeats 400000 in
theorem in_any (n lo hi : Int) (w : World) : Calls Tryz.prog 29 #[.int .i64 n, .int .i64 lo, .int .i64 hi] w fun e w' => e = .returned (.bool (inB n lo hi)) ∧ w = w' := by
  by_cases h1 : lo ≤ n
  · by_cases h2 : n ≤ hi
    · have H := Lib.hid (inB_true (n := n) (lo := lo) (hi := hi) (by omega))
      go_enter Tryz.func29, Tryz.ntmps29
      go_wp2
      go_ret
      exact ⟨ret_bool (by rw [H.out]), rfl⟩
    · have H := Lib.hid (inB_false (n := n) (lo := lo) (hi := hi) (by omega))
      go_enter Tryz.func29, Tryz.ntmps29
      go_wp2
      go_ret
      exact ⟨ret_bool (by rw [H.out]), rfl⟩
  · have H := Lib.hid (inB_false (n := n) (lo := lo) (hi := hi) (by omega))
    go_enter Tryz.func29, Tryz.ntmps29
    go_wp2
    go_ret
    exact ⟨ret_bool (by rw [H.out]), rfl⟩

/-! greatest common divisors -/
/-! the reference's -/
/-! rounding down -/
end Go.Proofs.YtlifcpcfhkpejaaGreat.Hd

/- Walks of package base: comparisons, the first error, lowest terms. -/
namespace Go.Proofs.YtlifcpcfhkpejaaGreat.Hd
set_option linter.unusedVariables false
set_option linter.unusedSimpArgs false
open Go.RowKit

/-! the first error -/
def firstErr : List Int → Int
  | [] => 0
  | x :: r => if x = 0 then firstErr r else x
theorem firstErr_drop (xs : List Int) (k : Nat) (h : k < xs.length) : firstErr (xs.drop k) = if xs.getD k 0 = 0 then firstErr (xs.drop (k + 1)) else xs.getD k 0 := by
  rw [List.drop_eq_getElem_cons h]; simp [firstErr, h]

set_option maxHeartbeats 400000 in
theorem first_any (a : Option Addr) (n cap : Nat) (xs : List Int) (w : World) (hn : n = xs.length) (hm : n ≤ maxLen) (h : At w a (ints xs)) :
    Calls Tryz.prog 52 #[.slice a n cap] w fun e w' => e = .returned (.int .i64 (firstErr xs)) ∧ w = w' := by
  subst hn
  unfold maxLen at hm
  go_enter Tryz.func52, Tryz.ntmps52
  go_wp2
  go_loop [7] (fun i => ∃ k : Nat, k ≤ xs.length ∧ Hid (firstErr (xs.drop k) = firstErr xs) ∧ i = .int .i64 k) (fun i => xs.length - (intOf i).toNat)
  case atStart => exact ⟨0, Nat.zero_le _, by exact Lib.hid rfl, rfl⟩
  case round =>
    obtain ⟨k, hk, hf, rfl⟩ := hrel
    by_cases hlt : k < xs.length
    · obtain ⟨b, off, rfl, hck⟩ := h.int hlt
      have HS := Lib.hid (firstErr_drop xs k hlt)
      generalize xs.getD k 0 = x at hck HS
      by_cases hx : x = 0
      · subst hx
        go_wp2
        go_round
        case rel => exact ⟨k + 1, by omega, (by have := HS.out; rw [if_pos rfl, hf.out] at this; exact this.symm), by go_num⟩
        case measure => simp [intOf]; omega
      · have hx2 : (x != 0) = true := by simp; exact hx
        go_wp2
        go_ret
        exact ⟨ret_int (by have := HS.out; rw [if_neg hx, hf.out] at this; exact this.symm), rfl⟩
    · go_wp2
      go_ret
      exact ⟨ret_int (by rw [← hf.out, List.drop_of_length_le (by omega)]; rfl), rfl⟩
theorem first_lit (xs : List Int) (w : World) (cs : Array Value) (n : Nat) (E : TypeId) (B : Nat) (hB : w.heap.size = B) (hcs : cs = (ints xs).toArray) (hn : n = xs.length) (h2 : n < 1000) :
    Calls Tryz.prog 52 #[.slice (some ⟨B, 0, none⟩) n n] (w.alloc (.cells cs E)) fun e w' => e = .returned (.int .i64 (firstErr xs)) ∧ w.alloc (.cells cs E) = w' := by
  subst hB
  exact first_any _ _ _ xs _ hn (by unfold maxLen; omega) (by subst hcs; exact At.lit _ _ _)

/-! comparisons -/
namespace M64
end M64

/-! lowest terms -/
/-! fractions -/
end Go.Proofs.YtlifcpcfhkpejaaGreat.Hd

/- Walks: rules and traces are looked at (package trace, and the reference). -/
namespace Go.Proofs.YtlifcpcfhkpejaaGreat.Hd
set_option linter.unusedVariables false
set_option linter.unusedSimpArgs false
open Go.RowKit

end Go.Proofs.YtlifcpcfhkpejaaGreat.Hd

/- Walks: slices.IndexFunc and ContainsFunc of numbers, over whatever function that only reads. -/
namespace Go.Proofs.YtlifcpcfhkpejaaGreat.Hd
set_option linter.unusedVariables false
set_option linter.unusedSimpArgs false
open Go.RowKit

end Go.Proofs.YtlifcpcfhkpejaaGreat.Hd

/- Walks: a trace is looked at (package trace, and the reference). -/
namespace Go.Proofs.YtlifcpcfhkpejaaGreat.Hd
set_option linter.unusedVariables false
set_option linter.unusedSimpArgs false
open Go.RowKit

def okR (n : Int) : Bool := inB n (-10000) 10000
set_option maxHeartbeats 400000 in
theorem isreading_any (n : Int) (w : World) : Calls Tryz.prog 26 #[.int .i64 n] w fun e w' => e = .returned (.bool (okR n)) ∧ w = w' := by
  go_enter Tryz.func26, Tryz.ntmps26
  go_wp2_with fail
  refine (out_any _ _ _ _).mono ?_
  rintro e w1 ⟨rfl, rfl⟩
  go_wp2_with fail
  go_ret
  exact ⟨ret_bool (by simp [okR]), rfl⟩

end Go.Proofs.YtlifcpcfhkpejaaGreat.Hd

/- The stream of numbers: its state, and the walks of its methods. -/
namespace Go.Proofs.YtlifcpcfhkpejaaGreat.Hd
set_option linter.unusedVariables false
set_option linter.unusedSimpArgs false
open Go.RowKit

/-- the stream lies in block s; at most K numbers have been taken -/
def Str (w : World) (s : Nat) (K : Nat) : Prop :=
  ∃ (aL : Option Addr) (cap : Nat) (L : List Int) (k : Int), w.heap[s]? = some (.cells #[.slice aL L.length cap, .int .i64 k] 25 (0, 0)) ∧
    L.length ≤ maxLen ∧ At w aL (ints L) ∧ (L ≠ [] → ∀ a, aL = some a → a.block < s) ∧ 0 ≤ k ∧ k ≤ K

theorem _root_.Go.Proofs.YtlifcpcfhkpejaaGreat.At.grownE {w w' : World} {a : Option Addr} {L : List Int} {x : Option Nat} (h : At w a (ints L)) (hg : w.grownBy w' x) (hx : L ≠ [] → ∀ p, a = some p → some p.block ≠ x) : At w' a (ints L) := by
  by_cases hL : L = []
  · exact .inl (by simp [hL, ints])
  · exact h.grown hg (hx hL)

theorem Str.drew {w : World} {s K : Nat} (h : Str w s K) : Str w.drew s K := h
theorem Str.drewN {w : World} {s K : Nat} (h : Str w s K) (n : Nat) : Str (w.drewN n) s K := h

theorem Str.grown {w w' : World} {s K : Nat} {x : Option Nat} (h : Str w s K) (hg : w.grownBy w' x) (hx : ∀ b, x = some b → s < b) : Str w' s K := by
  obtain ⟨aL, cap, L, k, hb, hL, hat, hne, hk0, hk1⟩ := h
  exact ⟨aL, cap, L, k, (hg.block s (lt_of_block hb) (fun e => by have := hx s e.symm; omega)).trans hb, hL, hat.grownE hg (fun hl p hp e => by have := hx _ e.symm; have := hne hl p hp; omega), hne, hk0, hk1⟩
theorem Str.quiet {w w' : World} {s K : Nat} (h : Str w s K) (hg : w.grownBy w' none) : Str w' s K := h.grown hg (by simp)
theorem Str.alloc {w : World} {s K : Nat} (h : Str w s K) (o : Obj) : Str (w.alloc o) s K := h.quiet (World.grownBy_alloc w o none)
theorem Str.mono {w : World} {s K K' : Nat} (h : Str w s K) (hk : K ≤ K') : Str w s K' := by
  obtain ⟨aL, cap, L, k, hb, hL, hat, hne, hk0, hk1⟩ := h
  exact ⟨aL, cap, L, k, hb, hL, hat, hne, hk0, by omega⟩
theorem Str.lt {w : World} {s K : Nat} (h : Str w s K) : s < w.heap.size := by
  obtain ⟨aL, cap, L, k, hb, _⟩ := h; exact lt_of_block hb

theorem Str.setCell {w : World} {s K : Nat} (h : Str w s K) {p : Addr} (hp : s < p.block) (v : Value) : Str (w.setCell p v) s K :=
  h.grown (x := some p.block) ⟨rfl, rfl, rfl, by simp, fun j _ hj => heap_setCell_other w p j _ (fun e => hj (by rw [e]))⟩ (by intro b hb; cases hb; exact hp)

end Go.Proofs.YtlifcpcfhkpejaaGreat.Hd

/- Walks: the excess of a trace (package trace, and the reference). -/
namespace Go.Proofs.YtlifcpcfhkpejaaGreat.Hd
set_option linter.unusedVariables false
set_option linter.unusedSimpArgs false
open Go.RowKit

/-! the excess -/
def prs (l : List (Int × Int)) : List Value := l.flatMap fun q => [.int .i64 q.1, .int .i64 q.2]
theorem prs_snoc (l : List (Int × Int)) (q : Int × Int) : prs (l ++ [q]) = prs l ++ [.int .i64 q.1, .int .i64 q.2] := by simp [prs]

end Go.Proofs.YtlifcpcfhkpejaaGreat.Hd

/- Plain law: the runs of an excess, and the best of each run. No program in sight. -/
namespace Go.Proofs.YtlifcpcfhkpejaaGreat.Hd
set_option linter.unusedVariables false
set_option linter.unusedSimpArgs false

section
variable (R : List Int) (T : Int)
/-! the machine of the program -/
end
end Go.Proofs.YtlifcpcfhkpejaaGreat.Hd

/- Walks: the events of a trace (package trace). -/
namespace Go.Proofs.YtlifcpcfhkpejaaGreat.Hd
set_option linter.unusedVariables false
set_option linter.unusedSimpArgs false
open Go.RowKit

theorem prs_get : ∀ (l : List (Int × Int)) (k : Nat), k < l.length → (prs l)[k * 2]? = some (.int .i64 (l.getD k (0, 0)).1) ∧ (prs l)[k * 2 + 1]? = some (.int .i64 (l.getD k (0, 0)).2)
  | [], k, h => by simp at h
  | q :: r, 0, _ => by simp [prs]
  | q :: r, k + 1, h => by
    have := prs_get r k (by simpa using h)
    have e : prs (q :: r) = .int .i64 q.1 :: .int .i64 q.2 :: prs r := rfl
    rw [e, show (k + 1) * 2 = k * 2 + 1 + 1 by omega]
    simpa using this
theorem prs_len (l : List (Int × Int)) : (prs l).length = l.length * 2 := by induction l with
  | nil => rfl
  | cons q r ih => have e : prs (q :: r) = .int .i64 q.1 :: .int .i64 q.2 :: prs r := rfl; rw [e]; simp [ih]; omega
theorem _root_.Go.Proofs.YtlifcpcfhkpejaaGreat.At.pair {w : World} {a : Option Addr} {l : List (Int × Int)} (h : At w a (prs l)) {k : Nat} (hk : k < l.length) :
    ∃ b off, a = some ⟨b, off, none⟩ ∧ w.cell? ⟨b, off + k * 2, none⟩ = some (.int .i64 (l.getD k (0, 0)).1) ∧ w.cell? ⟨b, off + k * 2 + 1, none⟩ = some (.int .i64 (l.getD k (0, 0)).2) := by
  have hl := prs_len l
  rcases h with h | ⟨b, off, ha, hc⟩
  · rw [h] at hl; simp at hl; omega
  · have h1 := hc (k * 2) (by omega)
    have h2 := hc (k * 2 + 1) (by omega)
    rw [(prs_get l k hk).1] at h1
    rw [(prs_get l k hk).2] at h2
    exact ⟨b, off, ha, h1, by rw [Nat.add_assoc]; exact h2⟩

/-- where the variables of Detected lie -/
structure DLay (W : World) (Br Ba Bb Bo base : Nat) (aF : Option Addr) : Prop where
  r : W.heap.size ≤ Br ∧ Br < base
  a : W.heap.size ≤ Ba ∧ Ba < base
  b : W.heap.size ≤ Bb ∧ Bb < base
  o : W.heap.size ≤ Bo ∧ Bo < base
  ra : Br ≠ Ba ∧ Br ≠ Bb ∧ Br ≠ Bo ∧ Ba ≠ Bb ∧ Ba ≠ Bo ∧ Bb ≠ Bo
  f : ∀ p, aF = some p → p.block < base ∧ p.block ≠ Bb ∧ p.block ≠ Bo

/-- what they hold -/
structure DSt (W : World) (Br Ba Bb Bo base : Nat) (aF : Option Addr) (cF : Nat) (F : List (Int × Int)) (st wd ls nm dn : Int) (evs : List (Int × Int)) (best : Int) (w : World) : Prop where
  r : w.heap[Br]? = some (.cells #[.int .i64 st, .int .i64 wd, .int .i64 ls, .int .i64 nm, .int .i64 dn] 32 (0, 0))
  a : w.heap[Ba]? = some (.cells #[.slice aF F.length cF] 39 (0, 0))
  b : w.heap[Bb]? = some (.cells #[.int .i64 best] 3 (0, 0))
  o : ∃ ao co, w.heap[Bo]? = some (.cells #[.slice ao evs.length co] 36 (0, 0)) ∧ w.ownsRow base 44 2 (.slice ao evs.length co) evs.length (prs evs)
  at_ : At w aF (prs F)
  g : W.grownBy w none
  sz : base ≤ w.heap.size

theorem DSt.quiet {W : World} {Br Ba Bb Bo base : Nat} {aF : Option Addr} {cF : Nat} {F : List (Int × Int)} {st wd ls nm dn : Int} {evs : List (Int × Int)} {best : Int} {w w' : World}
    (h : DSt W Br Ba Bb Bo base aF cF F st wd ls nm dn evs best w) (hg : w.grownBy w' none) : DSt W Br Ba Bb Bo base aF cF F st wd ls nm dn evs best w' := by
  obtain ⟨ao, co, h1, h2⟩ := h.o
  exact ⟨blk_apart h.r hg (by simp), blk_apart h.a hg (by simp), blk_apart h.b hg (by simp), ⟨ao, co, blk_apart h1 hg (by simp), own_kept h2 hg (by simp)⟩, h.at_.grown hg (by simp), h.g.trans hg, Nat.le_trans h.sz hg.size⟩

theorem DSt.best {W : World} {Br Ba Bb Bo base : Nat} {aF : Option Addr} {cF : Nat} {F : List (Int × Int)} {st wd ls nm dn : Int} {evs : List (Int × Int)} {best : Int} {w : World}
    (h : DSt W Br Ba Bb Bo base aF cF F st wd ls nm dn evs best w) (hl : DLay W Br Ba Bb Bo base aF) (x : Int) : DSt W Br Ba Bb Bo base aF cF F st wd ls nm dn evs x (w.setCell ⟨Bb, 0, none⟩ (.int .i64 x)) := by
  obtain ⟨ao, co, h1, h2⟩ := h.o
  obtain ⟨n1, n2, n3, n4, n5, n6⟩ := hl.ra
  have hg : w.grownBy (w.setCell ⟨Bb, 0, none⟩ (.int .i64 x)) (some Bb) := ⟨rfl, rfl, rfl, by simp, fun j _ hj => heap_setCell_other w ⟨Bb, 0, none⟩ j _ (fun e => hj (by simp [e]))⟩
  refine ⟨(hg.block _ (lt_of_block h.r) (by simpa using n2)).trans h.r, (hg.block _ (lt_of_block h.a) (by simpa using n4)).trans h.a, one_setCell h.b,
    ⟨ao, co, (hg.block _ (lt_of_block h1) (by simpa using Ne.symm n6)).trans h1, own_kept h2 hg (fun b hb => by cases hb; exact .inl hl.b.2)⟩, h.at_.grown hg (fun p hp => by simpa using (hl.f p hp).2.1), grown_setCell h.g hl.b.1 _, by simpa using h.sz⟩

end Go.Proofs.YtlifcpcfhkpejaaGreat.Hd

/- Plain facts on fractions in lowest terms; and the walk of Detected. -/
namespace Go.Proofs.YtlifcpcfhkpejaaGreat.Hd
set_option linter.unusedVariables false
set_option linter.unusedSimpArgs false
open Go.RowKit

theorem _root_.Go.Proofs.YtlifcpcfhkpejaaGreat.At.pair' {w : World} {b off : Nat} {l : List (Int × Int)} (h : At w (some ⟨b, off, none⟩) (prs l)) {k : Nat} (hk : k < l.length) :
    w.cell? ⟨b, off + k * 2, none⟩ = some (.int .i64 (l.getD k (0, 0)).1) ∧ w.cell? ⟨b, off + k * 2 + 1, none⟩ = some (.int .i64 (l.getD k (0, 0)).2) := by
  obtain ⟨b', off', e, h1, h2⟩ := h.pair hk
  cases e
  exact ⟨h1, h2⟩

end Go.Proofs.YtlifcpcfhkpejaaGreat.Hd

/- Walks: the events of a trace, as the reference finds them. -/
namespace Go.Proofs.YtlifcpcfhkpejaaGreat.Hd
set_option linter.unusedVariables false
set_option linter.unusedSimpArgs false
open Go.RowKit

/-- what the variables of the reference's function hold -/
structure RSt (Br Bx Bu : Nat) (aR : Option Addr) (cR : Nat) (R : List Int) (st wd ls nm dn u : Int) (w : World) : Prop where
  r : w.heap[Br]? = some (.cells #[.int .i64 st, .int .i64 wd, .int .i64 ls, .int .i64 nm, .int .i64 dn] 32 (0, 0))
  x : w.heap[Bx]? = some (.cells #[.slice aR R.length cR] 22 (0, 0))
  u : w.heap[Bu]? = some (.cells #[.int .i64 u] 3 (0, 0))
  at_ : At w aR (ints R)
theorem RSt.kept {Br Bx Bu : Nat} {aR : Option Addr} {cR : Nat} {R : List Int} {st wd ls nm dn u : Int} {w w' : World} {row : Option Nat} {B : Nat} (h : RSt Br Bx Bu aR cR R st wd ls nm dn u w) (hg : w.grownBy w' row)
    (hl : Br < B ∧ Bx < B ∧ Bu < B ∧ ∀ p, aR = some p → p.block < B) (hr : ∀ b, row = some b → B ≤ b) : RSt Br Bx Bu aR cR R st wd ls nm dn u w' :=
  ⟨blk_apart h.r hg (fun k hk => by have := hr k hk; omega), blk_apart h.x hg (fun k hk => by have := hr k hk; omega), blk_apart h.u hg (fun k hk => by have := hr k hk; omega), h.at_.apart hg hl.2.2.2 hr⟩
theorem RSt.drewN {Br Bx Bu : Nat} {aR : Option Addr} {cR : Nat} {R : List Int} {st wd ls nm dn u : Int} {w : World} (h : RSt Br Bx Bu aR cR R st wd ls nm dn u w) (n : Nat) : RSt Br Bx Bu aR cR R st wd ls nm dn u (w.drewN n) := ⟨h.r, h.x, h.u, h.at_⟩

end Go.Proofs.YtlifcpcfhkpejaaGreat.Hd

/- Walks: slices.Equal of pairs of numbers; the self-test of package trace; the trace of steps. -/
namespace Go.Proofs.YtlifcpcfhkpejaaGreat.Hd
set_option linter.unusedVariables false
set_option linter.unusedSimpArgs false
open Go.RowKit

end Go.Proofs.YtlifcpcfhkpejaaGreat.Hd

/- Walks: where a trace ends (package trace, and the reference). -/
namespace Go.Proofs.YtlifcpcfhkpejaaGreat.Hd
set_option linter.unusedVariables false
set_option linter.unusedSimpArgs false
open Go.RowKit

end Go.Proofs.YtlifcpcfhkpejaaGreat.Hd

/- Contracts of package trace and of the reference for every input, and the self-test of the laws. -/
namespace Go.Proofs.YtlifcpcfhkpejaaGreat.Hd
set_option linter.unusedVariables false
set_option linter.unusedSimpArgs false
open Go.RowKit

end Go.Proofs.YtlifcpcfhkpejaaGreat.Hd

/- Plain law: the best matching of two lists, by scores alone and by whole matchings. -/
namespace Go.Proofs.YtlifcpcfhkpejaaGreat.Hd.Mat
set_option linter.unusedVariables false
set_option linter.unusedSimpArgs false
/-- a matching: its pairs, the sum of differences -/
abbrev Pr := List (Nat × Nat) × Int

def lexlt : List (Nat × Nat) → List (Nat × Nat) → Bool
  | _, [] => false
  | [], _ :: _ => true
  | x :: r, y :: t => if x.1 = y.1 then if x.2 = y.2 then lexlt r t else decide (x.2 < y.2) else decide (x.1 < y.1)

def bet (x y : Pr) : Bool := if x.1.length = y.1.length then if x.2 = y.2 then lexlt x.1 y.1 else decide (x.2 < y.2) else decide (y.1.length < x.1.length)

theorem lexlt_trans : ∀ x y z, lexlt y x = false → lexlt z y = false → lexlt z x = false
  | [], _, z, _, _ => by cases z <;> simp [lexlt]
  | x :: r, [], z, h, _ => by simp [lexlt] at h
  | x :: r, y :: t, [], h1, h2 => by simp [lexlt] at h2
  | x :: r, y :: t, z :: u, h1, h2 => by
    have ih := lexlt_trans r t u
    simp only [lexlt] at *
    repeat' split at h1
    all_goals repeat' split at h2
    all_goals repeat' split
    all_goals try simp only [decide_eq_false_iff_not] at *
    all_goals first | omega | exact ih h1 h2
theorem lexlt_irrefl : ∀ x, lexlt x x = false
  | [] => rfl
  | x :: r => by simp [lexlt, lexlt_irrefl r]

theorem bet_trans (x y z : Pr) (h1 : bet y x = false) (h2 : bet z y = false) : bet z x = false := by
  have ih := lexlt_trans x.1 y.1 z.1
  simp only [bet] at *
  repeat' split at h1
  all_goals repeat' split at h2
  all_goals repeat' split
  all_goals try simp only [decide_eq_false_iff_not] at *
  all_goals first | omega | exact ih h1 h2
theorem lexlt_asymm : ∀ x y, lexlt x y = true → lexlt y x = false
  | _, [], h => by simp [lexlt] at h
  | [], y :: t, _ => by simp [lexlt]
  | x :: r, y :: t, h => by
    have ih := lexlt_asymm r t
    simp only [lexlt] at *
    repeat' split at h
    all_goals repeat' split
    all_goals try simp only [decide_eq_false_iff_not, decide_eq_true_eq] at *
    all_goals first | omega | exact ih h
theorem bet_asymm (x y : Pr) (h : bet x y = true) : bet y x = false := by
  have ih := lexlt_asymm x.1 y.1
  simp only [bet] at *
  repeat' split at h
  all_goals repeat' split
  all_goals try simp only [decide_eq_false_iff_not, decide_eq_true_eq] at *
  all_goals first | omega | exact ih h
theorem bet_irrefl (x : Pr) : bet x x = false := by simp [bet, lexlt_irrefl]

/-- the better one, the first where both are as good -/
def pick (y x : Pr) : Pr := if bet y x then y else x
theorem pick_ge1 (y x : Pr) : bet y (pick y x) = false := by
  unfold pick; split
  · exact bet_irrefl _
  · simp_all
theorem pick_ge2 (y x : Pr) : bet x (pick y x) = false := by
  unfold pick; split
  · rename_i h; exact bet_asymm _ _ h
  · exact bet_irrefl _

section
variable (near : Nat → Nat → Bool) (f : Nat → Nat → Int) (n m : Nat)

def best (i k : Nat) : Pr :=
  let x0 : Pr := if i < n then best (i + 1) k else ([], 0)
  let x1 : Pr := if k < m then pick (best i (k + 1)) x0 else x0
  if i < n ∧ k < m ∧ near i k = true then pick ((i, k) :: (best (i + 1) (k + 1)).1, (best (i + 1) (k + 1)).2 + f i k) x1 else x1
termination_by (n - i) + (m - k)
decreasing_by all_goals omega

def cand (i k : Nat) : Pr := ((i, k) :: (best near f n m (i + 1) (k + 1)).1, (best near f n m (i + 1) (k + 1)).2 + f i k)

theorem best_end1 (k : Nat) : best near f n m n k = ([], 0) := by
  rw [best]
  simp only [Nat.lt_irrefl, false_and, if_false]
  split
  · have := best_end1 (k + 1)
    rw [this]; rfl
  · rfl
termination_by m - k
theorem best_end2 (i : Nat) : best near f n m i m = ([], 0) := by
  rw [best]
  simp only [Nat.lt_irrefl, false_and, and_false, if_false]
  split
  · exact best_end2 (i + 1)
  · rfl
termination_by n - i

theorem best_in (i k : Nat) (hi : i < n) (hk : k < m) : best near f n m i k =
    if near i k = true then pick (cand near f n m i k) (pick (best near f n m i (k + 1)) (best near f n m (i + 1) k)) else pick (best near f n m i (k + 1)) (best near f n m (i + 1) k) := by
  rw [best]; simp only [hi, hk, if_true, true_and, cand]

/-- what is best is nothing or starts with a pair; nothing that starts with a pair is better -/
theorem best_opt : ∀ (s i k : Nat), s = (n - i) + (m - k) → i ≤ n → k ≤ m →
    (best near f n m i k = ([], 0) ∨ ∃ a b, i ≤ a ∧ a < n ∧ k ≤ b ∧ b < m ∧ near a b = true ∧ best near f n m i k = cand near f n m a b) ∧
    (∀ a b, i ≤ a → a < n → k ≤ b → b < m → near a b = true → bet (cand near f n m a b) (best near f n m i k) = false) := by
  intro s
  induction s using Nat.strongRecOn with
  | ind s ih =>
    intro i k hs hi hk
    rcases Nat.lt_or_ge i n with h1 | h1
    · rcases Nat.lt_or_ge k m with h2 | h2
      · have hb := best_in near f n m i k h1 h2
        obtain ⟨p1, q1⟩ := ih _ (by omega) (i + 1) k rfl (by omega) hk
        obtain ⟨p2, q2⟩ := ih _ (by omega) i (k + 1) rfl hi (by omega)
        generalize hx : best near f n m i k = x at *
        generalize hy : best near f n m (i + 1) k = y at *
        generalize hz : best near f n m i (k + 1) = z at *
        have hzy : (pick z y = ([], 0) ∨ ∃ a b, i ≤ a ∧ a < n ∧ k ≤ b ∧ b < m ∧ near a b = true ∧ pick z y = cand near f n m a b) := by
          unfold pick
          split
          · rcases p2 with h | ⟨a, b, r1, r2, r3, r4, r5, r6⟩
            · exact .inl h
            · exact .inr ⟨a, b, r1, r2, by omega, r4, r5, r6⟩
          · rcases p1 with h | ⟨a, b, r1, r2, r3, r4, r5, r6⟩
            · exact .inl h
            · exact .inr ⟨a, b, by omega, r2, r3, r4, r5, r6⟩
        constructor
        · rw [hb]
          split
          · rename_i hn
            generalize pick z y = v at hzy
            unfold pick
            split
            · exact .inr ⟨i, k, Nat.le_refl _, h1, Nat.le_refl _, h2, hn, rfl⟩
            · exact hzy
          · exact hzy
        · intro a b r1 r2 r3 r4 r5
          have g1 : bet (pick z y) x = false := by
            rw [hb]; split
            · exact pick_ge2 _ _
            · exact bet_irrefl _
          by_cases e1 : a = i
          · by_cases e2 : b = k
            · subst e1 e2
              rw [hb, if_pos r5]
              exact pick_ge1 _ _
            · exact bet_trans _ _ _ (bet_trans _ _ _ g1 (pick_ge1 z y)) (q2 a b r1 r2 (by omega) r4 r5)
          · exact bet_trans _ _ _ (bet_trans _ _ _ g1 (pick_ge2 z y)) (q1 a b (by omega) r2 r3 r4 r5)
      · obtain rfl : k = m := by omega
        rw [best_end2]
        exact ⟨.inl rfl, fun a b _ _ h3 h4 => by omega⟩
    · obtain rfl : i = n := by omega
      rw [best_end1]
      exact ⟨.inl rfl, fun a b h3 h4 => by omega⟩

/-- how good: the number of pairs, the sum -/
def sco (x : Pr) : Nat × Int := (x.1.length, x.2)
def bsc (s t : Nat × Int) : Bool := decide (t.1 < s.1) || decide (s.1 = t.1) && decide (s.2 < t.2)
theorem sco_pick (y x : Pr) : sco (pick y x) = if bsc (sco y) (sco x) then sco y else sco x := by
  have e : bsc (sco y) (sco x) = (decide (x.1.length < y.1.length) || decide (y.1.length = x.1.length) && decide (y.2 < x.2)) := rfl
  have e2 : ∀ z : Pr, sco z = (z.1.length, z.2) := fun _ => rfl
  rw [e, e2, e2, e2]
  unfold pick
  by_cases h1 : y.1.length = x.1.length
  · by_cases h2 : y.2 = x.2
    · split <;> split <;> simp [h1, h2]
    · have hb : bet y x = decide (y.2 < x.2) := by unfold bet; rw [if_pos h1, if_neg h2]
      rw [hb]
      by_cases h3 : y.2 < x.2
      · simp [h1, h3]
      · simp [h1, h3]
  · have hb : bet y x = decide (x.1.length < y.1.length) := by unfold bet; rw [if_neg h1]
    rw [hb]
    by_cases h3 : x.1.length < y.1.length
    · simp [h3]
    · simp [h1, h3]

/-- the first pair from (i, k) on, row by row, that makes what is best -/
def hits (i k a b : Nat) : Bool := near a b && decide (sco (cand near f n m a b) = sco (best near f n m i k))

theorem sco_cand (a b : Nat) : sco (cand near f n m a b) = ((sco (best near f n m (a + 1) (b + 1))).1 + 1, (sco (best near f n m (a + 1) (b + 1))).2 + f a b) := rfl

theorem best_hit (i k : Nat) (hi : i ≤ n) (hk : k ≤ m) (a b : Nat) (h1 : i ≤ a) (h2 : a < n) (h3 : k ≤ b) (h4 : b < m) (hh : hits near f n m i k a b = true)
    (hp : ∀ c d, i ≤ c → c < n → k ≤ d → d < m → c < a ∨ c = a ∧ d < b → hits near f n m i k c d = false) : best near f n m i k = cand near f n m a b := by
  obtain ⟨p, q⟩ := best_opt near f n m _ i k rfl hi hk
  simp only [hits, Bool.and_eq_true, decide_eq_true_eq] at hh
  obtain ⟨hn, hs⟩ := hh
  rcases p with h | ⟨c, d, r1, r2, r3, r4, r5, r6⟩
  · rw [h] at hs; simp [sco, cand] at hs
  · by_cases e : c = a ∧ d = b
    · obtain ⟨rfl, rfl⟩ := e; exact r6
    · by_cases hl : c < a ∨ c = a ∧ d < b
      · have := hp c d r1 r2 r3 r4 hl
        simp [hits, r5, r6] at this
      · have hq := q a b h1 h2 h3 h4 hn
        rw [r6] at hs hq
        have hl1 : (cand near f n m a b).1.length = (cand near f n m c d).1.length := congrArg Prod.fst hs
        have hl2 : (cand near f n m a b).2 = (cand near f n m c d).2 := by have := congrArg Prod.snd hs; exact this
        unfold bet at hq
        rw [if_pos hl1, if_pos hl2] at hq
        simp only [cand, lexlt] at hq
        repeat' split at hq
        all_goals try simp only [decide_eq_false_iff_not] at hq
        all_goals omega

theorem best_miss (i k : Nat) (hi : i ≤ n) (hk : k ≤ m) (hp : ∀ c d, i ≤ c → c < n → k ≤ d → d < m → hits near f n m i k c d = false) : best near f n m i k = ([], 0) := by
  obtain ⟨p, q⟩ := best_opt near f n m _ i k rfl hi hk
  rcases p with h | ⟨c, d, r1, r2, r3, r4, r5, r6⟩
  · exact h
  · have := hp c d r1 r2 r3 r4
    simp [hits, r5, r6] at this
end
end Go.Proofs.YtlifcpcfhkpejaaGreat.Hd.Mat

/- Walks: what is wrong with events, in package trace and in the reference. -/
namespace Go.Proofs.YtlifcpcfhkpejaaGreat.Hd
set_option linter.unusedVariables false
set_option linter.unusedSimpArgs false
open Go.RowKit

theorem cell_lt {w : World} {x : Addr} {v : Value} (h : w.cell? x = some v) : x.block < w.heap.size := by
  unfold World.cell? at h
  split at h
  · rename_i c t q hx
    exact lt_of_block hx
  · cases h

/-- what is wrong with event k -/
def evAt (l : List (Int × Int)) (k : Nat) : Int := if !(inB (l.getD k (0, 0)).1 0 1000000 && okR (l.getD k (0, 0)).2) then 1 else if 0 < k ∧ (l.getD k (0, 0)).1 < (l.getD (k - 1) (0, 0)).1 then 7 else 0
def evErrs (l : List (Int × Int)) : List Int := (List.range l.length).map (evAt l)
def evFault (l : List (Int × Int)) : Int := if 100 < l.length then 2 else firstErr (evErrs l)
def EvRel (l : List (Int × Int)) (w : World) (v10 : Value) (wr : World) : Prop := ∃ k : Nat, k ≤ l.length ∧ Hid (firstErr ((evErrs l).drop k) = firstErr (evErrs l)) ∧ v10 = .int .i64 k ∧ w.grownBy wr none

set_option maxHeartbeats 1000000 in
theorem EventsFault_any (a : Option Addr) (n cap : Nat) (l : List (Int × Int)) (w : World) (hn : n = l.length) (hm : n ≤ maxLen) (h : At w a (prs l)) :
    Calls Tryz.prog 41 #[.slice a n cap] w fun e w' => e = .returned (.int .i64 (evFault l)) ∧ w.grownBy w' none := by
  subst hn
  unfold maxLen at hm
  by_cases hl : 100 < l.length
  · have H : Hid (evFault l = 2) := by show evFault l = 2; rw [evFault, if_pos hl]
    go_enter Tryz.func41, Tryz.ntmps41
    go_wp2
    go_ret
    exact ⟨ret_int H.out.symm, grown_refl _ _⟩
  · have H : Hid (evFault l = firstErr (evErrs l)) := by show evFault l = _; rw [evFault, if_neg hl]
    go_enter Tryz.func41, Tryz.ntmps41
    go_wp2_with fail
    go_loopw [10] (EvRel l w) (fun i _ => l.length - (intOf i).toNat)
    case atStart => exact ⟨0, Nat.zero_le _, rfl, rfl, grown_refl _ _⟩
    case round =>
      obtain ⟨k, hk, hf, rfl, hg⟩ := hrel
      by_cases hlt : k < l.length
      · have hat := h.grown hg (by simp)
        obtain ⟨b, off, rfl, h1, h2⟩ := hat.pair hlt
        have hbl := cell_lt h1
        have HS := Lib.hid (firstErr_drop (evErrs l) k (by simp [evErrs]; exact hlt))
        have HA : Hid ((evErrs l).getD k 0 = evAt l k) := by show _ = _; simp [evErrs, hlt]
        have HE : Hid (evAt l k = if !(inB (l.getD k (0, 0)).1 0 1000000 && okR (l.getD k (0, 0)).2) then 1 else if 0 < k ∧ (l.getD k (0, 0)).1 < (l.getD (k - 1) (0, 0)).1 then 7 else 0) := rfl
        have h3 : 0 < k → wr.cell? ⟨b, off + (k - 1) * 2, none⟩ = some (.int .i64 (l.getD (k - 1) (0, 0)).1) := fun hk0 => (At.pair' hat (k := k - 1) (by omega)).1
        generalize l.getD k (0, 0) = q at *
        generalize (l.getD (k - 1) (0, 0)).1 = p at *
        have hgR := grown_alloc_r hg (.cells #[.int .i64 q.1, .int .i64 q.2] 44)
        have hki : (k : Int) < (l.length : Int) := by omega
        have hq0 := heap_alloc_new wr (.cells #[.int .i64 q.1, .int .i64 q.2] 44)
        clear hat h
        cases hA : inB q.1 0 1000000
        · go_wp2_with fail
          refine (in_any _ _ _ _).mono ?_
          rintro e w1 ⟨rfl, rfl⟩
          go_wp2_with fail
          go_ret
          exact ⟨ret_int (by rw [H.out, ← hf.out, HS.out, HA.out, HE.out]; simp [hA]), hgR⟩
        · cases hB : okR q.2
          · have hB' : inB q.2 (-10000) 10000 = false := hB
            go_wp2_with fail
            refine (in_any _ _ _ _).mono ?_
            rintro e w1 ⟨rfl, rfl⟩
            go_wp2_with fail
            refine (in_any _ _ _ _).mono ?_
            rintro e w1 ⟨rfl, rfl⟩
            go_wp2_with fail
            go_ret
            exact ⟨ret_int (by rw [H.out, ← hf.out, HS.out, HA.out, HE.out]; simp [hA, hB]), hgR⟩
          · have hB' : inB q.2 (-10000) 10000 = true := hB
            rcases Nat.eq_zero_or_pos k with h0 | h0
            · subst h0
              simp only [Nat.zero_mul, Nat.add_zero] at h1 h2
              clear h3
              go_wp2_with fail
              refine (in_any _ _ _ _).mono ?_
              rintro e w1 ⟨rfl, rfl⟩
              go_wp2_with fail
              refine (in_any _ _ _ _).mono ?_
              rintro e w1 ⟨rfl, rfl⟩
              go_wp2_with fail
              go_quiet (fail)
              go_wp2_with fail
              exact ⟨⟨1, by omega, (by show _ = _; have := HS.out; rw [HA.out, HE.out] at this; simp [hA, hB] at this; first | exact this.symm | simpa using this.symm), by go_num, grown_drewN hgR _⟩, by simp [intOf]; omega⟩
            · have h3' := h3 h0
              clear h3
              by_cases hp : q.1 < p
              · go_wp2_with fail
                refine (in_any _ _ _ _).mono ?_
                rintro e w1 ⟨rfl, rfl⟩
                go_wp2_with fail
                refine (in_any _ _ _ _).mono ?_
                rintro e w1 ⟨rfl, rfl⟩
                go_wp2_with fail
                go_quiet (fail)
                go_wp2_with fail
                go_ret
                exact ⟨ret_int (by rw [H.out, ← hf.out, HS.out, HA.out, HE.out]; simp [hA, hB, h0, hp]), grown_drewN hgR _⟩
              · go_wp2_with fail
                refine (in_any _ _ _ _).mono ?_
                rintro e w1 ⟨rfl, rfl⟩
                go_wp2_with fail
                refine (in_any _ _ _ _).mono ?_
                rintro e w1 ⟨rfl, rfl⟩
                go_wp2_with fail
                go_quiet (fail)
                go_wp2_with fail
                exact ⟨⟨k + 1, by omega, (by show _ = _; have := HS.out; rw [HA.out, HE.out] at this; simp [hA, hB, h0, hp] at this; rw [← hf.out, ← this]), by go_num, grown_drewN hgR _⟩, by simp [intOf]; omega⟩
      · go_wp2_with fail
        go_ret
        exact ⟨ret_int (by rw [H.out, ← hf.out, List.drop_of_length_le (by simp [evErrs]; omega)]; rfl), hg⟩

set_option maxHeartbeats 1000000 in
theorem eventsFault_any (a : Option Addr) (n cap : Nat) (l : List (Int × Int)) (w : World) (hn : n = l.length) (hm : n ≤ maxLen) (h : At w a (prs l)) :
    Calls Tryz.prog 65 #[.slice a n cap] w fun e w' => e = .returned (.int .i64 (evFault l)) ∧ w.grownBy w' none := by
  subst hn
  unfold maxLen at hm
  by_cases hl : 100 < l.length
  · have H : Hid (evFault l = 2) := by show evFault l = 2; rw [evFault, if_pos hl]
    go_enter Tryz.func65, Tryz.ntmps65
    go_wp2
    go_ret
    exact ⟨ret_int H.out.symm, grown_refl _ _⟩
  · have H : Hid (evFault l = firstErr (evErrs l)) := by show evFault l = _; rw [evFault, if_neg hl]
    go_enter Tryz.func65, Tryz.ntmps65
    go_wp2_with fail
    go_loopw [10] (EvRel l w) (fun i _ => l.length - (intOf i).toNat)
    case atStart => exact ⟨0, Nat.zero_le _, rfl, rfl, grown_refl _ _⟩
    case round =>
      obtain ⟨k, hk, hf, rfl, hg⟩ := hrel
      by_cases hlt : k < l.length
      · have hat := h.grown hg (by simp)
        obtain ⟨b, off, rfl, h1, h2⟩ := hat.pair hlt
        have hbl := cell_lt h1
        have HS := Lib.hid (firstErr_drop (evErrs l) k (by simp [evErrs]; exact hlt))
        have HA : Hid ((evErrs l).getD k 0 = evAt l k) := by show _ = _; simp [evErrs, hlt]
        have HE : Hid (evAt l k = if !(inB (l.getD k (0, 0)).1 0 1000000 && okR (l.getD k (0, 0)).2) then 1 else if 0 < k ∧ (l.getD k (0, 0)).1 < (l.getD (k - 1) (0, 0)).1 then 7 else 0) := rfl
        have h3 : 0 < k → wr.cell? ⟨b, off + (k - 1) * 2, none⟩ = some (.int .i64 (l.getD (k - 1) (0, 0)).1) := fun hk0 => (At.pair' hat (k := k - 1) (by omega)).1
        generalize l.getD k (0, 0) = q at *
        generalize (l.getD (k - 1) (0, 0)).1 = p at *
        have hgR := grown_alloc_r hg (.cells #[.int .i64 q.1, .int .i64 q.2] 44)
        have hki : (k : Int) < (l.length : Int) := by omega
        have hq0 := heap_alloc_new wr (.cells #[.int .i64 q.1, .int .i64 q.2] 44)
        clear hat h
        cases hA : inB q.1 0 1000000
        · go_wp2_with fail
          refine (out_any _ _ _ _).mono ?_
          rintro e w1 ⟨rfl, rfl⟩
          go_wp2_with fail
          go_ret
          exact ⟨ret_int (by rw [H.out, ← hf.out, HS.out, HA.out, HE.out]; simp [hA]), hgR⟩
        · cases hB : okR q.2
          · go_wp2_with fail
            refine (out_any _ _ _ _).mono ?_
            rintro e w1 ⟨rfl, rfl⟩
            go_wp2_with fail
            refine (isreading_any _ _).mono ?_
            rintro e w1 ⟨rfl, rfl⟩
            go_wp2_with fail
            go_ret
            exact ⟨ret_int (by rw [H.out, ← hf.out, HS.out, HA.out, HE.out]; simp [hA, hB]), hgR⟩
          · rcases Nat.eq_zero_or_pos k with h0 | h0
            · subst h0
              simp only [Nat.zero_mul, Nat.add_zero] at h1 h2
              clear h3
              go_wp2_with fail
              refine (out_any _ _ _ _).mono ?_
              rintro e w1 ⟨rfl, rfl⟩
              go_wp2_with fail
              refine (isreading_any _ _).mono ?_
              rintro e w1 ⟨rfl, rfl⟩
              go_wp2_with fail
              go_quiet (fail)
              go_wp2_with fail
              exact ⟨⟨1, by omega, (by show _ = _; have := HS.out; rw [HA.out, HE.out] at this; simp [hA, hB] at this; first | exact this.symm | simpa using this.symm), by go_num, grown_drewN hgR _⟩, by simp [intOf]; omega⟩
            · have h3' := h3 h0
              clear h3
              by_cases hp : q.1 < p
              · go_wp2_with fail
                refine (out_any _ _ _ _).mono ?_
                rintro e w1 ⟨rfl, rfl⟩
                go_wp2_with fail
                refine (isreading_any _ _).mono ?_
                rintro e w1 ⟨rfl, rfl⟩
                go_wp2_with fail
                go_quiet (fail)
                go_wp2_with fail
                go_ret
                exact ⟨ret_int (by rw [H.out, ← hf.out, HS.out, HA.out, HE.out]; simp [hA, hB, h0, hp]), grown_drewN hgR _⟩
              · go_wp2_with fail
                refine (out_any _ _ _ _).mono ?_
                rintro e w1 ⟨rfl, rfl⟩
                go_wp2_with fail
                refine (isreading_any _ _).mono ?_
                rintro e w1 ⟨rfl, rfl⟩
                go_wp2_with fail
                go_quiet (fail)
                go_wp2_with fail
                exact ⟨⟨k + 1, by omega, (by show _ = _; have := HS.out; rw [HA.out, HE.out] at this; simp [hA, hB, h0, hp] at this; rw [← hf.out, ← this]), by go_num, grown_drewN hgR _⟩, by simp [intOf]; omega⟩
      · go_wp2_with fail
        go_ret
        exact ⟨ret_int (by rw [H.out, ← hf.out, List.drop_of_length_le (by simp [evErrs]; omega)]; rfl), hg⟩
end Go.Proofs.YtlifcpcfhkpejaaGreat.Hd

/- Walks: the scores of matchings (package trace). -/
namespace Go.Proofs.YtlifcpcfhkpejaaGreat.Hd
set_option linter.unusedVariables false
set_option linter.unusedSimpArgs false
open Go.RowKit

def bscI (s t : Int × Int) : Bool := decide (t.1 < s.1) || decide (s.1 = t.1) && decide (s.2 < t.2)

set_option maxHeartbeats 400000 in
theorem sbetter_any (s1 s2 t1 t2 : Int) (w : World) :
    Calls Tryz.prog 97 #[.agg #[.int .i64 s1, .int .i64 s2], .agg #[.int .i64 t1, .int .i64 t2]] w fun e w' => e = .returned (.bool (bscI (s1, s2) (t1, t2))) ∧ w.grownBy w' none := by
  by_cases h1 : t1 < s1
  · go_enter Tryz.func97, Tryz.ntmps97
    go_wp2_with fail
    go_ret
    exact ⟨ret_bool (by simp [bscI, h1]), (by repeat (first | with_reducible exact grown_refl _ _ | with_reducible assumption | with_reducible apply grown_alloc_r | with_reducible apply grown_drew_r | with_reducible apply grown_drewN | with_reducible refine World.grownBy.trans ?_ (by with_reducible assumption)))⟩
  · by_cases h2 : s1 = t1
    · subst h2
      go_enter Tryz.func97, Tryz.ntmps97
      go_wp2_with fail
      go_ret
      exact ⟨ret_bool (by simp [bscI]), (by repeat (first | with_reducible exact grown_refl _ _ | with_reducible assumption | with_reducible apply grown_alloc_r | with_reducible apply grown_drew_r | with_reducible apply grown_drewN | with_reducible refine World.grownBy.trans ?_ (by with_reducible assumption)))⟩
    · have h3 : (s1 == t1) = false := by simpa using h2
      go_enter Tryz.func97, Tryz.ntmps97
      go_wp2_with fail
      go_ret
      exact ⟨ret_bool (by simp [bscI, h1, h2]), (by repeat (first | with_reducible exact grown_refl _ _ | with_reducible assumption | with_reducible apply grown_alloc_r | with_reducible apply grown_drew_r | with_reducible apply grown_drewN | with_reducible refine World.grownBy.trans ?_ (by with_reducible assumption)))⟩

def dist (x y : Int) : Int := max (x - y) (y - x)

set_option maxRecDepth 100000 in
set_option maxHeartbeats 2000000 in
theorem mwith_any (ab ao bb bo gb go rb ro la ca lb cb gl gc rl rc i k : Nat) (x y near p q : Int) (w : World)
    (hi : i < la) (hk : k < lb) (hgi : i + 1 < gl) (hrk : k + 1 < rl) (hla : la ≤ 1000) (hlb : lb ≤ 1000) (hgl : gl ≤ 1001) (hrl : rl ≤ 1001)
    (hx0 : 0 ≤ x) (hx : x ≤ 1000000) (hy0 : 0 ≤ y) (hy : y ≤ 1000000) (hp0 : 0 ≤ p) (hp : p ≤ 1000) (hq0 : 0 ≤ q) (hq : q ≤ 1000000000)
    (h1 : w.cell? ⟨ab, ao + i * 2, none⟩ = some (.int .i64 x)) (h2 : w.cell? ⟨bb, bo + k * 2, none⟩ = some (.int .i64 y))
    (h3 : w.cell? ⟨gb, go + (i + 1), none⟩ = some (.slice (some ⟨rb, ro, none⟩) rl rc))
    (h4 : w.cell? ⟨rb, ro + (k + 1) * 2, none⟩ = some (.int .i64 p)) (h5 : w.cell? ⟨rb, ro + (k + 1) * 2 + 1, none⟩ = some (.int .i64 q)) :
    Calls Tryz.prog 98 #[.agg #[.slice (some ⟨ab, ao, none⟩) la ca, .slice (some ⟨bb, bo, none⟩) lb cb, .int .i64 near, .slice (some ⟨gb, go, none⟩) gl gc], .int .i64 i, .int .i64 k] w fun e w' =>
      e = .returned (.tuple #[.agg #[.int .i64 (p + 1), .int .i64 (q + dist x y)], .bool (decide (dist x y ≤ near))]) ∧ w.grownBy w' none := by
  have l1 := cell_lt h1
  have l2 := cell_lt h2
  have l3 := cell_lt h3
  have l4 := cell_lt h4
  simp only at l1 l2 l3 l4
  have z1 : (i : Int) < la := by omega
  have z2 : (k : Int) < lb := by omega
  have z3 : (i : Int) + 1 < gl := by omega
  have z4 : (k : Int) + 1 < rl := by omega
  have hd : Hid (max (x - y) (y - x) = dist x y) := rfl
  obtain ⟨d, hdd, hlo, hhi⟩ : ∃ d, dist x y = d ∧ 0 ≤ d ∧ d ≤ 1000000 := ⟨_, rfl, by unfold dist; omega, by unfold dist; omega⟩
  rw [hdd]
  unfold dist at hdd
  clear hd
  by_cases hxy : x - y < y - x
  · obtain rfl : y - x = d := by omega
    clear hdd
    go_enter Tryz.func98, Tryz.ntmps98
    go_wp2_with fail
    go_quiet (fail)
    go_wp2_with fail
    refine wp_gen (F := fun W => w.grownBy W none ∧ W.heap[w.heap.size]? = some (.cells #[.slice (some ⟨ab, ao, none⟩) la ca, .slice (some ⟨bb, bo, none⟩) lb cb, .int .i64 near, .slice (some ⟨gb, go, none⟩) gl gc] 144 (0, 0)) ∧ W.heap[w.heap.size + 1]? = some (.cells #[.int .i64 0, .int .i64 0] 149 (0, 0)) ∧ W.heap[w.heap.size + 2]? = some (.cells #[.int .i64 p, .int .i64 q] 149 (0, 0))) ⟨(by repeat (first | with_reducible exact grown_refl _ _ | with_reducible assumption | with_reducible apply grown_alloc_r | with_reducible apply grown_drew_r | with_reducible apply grown_drewN | with_reducible refine World.grownBy.trans ?_ (by with_reducible assumption))), (by simp only [hp_alloc, hp_drewN, hp_drew, Array.getElem?_push, Array.size_push]; (repeat' split) <;> first | rfl | assumption | omega | exact absurd trivial (by assumption)), (by simp only [hp_alloc, hp_drewN, hp_drew, Array.getElem?_push, Array.size_push]; (repeat' split) <;> first | rfl | assumption | omega | exact absurd trivial (by assumption)), (by simp only [hp_alloc, hp_drewN, hp_drew, Array.getElem?_push, Array.size_push]; (repeat' split) <;> first | rfl | assumption | omega | exact absurd trivial (by assumption))⟩ ?_
    rintro W ⟨hg, hb3, hb6, hb9⟩
    have c9 := cells2 hb9
    have c3 := cells4 hb3
    have f6 := free2 hb6
    have c6 := cells2 hb6
    have hfin := hp_set (hp_set hb6 0 (.int .i64 (p + 1))) 1 (.int .i64 (q + (y - x)))
    have hgf := Lib.hid (grown_set (grown_set hg (b := w.heap.size + 1) (by omega) 0 (.int .i64 (p + 1))) (b := w.heap.size + 1) (by omega) 1 (.int .i64 (q + (y - x))))
    have hcf := Lib.hid (cells2 hfin)
    have hw1 : IntKind.i64.wrap (p + 1) = p + 1 := IntWalk.i64_in _ (by omega)
    have hw2 : IntKind.i64.wrap (q + (y - x)) = q + (y - x) := IntWalk.i64_in _ (by omega)
    clear  hb3 hb6 hb9 h1 h2 h3 h4 h5 hg hfin
    go_region_held3 (fun w' => w'.cell? ⟨w.heap.size + 2, 0, none⟩ = some (.int .i64 p) ∧ w'.cell? ⟨w.heap.size + 2, 1, none⟩ = some (.int .i64 q) ∧ w'.cell? ⟨w.heap.size, 2, none⟩ = some (.int .i64 near)) (go_keep) (fail)
    go_wp2_with fail
    refine bp_gen (F := fun W' => w.grownBy W' none ∧ W'.cell? ⟨w.heap.size + 1, 0, none⟩ = some (.int .i64 (p + 1)) ∧ W'.cell? ⟨w.heap.size + 1, 1, none⟩ = some (.int .i64 (q + (y - x)))) ⟨grown_drew_r hgf.out, hcf.out⟩ ?_
    rintro W' ⟨hg', hc0, hc1⟩
    exact bodyPost_ret (v := .tuple #[.agg #[.int .i64 (p + 1), .int .i64 (q + (y - x))], .bool (decide (y - x ≤ near))]) (by simp [results, Tryz.results98, go_sem, hc0, hc1]) rfl ⟨rfl, hg'⟩
  · obtain rfl : x - y = d := by omega
    clear hdd
    go_enter Tryz.func98, Tryz.ntmps98
    go_wp2_with fail
    go_quiet (fail)
    go_wp2_with fail
    refine wp_gen (F := fun W => w.grownBy W none ∧ W.heap[w.heap.size]? = some (.cells #[.slice (some ⟨ab, ao, none⟩) la ca, .slice (some ⟨bb, bo, none⟩) lb cb, .int .i64 near, .slice (some ⟨gb, go, none⟩) gl gc] 144 (0, 0)) ∧ W.heap[w.heap.size + 1]? = some (.cells #[.int .i64 0, .int .i64 0] 149 (0, 0)) ∧ W.heap[w.heap.size + 2]? = some (.cells #[.int .i64 p, .int .i64 q] 149 (0, 0))) ⟨(by repeat (first | with_reducible exact grown_refl _ _ | with_reducible assumption | with_reducible apply grown_alloc_r | with_reducible apply grown_drew_r | with_reducible apply grown_drewN | with_reducible refine World.grownBy.trans ?_ (by with_reducible assumption))), (by simp only [hp_alloc, hp_drewN, hp_drew, Array.getElem?_push, Array.size_push]; (repeat' split) <;> first | rfl | assumption | omega | exact absurd trivial (by assumption)), (by simp only [hp_alloc, hp_drewN, hp_drew, Array.getElem?_push, Array.size_push]; (repeat' split) <;> first | rfl | assumption | omega | exact absurd trivial (by assumption)), (by simp only [hp_alloc, hp_drewN, hp_drew, Array.getElem?_push, Array.size_push]; (repeat' split) <;> first | rfl | assumption | omega | exact absurd trivial (by assumption))⟩ ?_
    rintro W ⟨hg, hb3, hb6, hb9⟩
    have c9 := cells2 hb9
    have c3 := cells4 hb3
    have f6 := free2 hb6
    have c6 := cells2 hb6
    have hfin := hp_set (hp_set hb6 0 (.int .i64 (p + 1))) 1 (.int .i64 (q + (x - y)))
    have hgf := Lib.hid (grown_set (grown_set hg (b := w.heap.size + 1) (by omega) 0 (.int .i64 (p + 1))) (b := w.heap.size + 1) (by omega) 1 (.int .i64 (q + (x - y))))
    have hcf := Lib.hid (cells2 hfin)
    have hw1 : IntKind.i64.wrap (p + 1) = p + 1 := IntWalk.i64_in _ (by omega)
    have hw2 : IntKind.i64.wrap (q + (x - y)) = q + (x - y) := IntWalk.i64_in _ (by omega)
    clear  hb3 hb6 hb9 h1 h2 h3 h4 h5 hg hfin
    go_region_held3 (fun w' => w'.cell? ⟨w.heap.size + 2, 0, none⟩ = some (.int .i64 p) ∧ w'.cell? ⟨w.heap.size + 2, 1, none⟩ = some (.int .i64 q) ∧ w'.cell? ⟨w.heap.size, 2, none⟩ = some (.int .i64 near)) (go_keep) (fail)
    go_wp2_with fail
    refine bp_gen (F := fun W' => w.grownBy W' none ∧ W'.cell? ⟨w.heap.size + 1, 0, none⟩ = some (.int .i64 (p + 1)) ∧ W'.cell? ⟨w.heap.size + 1, 1, none⟩ = some (.int .i64 (q + (x - y)))) ⟨grown_drew_r hgf.out, hcf.out⟩ ?_
    rintro W' ⟨hg', hc0, hc1⟩
    exact bodyPost_ret (v := .tuple #[.agg #[.int .i64 (p + 1), .int .i64 (q + (x - y))], .bool (decide (x - y ≤ near))]) (by simp [results, Tryz.results98, go_sem, hc0, hc1]) rfl ⟨rfl, hg'⟩
end Go.Proofs.YtlifcpcfhkpejaaGreat.Hd

/- Walk: the first pair that makes the best score (package trace). -/
namespace Go.Proofs.YtlifcpcfhkpejaaGreat.Hd
set_option linter.unusedVariables false
set_option linter.unusedSimpArgs false
open Go.RowKit

/-- the scores, row by row, in blocks of their own -/
def MRd (w : World) (gb : Nat) (R : Nat → Nat) (n m : Nat) (f : Nat → Nat → Int × Int) : Prop :=
  ∀ i, i ≤ n → w.cell? ⟨gb, i, none⟩ = some (.slice (some ⟨R i, 0, none⟩) (m + 1) (m + 1)) ∧
    ∀ k, k ≤ m → w.cell? ⟨R i, k * 2, none⟩ = some (.int .i64 (f i k).1) ∧ w.cell? ⟨R i, k * 2 + 1, none⟩ = some (.int .i64 (f i k).2)

theorem MRd.up {w w' : World} {gb : Nat} {R : Nat → Nat} {n m : Nat} {f : Nat → Nat → Int × Int} (h : MRd w gb R n m f) (hg : w.grownBy w' none) : MRd w' gb R n m f :=
  fun i hi => ⟨cell_up (h i hi).1 hg, fun k hk => ⟨cell_up ((h i hi).2 k hk).1 hg, cell_up ((h i hi).2 k hk).2 hg⟩⟩

def atI (l : List (Int × Int)) (k : Nat) : Int := (l.getD k (0, 0)).1

/-- (i, k) makes what is told -/
def hitB (A B : List (Int × Int)) (f : Nat → Nat → Int × Int) (near : Int) (t : Int × Int) (i k : Nat) : Bool :=
  decide (dist (atI A i) (atI B k) ≤ near) && (decide ((f (i + 1) (k + 1)).1 + 1 = t.1) && decide ((f (i + 1) (k + 1)).2 + dist (atI A i) (atI B k) = t.2))

def FOut (A B : List (Int × Int)) (f : Nat → Nat → Int × Int) (near : Int) (t : Int × Int) (i0 k0 : Nat) (W0 : World) (v8 : Value) (wr : World) : Prop :=
  ∃ i : Nat, i0 ≤ i ∧ i ≤ A.length ∧ v8 = .int .i64 i ∧ Hid (∀ a c, i0 ≤ a → a < i → k0 ≤ c → c < B.length → hitB A B f near t a c = false) ∧ W0.grownBy wr none
def FIn (A B : List (Int × Int)) (f : Nat → Nat → Int × Int) (near : Int) (t : Int × Int) (k0 i : Nat) (W0 : World) (v9 : Value) (wr : World) : Prop :=
  ∃ k : Nat, k0 ≤ k ∧ k ≤ B.length ∧ v9 = .int .i64 k ∧ Hid (∀ c, k0 ≤ c → c < k → hitB A B f near t i c = false) ∧ W0.grownBy wr none

/-- the first hit, or none -/
def FirstPost (A B : List (Int × Int)) (f : Nat → Nat → Int × Int) (near : Int) (t : Int × Int) (i0 k0 : Nat) (w : World) (e : Ending) (w' : World) : Prop :=
  w.grownBy w' none ∧
  ((∃ a c : Nat, e = .returned (.tuple #[.agg #[.int .i64 a, .int .i64 c], .bool true]) ∧ i0 ≤ a ∧ a < A.length ∧ k0 ≤ c ∧ c < B.length ∧ hitB A B f near t a c = true ∧
      (∀ a' c', i0 ≤ a' → a' < A.length → k0 ≤ c' → c' < B.length → a' < a ∨ a' = a ∧ c' < c → hitB A B f near t a' c' = false)) ∨
   (e = .returned (.tuple #[.agg #[.int .i64 0, .int .i64 0], .bool false]) ∧ ∀ a c, i0 ≤ a → a < A.length → k0 ≤ c → c < B.length → hitB A B f near t a c = false))

theorem ext_no {P : Nat → Bool} {k0 k : Nat} (h : ∀ c, k0 ≤ c → c < k → P c = false) (hk : P k = false) : ∀ c, k0 ≤ c → c < k + 1 → P c = false := by
  intro c h1 h2
  rcases Nat.lt_or_ge c k with h3 | h3
  · exact h c h1 h3
  · obtain rfl : c = k := by omega
    exact hk
theorem ext_row {P : Nat → Nat → Bool} {i0 k0 i m : Nat} (h : ∀ a c, i0 ≤ a → a < i → k0 ≤ c → c < m → P a c = false) (hk : ∀ c, k0 ≤ c → c < m → P i c = false) : ∀ a c, i0 ≤ a → a < i + 1 → k0 ≤ c → c < m → P a c = false := by
  intro a c h1 h2 h3 h4
  rcases Nat.lt_or_ge a i with h5 | h5
  · exact h a c h1 h5 h3 h4
  · obtain rfl : a = i := by omega
    exact hk c h3 h4

set_option maxRecDepth 100000 in
set_option maxHeartbeats 4000000 in
theorem mfirst_any (a b : Option Addr) (ca cb gb gc : Nat) (R : Nat → Nat) (A B : List (Int × Int)) (f : Nat → Nat → Int × Int) (near : Int) (i0 k0 : Nat) (w : World)
    (hA : At w a (prs A)) (hB : At w b (prs B)) (hM : MRd w gb R A.length B.length f) (hi0 : i0 ≤ A.length) (hk0 : k0 ≤ B.length) (hla : A.length ≤ 1000) (hlb : B.length ≤ 1000)
    (hAx : ∀ i, i < A.length → 0 ≤ atI A i ∧ atI A i ≤ 1000000) (hBx : ∀ i, i < B.length → 0 ≤ atI B i ∧ atI B i ≤ 1000000)
    (hf : ∀ i k, 0 ≤ (f i k).1 ∧ (f i k).1 ≤ 1000 ∧ 0 ≤ (f i k).2 ∧ (f i k).2 ≤ 1000000000) :
    Calls Tryz.prog 67 #[.agg #[.slice a A.length ca, .slice b B.length cb, .int .i64 near, .slice (some ⟨gb, 0, none⟩) (A.length + 1) gc], .int .i64 i0, .int .i64 k0] w (FirstPost A B f near (f i0 k0) i0 k0 w) := by
  have HAx := Lib.hid hAx
  have HBx := Lib.hid hBx
  have HM := Lib.hid hM
  have Hf := Lib.hid hf
  generalize ht : f i0 k0 = t
  have Ht := Lib.hid ht
  clear hAx hBx hM hf ht
  go_enter Tryz.func67, Tryz.ntmps67
  go_wp2_with fail
  refine wp_gen (F := fun W => w.grownBy W none ∧ W.heap[w.heap.size]? = some (.cells #[.slice a A.length ca, .slice b B.length cb, .int .i64 near, .slice (some ⟨gb, 0, none⟩) (A.length + 1) gc] 144 (0, 0)) ∧ W.heap[w.heap.size + 1]? = some (.cells #[.int .i64 0, .int .i64 0] 54 (0, 0))) ⟨(by repeat (first | with_reducible exact grown_refl _ _ | with_reducible assumption | with_reducible apply grown_alloc_r | with_reducible apply grown_drew_r | with_reducible apply grown_drewN | with_reducible refine World.grownBy.trans ?_ (by with_reducible assumption))), (by simp only [hp_alloc, hp_drewN, hp_drew, Array.getElem?_push, Array.size_push]; (repeat' split) <;> first | rfl | assumption | omega | exact absurd trivial (by assumption)), (by simp only [hp_alloc, hp_drewN, hp_drew, Array.getElem?_push, Array.size_push]; (repeat' split) <;> first | rfl | assumption | omega | exact absurd trivial (by assumption))⟩ ?_
  rintro W0 ⟨hg0, hb3, hb6⟩
  have hz : w.heap.size ≤ w.heap.size + 1 := by omega
  have hz0 : w.heap.size + 1 < W0.heap.size := lt_of_block hb6
  have hc3 := cells4 hb3
  go_loopw [8] (FOut A B f near t i0 k0 W0) (fun i _ => A.length - (intOf i).toNat)
  case atStart => exact ⟨i0, Nat.le_refl _, hi0, rfl, Lib.hid (fun a c h1 h2 => by omega), grown_refl _ _⟩
  case round =>
    obtain ⟨i, hi1, hi2, rfl, hno, hgr⟩ := hrel
    have hc3 := cells4 (blk_up hb3 hgr)
    have f6 := free2 (blk_up hb6 hgr)
    have c6 := cells2 (blk_up hb6 hgr)
    by_cases hlt : i < A.length
    · go_wp2_with fail
      obtain ⟨wo, rfl⟩ : ∃ wo : World, wo = wr := ⟨_, rfl⟩
      go_loopw [9] (FIn A B f near t k0 i wo) (fun k _ => B.length - (intOf k).toNat)
      case atStart => exact ⟨k0, Nat.le_refl _, hk0, rfl, Lib.hid (fun c h1 h2 => by omega), grown_refl _ _⟩
      case round =>
        obtain ⟨k, hk1, hk2, rfl, hnk, hgi⟩ := hrel
        clear hc3 f6 c6
        have hgx : W0.grownBy wr none := hgr.trans hgi
        have hgy : w.grownBy wr none := hg0.trans hgx
        have hb3r := blk_up hb3 hgx
        have hb6r := blk_up hb6 hgx
        have hc3 := cells4 hb3r
        have l3 := lt_of_block hb6r
        by_cases hkt : k < B.length
        · obtain ⟨ab, ao, rfl, ha1, ha2⟩ := (hA.up hgy).pair hlt
          obtain ⟨bb, bo, rfl, hb1, hb2⟩ := (hB.up hgy).pair hkt
          obtain ⟨hm1, hm2⟩ := (HM.out.up hgy) (i + 1) (by omega)
          obtain ⟨hm3, hm4⟩ := hm2 (k + 1) (by omega)
          have x1 := HAx.out i hlt
          have x2 := HBx.out k hkt
          have x3 := Hf.out (i + 1) (k + 1)
          have HW := Lib.hid (mwith_any ab ao bb bo gb 0 (R (i + 1)) 0 A.length ca B.length cb (A.length + 1) gc (B.length + 1) (B.length + 1) i k (atI A i) (atI B k) near (f (i + 1) (k + 1)).1 (f (i + 1) (k + 1)).2 wr hlt hkt (by omega) (by omega) hla hlb (by omega) (by omega) x1.1 x1.2 x2.1 x2.2 x3.1 x3.2.1 x3.2.2.1 x3.2.2.2 ha1 hb1 (by rw [Nat.zero_add]; exact hm1) (by rw [Nat.zero_add]; exact hm3) (by rw [Nat.zero_add]; exact hm4))
          have Hh : Hid (hitB A B f near t i k = (decide (dist (atI A i) (atI B k) ≤ near) && (decide ((f (i + 1) (k + 1)).1 + 1 = t.1) && decide ((f (i + 1) (k + 1)).2 + dist (atI A i) (atI B k) = t.2)))) := rfl
          have hgz := Lib.hid hgy
          clear hm1 hm2 hm3 hm4 ha1 ha2 hb1 hb2 hgy
          generalize dist (atI A i) (atI B k) = d at *
          generalize (f (i + 1) (k + 1)).1 = p at *
          generalize (f (i + 1) (k + 1)).2 = q at *
          have hki : (i0 : Int) < (A.length : Int) + 1 := by omega
          have hkk : (k0 : Int) < (B.length : Int) + 1 := by omega
          go_wp2_with fail
          refine HW.out.mono ?_
          clear HW
          rintro e w1 ⟨rfl, hg1⟩
          have hb3s := blk_up hb3r hg1
          have hb6s := blk_up hb6r hg1
          have hc3s := cells4 hb3s
          have l3s := lt_of_block hb6s
          have l3t := lt_of_block hb3s
          obtain ⟨hm1, hm2⟩ := (HM.out.up (hgz.out.trans hg1)) i0 hi0
          obtain ⟨hm3, hm4⟩ := hm2 k0 hk0
          rw [Ht.out] at hm3 hm4
          have l4 := cell_lt hm1
          have l5 := cell_lt hm3
          simp only at l4 l5
          clear hm2 hc3
          have f6s := free2 hb6s
          have c6s := cells2 hb6s
          have hgz1 := Lib.hid (hgz.out.trans hg1)
          have hgi1 := Lib.hid (hgi.trans hg1)
          clear hg1 hgi hgz hgx
          by_cases hd : d ≤ near
          · by_cases he1 : p + 1 = t.1
            · by_cases he2 : q + d = t.2
              · have Hhit : Hid (hitB A B f near t i k = true) := by show _ = _; rw [Hh.out]; simp [hd, he1, he2]
                go_wp2_with fail
                go_quiet (fail)
                go_wp2_with fail
                refine bp_gen (F := fun W' => w.grownBy W' none ∧ W'.cell? ⟨w.heap.size + 1, 0, none⟩ = some (.int .i64 i) ∧ W'.cell? ⟨w.heap.size + 1, 1, none⟩ = some (.int .i64 k)) ⟨grown_set (grown_set (grown_drewN (grown_alloc_r hgz1.out _) _) (by omega) _ _) (by omega) _ _, cells2 (hp_set (hp_set (T := 54) (cs := #[.int .i64 0, .int .i64 0]) (by simp only [hp_alloc, hp_drewN, hp_drew, Array.getElem?_push, Array.size_push]; (repeat' split) <;> first | rfl | assumption | omega | exact absurd trivial (by assumption)) 0 _) 1 _)⟩ ?_
                rintro W' ⟨hg', hc0, hc1⟩
                refine bodyPost_ret (v := .tuple #[.agg #[.int .i64 i, .int .i64 k], .bool true]) (by simp [results, Tryz.results67, go_sem, hc0, hc1]) rfl ⟨hg', .inl ⟨i, k, rfl, hi1, hlt, hk1, hkt, Hhit.out, fun a' c' h1 h2 h3 h4 h5 => ?_⟩⟩
                rcases h5 with h5 | ⟨rfl, h5⟩
                · exact hno.out a' c' h1 h5 h3 h4
                · exact hnk.out c' h3 h5
              · have hb2 : (q + d == t.2) = false := by simpa using he2
                have Hhit : Hid (hitB A B f near t i k = false) := by show _ = _; rw [Hh.out]; simp [he2]
                go_wp2_with fail
                go_quiet (fail)
                go_wp2_with fail
                exact ⟨⟨k + 1, by omega, by omega, by go_num, Lib.hid (ext_no hnk.out Hhit.out), grown_drewN (grown_alloc_r hgi1.out _) _⟩, by simp [intOf]; omega⟩
            · have hb1 : (p + 1 == t.1) = false := by simpa using he1
              have Hhit : Hid (hitB A B f near t i k = false) := by show _ = _; rw [Hh.out]; simp [he1]
              go_wp2_with fail
              go_quiet (fail)
              go_wp2_with fail
              exact ⟨⟨k + 1, by omega, by omega, by go_num, Lib.hid (ext_no hnk.out Hhit.out), grown_drewN (grown_alloc_r hgi1.out _) _⟩, by simp [intOf]; omega⟩
          · have hb1 : decide (d ≤ near) = false := by simpa using hd
            have Hhit : Hid (hitB A B f near t i k = false) := by show _ = _; rw [Hh.out, hb1]; rfl
            go_wp2_with fail
            go_quiet (fail)
            go_wp2_with fail
            exact ⟨⟨k + 1, by omega, by omega, by go_num, Lib.hid (ext_no hnk.out Hhit.out), grown_drewN (grown_alloc_r hgi1.out _) _⟩, by simp [intOf]; omega⟩
        · go_wp2_with fail
          exact ⟨⟨i + 1, by omega, by omega, by go_num, Lib.hid (ext_row hno.out (fun c h3 h4 => hnk.out c h3 (by omega))), hgx⟩, by simp [intOf]; omega⟩
    · go_wp2_with fail
      refine bp_gen (F := fun W' => w.grownBy W' none ∧ W'.cell? ⟨w.heap.size + 1, 0, none⟩ = some (.int .i64 0) ∧ W'.cell? ⟨w.heap.size + 1, 1, none⟩ = some (.int .i64 0)) ⟨grown_set (grown_set (hg0.trans hgr) (by omega) _ _) (by omega) _ _, cells2 (hp_set (hp_set (blk_up hb6 hgr) 0 _) 1 _)⟩ ?_
      rintro W' ⟨hg', hc0, hc1⟩
      exact bodyPost_ret (v := .tuple #[.agg #[.int .i64 0, .int .i64 0], .bool false]) (by simp [results, Tryz.results67, go_sem, hc0, hc1]) rfl ⟨hg', .inr ⟨rfl, fun a c h1 h2 h3 h4 => hno.out a c h1 (by omega) h3 h4⟩⟩
end Go.Proofs.YtlifcpcfhkpejaaGreat.Hd

/- Plain law: the scores of the best matchings as numbers, and their bounds. -/
namespace Go.Proofs.YtlifcpcfhkpejaaGreat.Hd
set_option linter.unusedVariables false
set_option linter.unusedSimpArgs false
open Go.RowKit

def nearB (A B : List (Int × Int)) (near : Int) (i k : Nat) : Bool := decide (dist (atI A i) (atI B k) ≤ near)
def farI (A B : List (Int × Int)) (i k : Nat) : Int := dist (atI A i) (atI B k)
def bestM (A B : List (Int × Int)) (near : Int) (i k : Nat) : Mat.Pr := Mat.best (nearB A B near) (farI A B) A.length B.length i k
def scI (A B : List (Int × Int)) (near : Int) (i k : Nat) : Int × Int := (((bestM A B near i k).1.length : Int), (bestM A B near i k).2)
def cndI (A B : List (Int × Int)) (near : Int) (i k : Nat) : Int × Int := ((scI A B near (i + 1) (k + 1)).1 + 1, (scI A B near (i + 1) (k + 1)).2 + farI A B i k)
def stepI (A B : List (Int × Int)) (near : Int) (i k : Nat) : Int × Int := if bscI (scI A B near i (k + 1)) (scI A B near (i + 1) k) then scI A B near i (k + 1) else scI A B near (i + 1) k

def toI (s : Nat × Int) : Int × Int := ((s.1 : Int), s.2)
theorem scI_eq (A B : List (Int × Int)) (near : Int) (i k : Nat) : scI A B near i k = toI (Mat.sco (bestM A B near i k)) := rfl
theorem bsc_toI (s t : Nat × Int) : bscI (toI s) (toI t) = Mat.bsc s t := by
  obtain ⟨s1, s2⟩ := s
  obtain ⟨t1, t2⟩ := t
  show (decide ((t1 : Int) < s1) || decide ((s1 : Int) = t1) && decide (s2 < t2)) = (decide (t1 < s1) || decide (s1 = t1) && decide (s2 < t2))
  rw [show decide ((t1 : Int) < s1) = decide (t1 < s1) from decide_eq_decide.2 (by omega), show decide ((s1 : Int) = t1) = decide (s1 = t1) from decide_eq_decide.2 (by omega)]
theorem toI_pick (y x : Mat.Pr) : toI (Mat.sco (Mat.pick y x)) = if bscI (toI (Mat.sco y)) (toI (Mat.sco x)) then toI (Mat.sco y) else toI (Mat.sco x) := by
  rw [Mat.sco_pick, bsc_toI]; split <;> rfl

theorem scI_in (A B : List (Int × Int)) (near : Int) (i k : Nat) (hi : i < A.length) (hk : k < B.length) :
    scI A B near i k = if nearB A B near i k = true ∧ bscI (cndI A B near i k) (stepI A B near i k) = true then cndI A B near i k else stepI A B near i k := by
  have hc : cndI A B near i k = toI (Mat.sco (Mat.cand (nearB A B near) (farI A B) A.length B.length i k)) := by
    simp [cndI, toI, Mat.sco, Mat.cand, scI, bestM]
  have hs : stepI A B near i k = toI (Mat.sco (Mat.pick (bestM A B near i (k + 1)) (bestM A B near (i + 1) k))) := by
    rw [toI_pick]; rfl
  rw [scI_eq, bestM, Mat.best_in _ _ _ _ i k hi hk, hc, hs]
  by_cases hn : nearB A B near i k = true
  · simp only [hn, if_true, true_and]
    rw [toI_pick]
    rfl
  · simp only [hn, if_false, false_and]
    rfl

theorem scI_end1 (A B : List (Int × Int)) (near : Int) (k : Nat) : scI A B near A.length k = (0, 0) := by simp [scI, bestM, Mat.best_end1]
theorem scI_end2 (A B : List (Int × Int)) (near : Int) (i : Nat) : scI A B near i B.length = (0, 0) := by simp [scI, bestM, Mat.best_end2]

theorem best_bd (near : Nat → Nat → Bool) (f : Nat → Nat → Int) (n m : Nat) (D : Int) (hf : ∀ i k, i < n → k < m → 0 ≤ f i k ∧ f i k ≤ D) :
    ∀ (s i k : Nat), s = (n - i) + (m - k) → (Mat.best near f n m i k).1.length ≤ n - i ∧ 0 ≤ (Mat.best near f n m i k).2 ∧ (Mat.best near f n m i k).2 ≤ ((Mat.best near f n m i k).1.length : Int) * D := by
  intro s
  induction s using Nat.strongRecOn with
  | ind s ih =>
    intro i k hs
    rw [Mat.best]
    have hx0 : ∀ x0 : Mat.Pr, x0 = (if i < n then Mat.best near f n m (i + 1) k else ([], 0)) → x0.1.length ≤ n - i ∧ 0 ≤ x0.2 ∧ x0.2 ≤ (x0.1.length : Int) * D := by
      intro x0 e
      by_cases hi : i < n
      · rw [if_pos hi] at e; subst e
        obtain ⟨h1, h2, h3⟩ := ih _ (by omega) (i + 1) k rfl
        exact ⟨by omega, h2, h3⟩
      · rw [if_neg hi] at e; subst e; simp
    generalize (if i < n then Mat.best near f n m (i + 1) k else (([], 0) : Mat.Pr)) = x0 at hx0 ⊢
    have h0 := hx0 x0 rfl
    clear hx0
    have hx1 : ∀ x1 : Mat.Pr, x1 = (if k < m then Mat.pick (Mat.best near f n m i (k + 1)) x0 else x0) → x1.1.length ≤ n - i ∧ 0 ≤ x1.2 ∧ x1.2 ≤ (x1.1.length : Int) * D := by
      intro x1 e
      by_cases hk : k < m
      · rw [if_pos hk] at e
        unfold Mat.pick at e
        split at e <;> subst e
        · exact ih _ (by omega) i (k + 1) rfl
        · exact h0
      · rw [if_neg hk] at e; subst e; exact h0
    generalize (if k < m then Mat.pick (Mat.best near f n m i (k + 1)) x0 else x0) = x1 at hx1 ⊢
    have h1 := hx1 x1 rfl
    clear hx1
    split
    · rename_i hc
      obtain ⟨hi, hk, -⟩ := hc
      unfold Mat.pick
      split
      · obtain ⟨h3, h4, h5⟩ := ih _ (by omega) (i + 1) (k + 1) rfl
        obtain ⟨h6, h7⟩ := hf i k hi hk
        refine ⟨by simp; omega, by simp; omega, ?_⟩
        simp only [List.length_cons, Int.natCast_add, Int.add_mul]
        simp; omega
      · exact h1
    · exact h1

theorem scI_bd (A B : List (Int × Int)) (near : Int) (hla : A.length ≤ 100) (hAx : ∀ i, i < A.length → 0 ≤ atI A i ∧ atI A i ≤ 1000000) (hBx : ∀ i, i < B.length → 0 ≤ atI B i ∧ atI B i ≤ 1000000) (i k : Nat) :
    0 ≤ (scI A B near i k).1 ∧ (scI A B near i k).1 ≤ 1000 ∧ 0 ≤ (scI A B near i k).2 ∧ (scI A B near i k).2 ≤ 1000000000 := by
  obtain ⟨h1, h2, h3⟩ := best_bd (nearB A B near) (farI A B) A.length B.length 1000000 (fun i k hi hk => by
    have := hAx i hi; have := hBx k hk; unfold farI dist; omega) _ i k rfl
  simp only [scI, bestM]
  refine ⟨by omega, by omega, h2, ?_⟩
  omega
end Go.Proofs.YtlifcpcfhkpejaaGreat.Hd

/- Plain law: the pairs of the best matchings rise and are in range. -/
namespace Go.Proofs.YtlifcpcfhkpejaaGreat.Hd
set_option linter.unusedVariables false
set_option linter.unusedSimpArgs false
open Go.RowKit

def Rise (n m i k : Nat) (x : Mat.Pr) : Prop := (∀ p ∈ x.1, i ≤ p.1 ∧ p.1 < n ∧ k ≤ p.2 ∧ p.2 < m) ∧ x.1.Pairwise (fun p q => p.1 < q.1 ∧ p.2 < q.2)
theorem Rise.nil (n m i k : Nat) : Rise n m i k ([], 0) := ⟨by simp, List.Pairwise.nil⟩
theorem Rise.mono {n m i k i' k' : Nat} {x : Mat.Pr} (h : Rise n m i k x) (hi : i' ≤ i) (hk : k' ≤ k) : Rise n m i' k' x := ⟨fun p hp => by have := h.1 p hp; omega, h.2⟩
theorem Rise.pick {n m i k : Nat} {x y : Mat.Pr} (hx : Rise n m i k x) (hy : Rise n m i k y) : Rise n m i k (Mat.pick x y) := by unfold Mat.pick; split <;> assumption
theorem Rise.cons {n m i k : Nat} {x : Mat.Pr} {d : Int} (h : Rise n m (i + 1) (k + 1) x) (hi : i < n) (hk : k < m) : Rise n m i k ((i, k) :: x.1, d) := by
  refine ⟨fun p hp => ?_, List.Pairwise.cons (fun p hp => by have := h.1 p hp; simp only; omega) h.2⟩
  rcases List.mem_cons.1 hp with rfl | hp
  · simp only; omega
  · have := h.1 p hp; omega
theorem Rise.len {n m i k : Nat} : ∀ {l : List (Nat × Nat)} {d : Int}, Rise n m i k (l, d) → l.length ≤ n - i := by
  intro l
  induction l generalizing i k with
  | nil => simp
  | cons p r ih =>
    intro d h
    have h1 := h.1 p (by simp)
    have h2 := List.pairwise_cons.1 h.2
    have h3 : Rise n m (p.1 + 1) (p.2 + 1) (r, d) := ⟨fun q hq => by have := h2.1 q hq; have := h.1 q (List.mem_cons_of_mem _ hq); omega, h2.2⟩
    have := ih h3
    simp only [List.length_cons]
    omega

theorem best_rise (near : Nat → Nat → Bool) (f : Nat → Nat → Int) (n m : Nat) : ∀ (s i k : Nat), s = (n - i) + (m - k) → Rise n m i k (Mat.best near f n m i k) := by
  intro s
  induction s using Nat.strongRecOn with
  | ind s ih =>
    intro i k hs
    rw [Mat.best]
    have h0 : Rise n m i k (if i < n then Mat.best near f n m (i + 1) k else (([], 0) : Mat.Pr)) := by
      by_cases hi : i < n
      · rw [if_pos hi]; exact (ih _ (by omega) (i + 1) k rfl).mono (by omega) (by omega)
      · rw [if_neg hi]; exact Rise.nil _ _ _ _
    generalize (if i < n then Mat.best near f n m (i + 1) k else (([], 0) : Mat.Pr)) = x0 at h0 ⊢
    have h1 : Rise n m i k (if k < m then Mat.pick (Mat.best near f n m i (k + 1)) x0 else x0) := by
      by_cases hk : k < m
      · rw [if_pos hk]; exact ((ih _ (by omega) i (k + 1) rfl).mono (by omega) (by omega)).pick h0
      · rw [if_neg hk]; exact h0
    generalize (if k < m then Mat.pick (Mat.best near f n m i (k + 1)) x0 else x0) = x1 at h1 ⊢
    split
    · rename_i hc
      exact (Rise.cons (ih _ (by omega) (i + 1) (k + 1) rfl) hc.1 hc.2.1).pick h1
    · exact h1

theorem bestM_rise (A B : List (Int × Int)) (near : Int) (i k : Nat) : Rise A.length B.length i k (bestM A B near i k) := best_rise _ _ _ _ _ i k rfl
theorem Rise.small {n m i k : Nat} {x : Mat.Pr} (h : Rise n m i k x) (hn : n ≤ 100) (hm : m ≤ 100) : x.1.length ≤ 1000 ∧ ∀ p ∈ x.1, p.1 ≤ 1000 ∧ p.2 ≤ 1000 := by
  obtain ⟨l, d⟩ := x
  exact ⟨by have := h.len; simp only; omega, fun p hp => by have := h.1 p hp; omega⟩
end Go.Proofs.YtlifcpcfhkpejaaGreat.Hd

/- Plain law: the best matchings are near, their sums are told, and more tolerance does not lessen them. -/
namespace Go.Proofs.YtlifcpcfhkpejaaGreat.Hd
set_option linter.unusedVariables false
set_option linter.unusedSimpArgs false

def fsum (f : Nat → Nat → Int) : List (Nat × Nat) → Int
  | [] => 0
  | p :: r => f p.1 p.2 + fsum f r
section
variable (near : Nat → Nat → Bool) (f : Nat → Nat → Int) (n m : Nat)
def Tru (x : Mat.Pr) : Prop := (∀ p ∈ x.1, near p.1 p.2 = true) ∧ x.2 = fsum f x.1
theorem Tru.pick {x y : Mat.Pr} (hx : Tru near f x) (hy : Tru near f y) : Tru near f (Mat.pick x y) := by unfold Mat.pick; split <;> assumption
theorem best_tru : ∀ (s i k : Nat), s = (n - i) + (m - k) → Tru near f (Mat.best near f n m i k) := by
  intro s
  induction s using Nat.strongRecOn with
  | ind s ih =>
    intro i k hs
    rw [Mat.best]
    have h00 : Tru near f ([], 0) := ⟨by simp, rfl⟩
    have h0 : Tru near f (if i < n then Mat.best near f n m (i + 1) k else (([], 0) : Mat.Pr)) := by
      by_cases hi : i < n
      · rw [if_pos hi]; exact ih _ (by omega) (i + 1) k rfl
      · rw [if_neg hi]; exact h00
    generalize (if i < n then Mat.best near f n m (i + 1) k else (([], 0) : Mat.Pr)) = x0 at h0 ⊢
    have h1 : Tru near f (if k < m then Mat.pick (Mat.best near f n m i (k + 1)) x0 else x0) := by
      by_cases hk : k < m
      · rw [if_pos hk]; exact (ih _ (by omega) i (k + 1) rfl).pick near f h0
      · rw [if_neg hk]; exact h0
    generalize (if k < m then Mat.pick (Mat.best near f n m i (k + 1)) x0 else x0) = x1 at h1 ⊢
    split
    · rename_i hc
      refine Tru.pick near f ?_ h1
      have h2 := ih _ (by omega) (i + 1) (k + 1) rfl
      refine ⟨fun p hp => ?_, ?_⟩
      · rcases List.mem_cons.1 hp with rfl | hp
        · exact hc.2.2
        · exact h2.1 p hp
      · show _ + f i k = f i k + fsum f _
        rw [h2.2]; omega
    · exact h1
theorem bet_len {x y : Mat.Pr} (h : Mat.bet x y = false) : x.1.length ≤ y.1.length := by
  unfold Mat.bet at h
  split at h
  · omega
  · simp only [decide_eq_false_iff_not] at h; omega
/-- no way through both lists that is near has more pairs -/
theorem best_len : ∀ (L : List (Nat × Nat)) (i k : Nat), i ≤ n → k ≤ m → (∀ p ∈ L, i ≤ p.1 ∧ p.1 < n ∧ k ≤ p.2 ∧ p.2 < m ∧ near p.1 p.2 = true) → L.Pairwise (fun p q => p.1 < q.1 ∧ p.2 < q.2) → L.length ≤ (Mat.best near f n m i k).1.length
  | [], i, k, _, _, _, _ => Nat.zero_le _
  | p :: r, i, k, hi, hk, h, hp => by
    obtain ⟨h1, h2, h3, h4, h5⟩ := h p (by simp)
    obtain ⟨g1, g2⟩ := List.pairwise_cons.1 hp
    have ih := best_len r (p.1 + 1) (p.2 + 1) (by omega) (by omega) (fun q hq => by
      have := g1 q hq
      obtain ⟨_, a, _, b, c⟩ := h q (List.mem_cons_of_mem _ hq)
      exact ⟨by omega, a, by omega, b, c⟩) g2
    have hb := bet_len ((Mat.best_opt near f n m _ i k rfl hi hk).2 p.1 p.2 h1 h2 h3 h4 h5)
    simp only [Mat.cand, List.length_cons] at hb ⊢
    omega
end
theorem best_more (near near' : Nat → Nat → Bool) (f : Nat → Nat → Int) (n m : Nat) (h : ∀ i k, near i k = true → near' i k = true) : (Mat.best near f n m 0 0).1.length ≤ (Mat.best near' f n m 0 0).1.length := by
  have h1 := best_rise near f n m _ 0 0 rfl
  have h2 := best_tru near f n m _ 0 0 rfl
  refine best_len near' f n m _ 0 0 (Nat.zero_le _) (Nat.zero_le _) (fun p hp => ?_) h1.2
  have := h1.1 p hp
  exact ⟨by omega, by omega, by omega, by omega, h _ _ (h2.1 p hp)⟩
/-- pairs that rise through all of a list, twice -/
theorem rise_all : ∀ (l : List (Nat × Nat)) (n i : Nat) (d : Int), Rise n n i i (l, d) → l.length = n - i → l = (List.range' i (n - i)).map fun j => (j, j)
  | [], n, i, d, _, hl => by
    simp only [List.length_nil] at hl
    rw [← hl]; rfl
  | (p1, p2) :: r, n, i, d, h, hl => by
    have h1 := h.1 (p1, p2) (by simp)
    have h2 := List.pairwise_cons.1 h.2
    have h3 : Rise n n (p1 + 1) (p2 + 1) (r, d) := ⟨fun q hq => by have := h2.1 q hq; have := h.1 q (List.mem_cons_of_mem _ hq); omega, h2.2⟩
    have h4 := h3.len
    have h3' : Rise n n (p2 + 1) (p1 + 1) (r.map fun q => (q.2, q.1), d) := ⟨fun q hq => by
      obtain ⟨q, hq0, rfl⟩ := List.mem_map.1 (show _ ∈ r.map _ from hq)
      have := h3.1 q (show q ∈ r from hq0); simp only; omega, by
      show (r.map fun q => (q.2, q.1)).Pairwise _
      rw [List.pairwise_map]
      exact h2.2.imp fun ⟨a, b⟩ => ⟨b, a⟩⟩
    have h5 := h3'.len
    simp only [List.length_map, List.length_cons] at h5 hl h4 h1
    obtain rfl : p1 = i := by omega
    obtain rfl : p2 = p1 := by omega
    have ih := rise_all r n (p2 + 1) d h3 (by omega)
    rw [show n - p2 = (n - (p2 + 1)) + 1 by omega, List.range'_succ, List.map_cons, ← ih]
theorem fsum_diag (f : Nat → Nat → Int) (h : ∀ j, f j j = 0) : ∀ l : List Nat, fsum f (l.map fun j => (j, j)) = 0
  | [] => rfl
  | j :: r => by rw [List.map_cons, fsum, fsum_diag f h r]; simp only; rw [h]; rfl
/-- a list matches itself wholly -/
theorem best_self (near : Nat → Nat → Bool) (f : Nat → Nat → Int) (n : Nat) (hn : ∀ j, near j j = true) (hf : ∀ j, f j j = 0) : Mat.best near f n n 0 0 = ((List.range' 0 n).map fun j => (j, j), 0) := by
  have h1 := best_rise near f n n _ 0 0 rfl
  have h2 := best_tru near f n n _ 0 0 rfl
  have h3 := best_len near f n n ((List.range' 0 n).map fun j => (j, j)) 0 0 (Nat.zero_le _) (Nat.zero_le _) (fun p hp => by
    obtain ⟨j, hj, rfl⟩ := List.mem_map.1 hp
    have := List.mem_range'_1.1 hj
    exact ⟨by simp, by simp only; omega, by simp, by simp only; omega, hn j⟩) (by
    rw [List.pairwise_map]
    exact (List.pairwise_lt_range' (s := 0) (n := n)).imp fun h => ⟨h, h⟩)
  generalize Mat.best near f n n 0 0 = x at *
  obtain ⟨l, d⟩ := x
  have h4 := h1.len
  simp only [List.length_map, List.length_range'] at h3
  have h5 := rise_all l n 0 d h1 (by omega)
  have h6 := h2.2
  simp only at h6 h5
  rw [h5, fsum_diag f hf] at h6
  rw [h5, h6]; rfl
end Go.Proofs.YtlifcpcfhkpejaaGreat.Hd

/- Walk: the table of scores (package trace). -/
namespace Go.Proofs.YtlifcpcfhkpejaaGreat.Hd
set_option linter.unusedVariables false
set_option linter.unusedSimpArgs false
open Go.RowKit

theorem info_score : ∃ i z, Tryz.prog.info? 149 = some i ∧ i.zero = some z ∧ i.size = 2 ∧ i.bytes = 16 ∧ z.cells = #[.int .i64 0, .int .i64 0] := by
  obtain ⟨i, hi, hz, h1, h2⟩ := info_parts (show (Tryz.prog.info? 149).map (fun i => (i.zero, i.size, i.bytes)) = some (some (.agg #[.int .i64 0, .int .i64 0]), 2, 16) by kernel_rfl)
  exact ⟨i, _, hi, hz, h1, h2, rfl⟩
theorem info_scores : (Tryz.prog.info? 150).map (fun i => (i.zero, i.size, i.bytes)) = some (some (.slice none 0 0), 1, 24) := by kernel_rfl

def vI (s : Int × Int) : Value × Value := (.int .i64 s.1, .int .i64 s.2)
/-- what is done when row i is done from c on -/
def DoneT (A B : List (Int × Int)) (near : Int) (V : Nat → Nat → Value × Value) (i c : Nat) : Prop :=
  ∀ i' k', i' ≤ A.length → k' ≤ B.length → (i < i' ∨ (i = i' ∧ c ≤ k') ∨ i' = A.length ∨ k' = B.length) → V i' k' = vI (scI A B near i' k')

theorem DoneT.start (A B : List (Int × Int)) (near : Int) : DoneT A B near (fun _ _ => vI (0, 0)) A.length 0 := by
  intro i' k' hi hk h
  by_cases e : i' = A.length
  · subst e; rw [scI_end1]
  · obtain rfl : k' = B.length := by omega
    rw [scI_end2]
theorem DoneT.row {A B : List (Int × Int)} {near : Int} {V : Nat → Nat → Value × Value} {i : Nat} (h : DoneT A B near V (i + 1) 0) : DoneT A B near V i B.length := fun i' k' hi hk h1 => h i' k' hi hk (by omega)
theorem DoneT.put {A B : List (Int × Int)} {near : Int} {V : Nat → Nat → Value × Value} {i c : Nat} (h : DoneT A B near V i (c + 1)) (hi0 : i < A.length) (hc0 : c < B.length) : DoneT A B near (fun i' k' => if i' = i ∧ k' = c then vI (scI A B near i c) else V i' k') i c := by
  intro i' k' hi hk h1
  by_cases e : i' = i ∧ k' = c
  · obtain ⟨rfl, rfl⟩ := e; simp
  · simp only [if_neg e]; exact h i' k' hi hk (by omega)

section
variable (w : World) (a b : Option Addr) (ca cb : Nat) (A B : List (Int × Int)) (near : Int)
def mcells (g : Nat) : Array Value := #[.slice a A.length ca, .slice b B.length cb, .int .i64 near, .slice (some ⟨g, 0, none⟩) (A.length + 1) (A.length + 1)]
/-- what stays during the loops -/
def NMW (W : World) (wr : World) : Prop :=
  W.grownBy wr none ∧ wr.heap[W.heap.size]? = some (.cells #[.slice none 0 0, .slice none 0 0, .int .i64 0, .slice none 0 0] 144 (0, 0)) ∧
    wr.heap[W.heap.size + 2]? = some (.cells (mcells a b ca cb A B near (W.heap.size + 1)) 144 (0, 0))
def NM1 (v26 : Value) (wr : World) : Prop :=
  ∃ (i : Nat) (R : Nat → Nat), i ≤ A.length + 1 ∧ v26 = .int .i64 i ∧ NMW a b ca cb A B near w wr ∧
    Hid (Grid wr 150 149 (w.heap.size + 3) (w.heap.size + 1) R (A.length + 1) (B.length + 1) (fun j => decide (j < i)) (fun _ _ => vI (0, 0)))
def NMG (R : Nat → Nat) (i c : Nat) (wr : World) : Prop :=
  NMW a b ca cb A B near w wr ∧ ∃ V, Hid (Grid wr 150 149 (w.heap.size + 3) (w.heap.size + 1) R (A.length + 1) (B.length + 1) (fun _ => true) V) ∧ Hid (DoneT A B near V i c)
def NM2 (R : Nat → Nat) (v9 : Value) (wr : World) : Prop :=
  ∃ (z : Int) (i : Nat), v9 = .int .i64 z ∧ Hid (z = (i : Int) - 1) ∧ i ≤ A.length ∧ NMG w a b ca cb A B near R i 0 wr
def NM3 (R : Nat → Nat) (i : Nat) (v10 : Value) (wr : World) : Prop :=
  ∃ (z : Int) (c : Nat), v10 = .int .i64 z ∧ Hid (z = (c : Int) - 1) ∧ c ≤ B.length ∧ NMG w a b ca cb A B near R i c wr
end

/-- the table is made -/
def NewPost (a b : Option Addr) (ca cb : Nat) (A B : List (Int × Int)) (near : Int) (w : World) (e : Ending) (w' : World) : Prop :=
  ∃ g R, e = .returned (.agg #[.slice a A.length ca, .slice b B.length cb, .int .i64 near, .slice (some ⟨g, 0, none⟩) (A.length + 1) (A.length + 1)]) ∧ MRd w' g R A.length B.length (scI A B near) ∧ w.grownBy w' none

set_option maxRecDepth 100000 in
set_option maxHeartbeats 8000000 in
theorem newmatcher_any (a b : Option Addr) (ca cb : Nat) (A B : List (Int × Int)) (near : Int) (w : World)
    (hA : At w a (prs A)) (hB : At w b (prs B)) (hla : A.length ≤ 100) (hlb : B.length ≤ 100)
    (hAx : ∀ i, i < A.length → 0 ≤ atI A i ∧ atI A i ≤ 1000000) (hBx : ∀ i, i < B.length → 0 ≤ atI B i ∧ atI B i ≤ 1000000) :
    Calls Tryz.prog 66 #[.slice a A.length ca, .slice b B.length cb, .int .i64 near] w (NewPost a b ca cb A B near w) := by
  have HAx := Lib.hid hAx
  have HBx := Lib.hid hBx
  have Hf := Lib.hid (scI_bd A B near hla hAx hBx)
  clear hAx hBx
  have hmk1 := run_make_row' (P := Tryz.prog) 142 150 (.slice none 0 0) 24 Tryz.underlying142 info_scores rfl .i64 .i64 (A.length + 1) (by omega) (by omega)
  have hmk2 := run_make_pair (P := Tryz.prog) 150 149 (.int .i64 0) (.int .i64 0) 16 Tryz.underlying150 info_score (B.length + 1) (by omega) (by omega)
  rw [show ((A.length + 1 : Nat) : Int) = (A.length : Int) + 1 by omega] at hmk1
  rw [show ((B.length + 1 : Nat) : Int) = (B.length : Int) + 1 by omega] at hmk2
  go_enter Tryz.func66, Tryz.ntmps66
  go_wp2_with fail
  refine wp_gen (F := fun W => NMW a b ca cb A B near w W ∧ Grid W 150 149 (w.heap.size + 3) (w.heap.size + 1) (fun _ => 0) (A.length + 1) (B.length + 1) (fun _ => false) (fun _ _ => vI (0, 0))) ⟨⟨(by repeat (first | with_reducible exact grown_refl _ _ | with_reducible assumption | with_reducible apply grown_alloc_r | with_reducible apply grown_drew_r | with_reducible apply grown_drewN | with_reducible refine World.grownBy.trans ?_ (by with_reducible assumption))), (by simp only [hp_alloc, hp_drewN, hp_drew, Array.getElem?_push, Array.size_push]; (repeat' split) <;> first | rfl | assumption | omega | exact absurd trivial (by assumption)), (by simp only [hp_alloc, hp_drewN, hp_drew, Array.getElem?_push, Array.size_push]; (repeat' split) <;> first | rfl | assumption | omega | exact absurd trivial (by assumption))⟩, by have h := (Grid.start (w.alloc (.cells #[.slice none 0 0, .slice none 0 0, .int .i64 0, .slice none 0 0] 144)) 150 149 (w.heap.size + 3) (A.length + 1) (B.length + 1) (by simp) (fun _ => 0) (fun _ _ => vI (0, 0))).alloc (.cells (mcells a b ca cb A B near (w.heap.size + 1)) 144); rw [show (w.alloc (.cells #[.slice none 0 0, .slice none 0 0, .int .i64 0, .slice none 0 0] 144)).heap.size = w.heap.size + 1 by simp] at h; exact h⟩ ?_
  rintro W0 ⟨hw0, hG0⟩
  have HG0 := Lib.hid hG0
  have hc7 := cells4 hw0.2.2
  clear hmk1 hG0
  go_loopw [26] (NM1 w a b ca cb A B near) (fun i _ => A.length + 1 - (intOf i).toNat)
  case atStart => exact ⟨0, _, by omega, rfl, hw0, by simpa using HG0⟩
  case round =>
    clear hw0 HG0 hc7
    obtain ⟨i, R, hi, rfl, hw, hG⟩ := hrel
    have hc7 := cells4 hw.2.2
    have l7 := lt_of_block hw.2.2
    by_cases hlt : i < A.length + 1
    · have hn := hG.out.nil hlt (by simp)
      have hfr := hG.out.free i
      have hz1 : (0 : Int) ≤ (i : Int) := by omega
      have hz2 : (i : Int) < (A.length : Int) + 1 := by omega
      have hl8 : w.heap.size + 1 < wr.heap.size := by omega
      have hwr : IntKind.i64.wrap ((B.length : Int) + 1) = (B.length : Int) + 1 := IntWalk.i64_in _ (by omega)
      go_wp2_with fail
      have HN := Lib.hid ((hG.out.mk (by omega) hlt (.int .i64 0) (.int .i64 0)).congr (made' := fun j => decide (j < i + 1)) (V' := fun _ _ => vI (0, 0)) (fun j hj => by rw [Bool.eq_iff_iff]; simp; omega) (fun j k hj hm hk => by split <;> rfl))
      clear hG
      go_region_held3 (fun w' => w'.cell? ⟨w.heap.size + 2, 3, none⟩ = some (.slice (some ⟨w.heap.size + 1, 0, none⟩) (A.length + 1) (A.length + 1))) (go_keep) (fail)
      go_wp2_with fail
      rw [set_past (by omega)]
      have hw1 := hw.1
      have hw2 := hw.2.1
      have hw3 := hw.2.2
      refine ⟨⟨i + 1, _, by omega, by go_num, ⟨grown_drew_r (grown_set (grown_alloc_r hw1 _) (by omega) _ _), ?_, ?_⟩, HN.out⟩, by simp [intOf]; omega⟩
      · exact hp_set_ne (w := wr.alloc _) (heap_alloc_old wr _ (lt_of_block hw2) |>.trans hw2) _ _ (by omega)
      · exact hp_set_ne (w := wr.alloc _) (heap_alloc_old wr _ (lt_of_block hw3) |>.trans hw3) _ _ (by omega)
    · have hi3 : i = A.length + 1 := by omega
      obtain ⟨hw0, HG0⟩ : NMW a b ca cb A B near w wr ∧ Hid (Grid wr 150 149 (w.heap.size + 3) (w.heap.size + 1) R (A.length + 1) (B.length + 1) (fun _ => true) (fun _ _ => vI (0, 0))) := ⟨hw, Lib.hid (hG.out.congr (fun j hj => by simp; omega) (fun _ _ _ _ _ => rfl))⟩
      clear hG hi3
      obtain ⟨wo, rfl⟩ : ∃ wo : World, wo = wr := ⟨_, rfl⟩
      obtain ⟨i9, rfl⟩ : ∃ i9 : Nat, i9 = i := ⟨_, rfl⟩
      clear hmk2
      go_wp2_with fail
      go_loopw [9] (NM2 w a b ca cb A B near R) (fun i _ => (intOf i + 1).toNat)
      case atStart => exact ⟨_, A.length, rfl, rfl, Nat.le_refl _, hw0, _, HG0, DoneT.start A B near⟩
      case round =>
        clear hw0 HG0 hc7 l7 hw hi
        obtain ⟨z, i, rfl, hz, hi, hw, V, hG, hD⟩ := hrel
        have hc7 := cells4 hw.2.2
        have l7 := lt_of_block hw.2.2
        rcases i with _ | i
        · obtain rfl : z = -1 := by have := hz.out; omega
          have c6 := cells4 hw.2.1
          have f6 := free4 hw.2.1
          go_wp2_with fail
          refine bp_gen (F := fun W' => w.grownBy W' none ∧ Grid W' 150 149 (w.heap.size + 3) (w.heap.size + 1) R (A.length + 1) (B.length + 1) (fun _ => true) V ∧ W'.heap[w.heap.size]? = some (.cells (mcells a b ca cb A B near (w.heap.size + 1)) 144 (0, 0))) ⟨grown_set (grown_set (grown_set (grown_set hw.1 (Nat.le_refl _) _ _) (Nat.le_refl _) _ _) (Nat.le_refl _) _ _) (Nat.le_refl _) _ _, (((hG.out.setOther (by omega) (by omega) _ _).setOther (by omega) (by omega) _ _).setOther (by omega) (by omega) _ _).setOther (by omega) (by omega) _ _, hp_set (hp_set (hp_set (hp_set hw.2.1 0 _) 1 _) 2 _) 3 _⟩ ?_
          rintro W' ⟨hg', hG', hb6⟩
          have hc := cells4 hb6
          refine bodyPost_ret (v := .agg #[.slice a A.length ca, .slice b B.length cb, .int .i64 near, .slice (some ⟨w.heap.size + 1, 0, none⟩) (A.length + 1) (A.length + 1)]) (by simp [results, Tryz.results66, go_sem, hc]) rfl ⟨w.heap.size + 1, R, rfl, ?_, hg'⟩
          intro i hi
          refine ⟨hG'.outer (by omega) rfl, fun k hk => ?_⟩
          have h1 := hG'.cells (i := i) (k := k) (by omega) rfl (by omega)
          rw [hD.out i k hi hk (by omega)] at h1
          exact h1
        · obtain rfl : z = (i : Int) := by have := hz.out; omega
          clear hz
          obtain ⟨wq, rfl⟩ : ∃ wo : World, wo = wr := ⟨_, rfl⟩
          have hzi : (0 : Int) ≤ (i : Int) := by omega
          go_wp2_with fail
          go_loopw [10] (NM3 w a b ca cb A B near R i) (fun i _ => (intOf i + 1).toNat)
          case atStart => exact ⟨_, B.length, rfl, rfl, Nat.le_refl _, hw, V, hG, hD.out.row⟩
          case round =>
            clear hw hG hD hc7 l7
            obtain ⟨z, c, rfl, hz, hc, hw, V, hG, hD⟩ := hrel
            have hc7 := cells4 hw.2.2
            have l7 := lt_of_block hw.2.2
            rcases c with _ | k
            · obtain rfl : z = -1 := by have := hz.out; omega
              go_wp2_with fail
              exact ⟨⟨_, i, rfl, Lib.hid rfl, by omega, hw, V, hG, hD⟩, by simp [intOf]⟩
            · obtain rfl : z = (k : Int) := by have := hz.out; omega
              clear hz
              have hib : (i : Int) + 1 < (A.length : Int) + 1 := by omega
              have hib2 : (i : Int) < (A.length : Int) + 1 := by omega
              have hkb : (k : Int) + 1 < (B.length : Int) + 1 := by omega
              have hkb2 : (k : Int) < (B.length : Int) + 1 := by omega
              have hik : (0 : Int) ≤ (k : Int) := by omega
              have o1 := hG.out.outer (i := i + 1) (by omega) rfl
              have o2 := hG.out.outer (i := i) (by omega) rfl
              obtain ⟨q1, q2⟩ := hG.out.cells (i := i + 1) (k := k) (by omega) rfl (by omega)
              obtain ⟨q3, q4⟩ := hG.out.cells (i := i) (k := k + 1) (by omega) rfl (by omega)
              rw [hD.out (i + 1) k (by omega) (by omega) (by omega)] at q1 q2
              rw [hD.out i (k + 1) (by omega) (by omega) (by omega)] at q3 q4
              have hl8 : w.heap.size + 1 < wr.heap.size := by omega
              have l1 := hG.out.rlt (i := i + 1) (by omega) rfl
              have l2 := hG.out.rlt (i := i) (by omega) rfl
              have hX : Hid (stepI A B near i k = if bscI (scI A B near i (k + 1)) (scI A B near (i + 1) k) then scI A B near i (k + 1) else scI A B near (i + 1) k) := rfl
              change _ = some (Value.int .i64 (scI A B near (i + 1) k).1) at q1
              change _ = some (Value.int .i64 (scI A B near (i + 1) k).2) at q2
              change _ = some (Value.int .i64 (scI A B near i (k + 1)).1) at q3
              change _ = some (Value.int .i64 (scI A B near i (k + 1)).2) at q4
              obtain ⟨ab, ao, rfl, ha1, ha2⟩ := (hA.up hw.1).pair (k := i) (by omega)
              obtain ⟨bb, bo, rfl, hb1, hb2⟩ := (hB.up hw.1).pair (k := k) (by omega)
              have hbs : bscI (scI A B near i (k + 1)) (scI A B near (i + 1) k) = bscI ((scI A B near i (k + 1)).1, (scI A B near i (k + 1)).2) ((scI A B near (i + 1) k).1, (scI A B near (i + 1) k).2) := rfl
              rw [hbs] at hX
              clear hbs
              go_wp2_with fail
              refine (sbetter_any _ _ _ _ _).mono ?_
              rintro e w1 ⟨rfl, hg1⟩
              have hb11 : w1.heap[wr.heap.size]? = some (.cells #[.int .i64 (scI A B near (i + 1) k).1, .int .i64 (scI A B near (i + 1) k).2] 149 (0, 0)) := blk_up (by simp only [hp_alloc, hp_drewN, hp_drew, Array.getElem?_push, Array.size_push]; (repeat' split) <;> first | rfl | assumption | omega | exact absurd trivial (by assumption)) hg1
              have hb12 : w1.heap[wr.heap.size + 1]? = some (.cells #[.int .i64 (scI A B near i (k + 1)).1, .int .i64 (scI A B near i (k + 1)).2] 149 (0, 0)) := blk_up (by simp only [hp_alloc, hp_drewN, hp_drew, Array.getElem?_push, Array.size_push]; (repeat' split) <;> first | rfl | assumption | omega | exact absurd trivial (by assumption)) hg1
              have hgr : wr.grownBy w1 none := (by repeat (first | with_reducible exact grown_refl _ _ | with_reducible assumption | with_reducible apply grown_alloc_r | with_reducible apply grown_drew_r | with_reducible apply grown_drewN | with_reducible refine World.grownBy.trans ?_ (by with_reducible assumption)))
              have hb7 := blk_up hw.2.2 hgr
              have c7 := cells4 hb7
              have c11 := cells2 hb11
              have c12 := cells2 hb12
              have f11 := free2 hb11
              have l11 := lt_of_block hb12
              clear q1 q2 q3 q4 o1 o2 hc7 ha2 hb2 hg1
              cases hB1 : bscI ((scI A B near i (k + 1)).1, (scI A B near i (k + 1)).2) ((scI A B near (i + 1) k).1, (scI A B near (i + 1) k).2)
              · have hS : stepI A B near i k = scI A B near (i + 1) k := by rw [hX.out, hB1]; rfl
                go_wp2_with fail
                refine calls_gen (F := fun W => wr.grownBy W none ∧ W.heap[wr.heap.size]? = some (.cells #[.int .i64 (stepI A B near i k).1, .int .i64 (stepI A B near i k).2] 149 (0, 0))) ⟨hgr, by rw [hS]; exact hb11⟩ ?_
                rintro W ⟨hgW, hbW⟩
                clear c7 c11 c12 f11 l11 hb11 hb12 hgr hb7 hX hB1 hS
                have hgA : w.grownBy W none := hw.1.trans hgW
                have hb7 := blk_up hw.2.2 hgW
                have c7 := cells4 hb7
                have hGW := Lib.hid (hG.out.up hgW)
                have l11 := lt_of_block hbW
                have x1 := HAx.out i (by omega)
                have x2 := HBx.out k (by omega)
                have x3 := Hf.out (i + 1) (k + 1)
                have o3 := hGW.out.outer (i := i + 1) (by omega) rfl
                obtain ⟨q5, q6⟩ := hGW.out.cells (i := i + 1) (k := k + 1) (by omega) rfl (by omega)
                rw [hD.out (i + 1) (k + 1) (by omega) (by omega) (by omega)] at q5 q6
                have hc1 : Hid (cndI A B near i k = ((scI A B near (i + 1) (k + 1)).1 + 1, (scI A B near (i + 1) (k + 1)).2 + dist (atI A i) (atI B k))) := rfl
                have hn1 : Hid (nearB A B near i k = decide (dist (atI A i) (atI B k) ≤ near)) := rfl
                have hs1 := Lib.hid (scI_in A B near i k (by omega) (by omega))
                have HW := Lib.hid (mwith_any ab ao bb bo (w.heap.size + 1) 0 (R (i + 1)) 0 A.length ca B.length cb (A.length + 1) (A.length + 1) (B.length + 1) (B.length + 1) i k (atI A i) (atI B k) near (scI A B near (i + 1) (k + 1)).1 (scI A B near (i + 1) (k + 1)).2 W (by omega) (by omega) (by omega) (by omega) (by omega) (by omega) (by omega) (by omega) x1.1 x1.2 x2.1 x2.2 x3.1 x3.2.1 x3.2.2.1 x3.2.2.2 (cell_up ha1 hgW) (cell_up hb1 hgW) (by rw [Nat.zero_add]; exact o3) (by rw [Nat.zero_add]; exact q5) (by rw [Nat.zero_add]; exact q6))
                clear q5 q6 o3 x1 x2 x3
                generalize dist (atI A i) (atI B k) = d at *
                generalize (scI A B near (i + 1) (k + 1)).1 = p at *
                generalize (scI A B near (i + 1) (k + 1)).2 = q at *
                generalize hxe : stepI A B near i k = X at *
                clear hxe
                refine HW.out.mono ?_
                clear HW
                rintro e w3 ⟨rfl, hg3⟩
                have hb11 := blk_up hbW hg3
                have hb7' := blk_up hb7 hg3
                have c11 := cells2 hb11
                have f11 := free2 hb11
                have l3 := lt_of_block hb11
                have hg3r : wr.grownBy w3 none := hgW.trans hg3
                clear c7 hg3
                by_cases hd : d ≤ near
                · go_wp2_with fail
                  refine (sbetter_any _ _ _ _ _).mono ?_
                  rintro e w4 ⟨rfl, hg4⟩
                  have hb13 : w4.heap[w3.heap.size]? = some (.cells #[.int .i64 (p + 1), .int .i64 (q + d)] 149 (0, 0)) := blk_up (by simp only [hp_alloc, hp_drewN, hp_drew, Array.getElem?_push, Array.size_push]; (repeat' split) <;> first | rfl | assumption | omega | exact absurd trivial (by assumption)) hg4
                  have hb11' := blk_up (heap_alloc_old w3 _ l3 |>.trans hb11) hg4
                  have hb7'' := blk_up (heap_alloc_old w3 _ (lt_of_block hb7') |>.trans hb7') hg4
                  have c11 := cells2 hb11'
                  have f11 := free2 hb11'
                  have c13 := cells2 hb13
                  have l13 := lt_of_block hb13
                  have l3' := lt_of_block hb11'
                  have hg4r : wr.grownBy w4 none := (by repeat (first | with_reducible exact grown_refl _ _ | with_reducible assumption | with_reducible apply grown_alloc_r | with_reducible apply grown_drew_r | with_reducible apply grown_drewN | with_reducible refine World.grownBy.trans ?_ (by with_reducible assumption)))
                  clear hg4 hg3r
                  cases hB2 : bscI (p + 1, q + d) (X.1, X.2)
                  · have hfin : Hid (scI A B near i k = X) := by show _ = _; rw [hs1.out, hc1.out, if_neg (by intro hh; rw [show bscI (p + 1, q + d) X = false from hB2] at hh; exact absurd hh.2 (by simp))]
                    go_wp2_with fail
                    refine wp_gen (F := fun W5 => wr.grownBy W5 none ∧ W5.heap[wr.heap.size]? = some (.cells #[.int .i64 (scI A B near i k).1, .int .i64 (scI A B near i k).2] 149 (0, 0))) ⟨hg4r, by rw [hfin.out]; exact hb11'⟩ ?_
                    rintro W5 ⟨hg5, hb5⟩
                    clear c11 f11 hfin c13 hg4r hb11' hb7'' hb13 l13 l3' hb7' hb11
                    have c7 := cells4 (blk_up hw.2.2 hg5)
                    have c5 := cells2 hb5
                    have hG5 := hG.out.up hg5
                    have o5 := hG5.outer (i := i) (by omega) rfl
                    have q5 := hG5.cells (i := i) (k := k) (by omega) rfl (by omega)
                    have f5 := hG5.rfree (i := i) (by omega) rfl
                    have hRlo := (hG5.2.2.1 i (by omega) rfl).2.1
                    have hRhi := hG.out.rlt (i := i) (by omega) rfl
                    have n1 : ¬ R i = w.heap.size + 2 := by omega
                    have n2 : ¬ R i = w.heap.size + 1 := by omega
                    have n3 : ¬ R i = wr.heap.size := by omega
                    have n1' : ¬ w.heap.size + 2 = R i := by omega
                    have n2' : ¬ w.heap.size + 1 = R i := by omega
                    have n3' : ¬ wr.heap.size = R i := by omega
                    have l5 := lt_of_block hb5
                    have HN := Lib.hid (hG5.put (i := i) (k := k) (by omega) rfl (.int .i64 (scI A B near i k).1) (.int .i64 (scI A B near i k).2))
                    have hh1 := Lib.hid (grown_set (grown_set (hw.1.trans hg5) (b := R i) (by omega) (k * 2) (.int .i64 (scI A B near i k).1)) (b := R i) (by omega) (k * 2 + 1) (.int .i64 (scI A B near i k).2))
                    have hh2 := Lib.hid (hp_set_ne (hp_set_ne (blk_up hw.2.1 hg5) (k * 2) (.int .i64 (scI A B near i k).1) (c := R i) (by omega)) (k * 2 + 1) (.int .i64 (scI A B near i k).2) (c := R i) (by omega))
                    have hh3 := Lib.hid (hp_set_ne (hp_set_ne (blk_up hw.2.2 hg5) (k * 2) (.int .i64 (scI A B near i k).1) (c := R i) (by omega)) (k * 2 + 1) (.int .i64 (scI A B near i k).2) (c := R i) (by omega))
                    have hD5 := Lib.hid (hD.out.put (by omega) (by omega))
                    clear hG5 hG hD hb5 hg5
                    go_region_held3 (fun w' => w'.cell? ⟨w.heap.size + 2, 3, none⟩ = some (.slice (some ⟨w.heap.size + 1, 0, none⟩) (A.length + 1) (A.length + 1)) ∧ w'.cell? ⟨w.heap.size + 1, i, none⟩ = some (.slice (some ⟨R i, 0, none⟩) (B.length + 1) (B.length + 1)) ∧ w'.cell? ⟨wr.heap.size, 0, none⟩ = some (.int .i64 (scI A B near i k).1) ∧ w'.cell? ⟨wr.heap.size, 1, none⟩ = some (.int .i64 (scI A B near i k).2)) (go_keep) (fail)
                    go_wp2_with fail
                    exact ⟨⟨_, k, rfl, Lib.hid rfl, by omega, ⟨grown_drew_r hh1.out, hh2.out, hh3.out⟩, _, HN.out, hD5.out⟩, by simp [intOf]⟩
                  · have hfin : Hid (scI A B near i k = (p + 1, q + d)) := by show _ = _; rw [hs1.out, hc1.out, if_pos ⟨by rw [hn1.out]; simpa using hd, hB2⟩]
                    go_wp2_with fail
                    refine wp_gen (F := fun W5 => wr.grownBy W5 none ∧ W5.heap[wr.heap.size]? = some (.cells #[.int .i64 (scI A B near i k).1, .int .i64 (scI A B near i k).2] 149 (0, 0))) ⟨grown_set (grown_set hg4r (Nat.le_refl _) _ _) (Nat.le_refl _) _ _, by rw [hfin.out]; exact hp_set (hp_set hb11' 0 _) 1 _⟩ ?_
                    rintro W5 ⟨hg5, hb5⟩
                    clear c11 f11 hfin c13 hg4r hb11' hb7'' hb13 l13 l3' hb7' hb11
                    have c7 := cells4 (blk_up hw.2.2 hg5)
                    have c5 := cells2 hb5
                    have hG5 := hG.out.up hg5
                    have o5 := hG5.outer (i := i) (by omega) rfl
                    have q5 := hG5.cells (i := i) (k := k) (by omega) rfl (by omega)
                    have f5 := hG5.rfree (i := i) (by omega) rfl
                    have hRlo := (hG5.2.2.1 i (by omega) rfl).2.1
                    have hRhi := hG.out.rlt (i := i) (by omega) rfl
                    have n1 : ¬ R i = w.heap.size + 2 := by omega
                    have n2 : ¬ R i = w.heap.size + 1 := by omega
                    have n3 : ¬ R i = wr.heap.size := by omega
                    have n1' : ¬ w.heap.size + 2 = R i := by omega
                    have n2' : ¬ w.heap.size + 1 = R i := by omega
                    have n3' : ¬ wr.heap.size = R i := by omega
                    have l5 := lt_of_block hb5
                    have HN := Lib.hid (hG5.put (i := i) (k := k) (by omega) rfl (.int .i64 (scI A B near i k).1) (.int .i64 (scI A B near i k).2))
                    have hh1 := Lib.hid (grown_set (grown_set (hw.1.trans hg5) (b := R i) (by omega) (k * 2) (.int .i64 (scI A B near i k).1)) (b := R i) (by omega) (k * 2 + 1) (.int .i64 (scI A B near i k).2))
                    have hh2 := Lib.hid (hp_set_ne (hp_set_ne (blk_up hw.2.1 hg5) (k * 2) (.int .i64 (scI A B near i k).1) (c := R i) (by omega)) (k * 2 + 1) (.int .i64 (scI A B near i k).2) (c := R i) (by omega))
                    have hh3 := Lib.hid (hp_set_ne (hp_set_ne (blk_up hw.2.2 hg5) (k * 2) (.int .i64 (scI A B near i k).1) (c := R i) (by omega)) (k * 2 + 1) (.int .i64 (scI A B near i k).2) (c := R i) (by omega))
                    have hD5 := Lib.hid (hD.out.put (by omega) (by omega))
                    clear hG5 hG hD hb5 hg5
                    go_region_held3 (fun w' => w'.cell? ⟨w.heap.size + 2, 3, none⟩ = some (.slice (some ⟨w.heap.size + 1, 0, none⟩) (A.length + 1) (A.length + 1)) ∧ w'.cell? ⟨w.heap.size + 1, i, none⟩ = some (.slice (some ⟨R i, 0, none⟩) (B.length + 1) (B.length + 1)) ∧ w'.cell? ⟨wr.heap.size, 0, none⟩ = some (.int .i64 (scI A B near i k).1) ∧ w'.cell? ⟨wr.heap.size, 1, none⟩ = some (.int .i64 (scI A B near i k).2)) (go_keep) (fail)
                    go_wp2_with fail
                    exact ⟨⟨_, k, rfl, Lib.hid rfl, by omega, ⟨grown_drew_r hh1.out, hh2.out, hh3.out⟩, _, HN.out, hD5.out⟩, by simp [intOf]⟩
                · have hdb : decide (d ≤ near) = false := by simpa using hd
                  have hfin : Hid (scI A B near i k = X) := by show _ = _; rw [hs1.out, hn1.out, hdb, if_neg (by simp)]
                  go_wp2_with fail
                  refine wp_gen (F := fun W5 => wr.grownBy W5 none ∧ W5.heap[wr.heap.size]? = some (.cells #[.int .i64 (scI A B near i k).1, .int .i64 (scI A B near i k).2] 149 (0, 0))) ⟨(by repeat (first | with_reducible exact grown_refl _ _ | with_reducible assumption | with_reducible apply grown_alloc_r | with_reducible apply grown_drew_r | with_reducible apply grown_drewN | with_reducible refine World.grownBy.trans ?_ (by with_reducible assumption))), by rw [hfin.out]; exact heap_alloc_old w3 _ l3 |>.trans hb11⟩ ?_
                  rintro W5 ⟨hg5, hb5⟩
                  clear c11 f11 hfin hg3r hb7' hb11
                  have c7 := cells4 (blk_up hw.2.2 hg5)
                  have c5 := cells2 hb5
                  have hG5 := hG.out.up hg5
                  have o5 := hG5.outer (i := i) (by omega) rfl
                  have q5 := hG5.cells (i := i) (k := k) (by omega) rfl (by omega)
                  have f5 := hG5.rfree (i := i) (by omega) rfl
                  have hRlo := (hG5.2.2.1 i (by omega) rfl).2.1
                  have hRhi := hG.out.rlt (i := i) (by omega) rfl
                  have n1 : ¬ R i = w.heap.size + 2 := by omega
                  have n2 : ¬ R i = w.heap.size + 1 := by omega
                  have n3 : ¬ R i = wr.heap.size := by omega
                  have n1' : ¬ w.heap.size + 2 = R i := by omega
                  have n2' : ¬ w.heap.size + 1 = R i := by omega
                  have n3' : ¬ wr.heap.size = R i := by omega
                  have l5 := lt_of_block hb5
                  have HN := Lib.hid (hG5.put (i := i) (k := k) (by omega) rfl (.int .i64 (scI A B near i k).1) (.int .i64 (scI A B near i k).2))
                  have hh1 := Lib.hid (grown_set (grown_set (hw.1.trans hg5) (b := R i) (by omega) (k * 2) (.int .i64 (scI A B near i k).1)) (b := R i) (by omega) (k * 2 + 1) (.int .i64 (scI A B near i k).2))
                  have hh2 := Lib.hid (hp_set_ne (hp_set_ne (blk_up hw.2.1 hg5) (k * 2) (.int .i64 (scI A B near i k).1) (c := R i) (by omega)) (k * 2 + 1) (.int .i64 (scI A B near i k).2) (c := R i) (by omega))
                  have hh3 := Lib.hid (hp_set_ne (hp_set_ne (blk_up hw.2.2 hg5) (k * 2) (.int .i64 (scI A B near i k).1) (c := R i) (by omega)) (k * 2 + 1) (.int .i64 (scI A B near i k).2) (c := R i) (by omega))
                  have hD5 := Lib.hid (hD.out.put (by omega) (by omega))
                  clear hG5 hG hD hb5 hg5
                  go_region_held3 (fun w' => w'.cell? ⟨w.heap.size + 2, 3, none⟩ = some (.slice (some ⟨w.heap.size + 1, 0, none⟩) (A.length + 1) (A.length + 1)) ∧ w'.cell? ⟨w.heap.size + 1, i, none⟩ = some (.slice (some ⟨R i, 0, none⟩) (B.length + 1) (B.length + 1)) ∧ w'.cell? ⟨wr.heap.size, 0, none⟩ = some (.int .i64 (scI A B near i k).1) ∧ w'.cell? ⟨wr.heap.size, 1, none⟩ = some (.int .i64 (scI A B near i k).2)) (go_keep) (fail)
                  go_wp2_with fail
                  exact ⟨⟨_, k, rfl, Lib.hid rfl, by omega, ⟨grown_drew_r hh1.out, hh2.out, hh3.out⟩, _, HN.out, hD5.out⟩, by simp [intOf]⟩
              · have hS : stepI A B near i k = scI A B near i (k + 1) := by rw [hX.out, hB1]; rfl
                go_wp2_with fail
                refine calls_gen (F := fun W => wr.grownBy W none ∧ W.heap[wr.heap.size]? = some (.cells #[.int .i64 (stepI A B near i k).1, .int .i64 (stepI A B near i k).2] 149 (0, 0))) ⟨grown_set (grown_set hgr (Nat.le_refl _) _ _) (Nat.le_refl _) _ _, by rw [hS]; exact hp_set (hp_set hb11 0 _) 1 _⟩ ?_
                rintro W ⟨hgW, hbW⟩
                clear c7 c11 c12 f11 l11 hb11 hb12 hgr hb7 hX hB1 hS
                have hgA : w.grownBy W none := hw.1.trans hgW
                have hb7 := blk_up hw.2.2 hgW
                have c7 := cells4 hb7
                have hGW := Lib.hid (hG.out.up hgW)
                have l11 := lt_of_block hbW
                have x1 := HAx.out i (by omega)
                have x2 := HBx.out k (by omega)
                have x3 := Hf.out (i + 1) (k + 1)
                have o3 := hGW.out.outer (i := i + 1) (by omega) rfl
                obtain ⟨q5, q6⟩ := hGW.out.cells (i := i + 1) (k := k + 1) (by omega) rfl (by omega)
                rw [hD.out (i + 1) (k + 1) (by omega) (by omega) (by omega)] at q5 q6
                have hc1 : Hid (cndI A B near i k = ((scI A B near (i + 1) (k + 1)).1 + 1, (scI A B near (i + 1) (k + 1)).2 + dist (atI A i) (atI B k))) := rfl
                have hn1 : Hid (nearB A B near i k = decide (dist (atI A i) (atI B k) ≤ near)) := rfl
                have hs1 := Lib.hid (scI_in A B near i k (by omega) (by omega))
                have HW := Lib.hid (mwith_any ab ao bb bo (w.heap.size + 1) 0 (R (i + 1)) 0 A.length ca B.length cb (A.length + 1) (A.length + 1) (B.length + 1) (B.length + 1) i k (atI A i) (atI B k) near (scI A B near (i + 1) (k + 1)).1 (scI A B near (i + 1) (k + 1)).2 W (by omega) (by omega) (by omega) (by omega) (by omega) (by omega) (by omega) (by omega) x1.1 x1.2 x2.1 x2.2 x3.1 x3.2.1 x3.2.2.1 x3.2.2.2 (cell_up ha1 hgW) (cell_up hb1 hgW) (by rw [Nat.zero_add]; exact o3) (by rw [Nat.zero_add]; exact q5) (by rw [Nat.zero_add]; exact q6))
                clear q5 q6 o3 x1 x2 x3
                generalize dist (atI A i) (atI B k) = d at *
                generalize (scI A B near (i + 1) (k + 1)).1 = p at *
                generalize (scI A B near (i + 1) (k + 1)).2 = q at *
                generalize hxe : stepI A B near i k = X at *
                clear hxe
                refine HW.out.mono ?_
                clear HW
                rintro e w3 ⟨rfl, hg3⟩
                have hb11 := blk_up hbW hg3
                have hb7' := blk_up hb7 hg3
                have c11 := cells2 hb11
                have f11 := free2 hb11
                have l3 := lt_of_block hb11
                have hg3r : wr.grownBy w3 none := hgW.trans hg3
                clear c7 hg3
                by_cases hd : d ≤ near
                · go_wp2_with fail
                  refine (sbetter_any _ _ _ _ _).mono ?_
                  rintro e w4 ⟨rfl, hg4⟩
                  have hb13 : w4.heap[w3.heap.size]? = some (.cells #[.int .i64 (p + 1), .int .i64 (q + d)] 149 (0, 0)) := blk_up (by simp only [hp_alloc, hp_drewN, hp_drew, Array.getElem?_push, Array.size_push]; (repeat' split) <;> first | rfl | assumption | omega | exact absurd trivial (by assumption)) hg4
                  have hb11' := blk_up (heap_alloc_old w3 _ l3 |>.trans hb11) hg4
                  have hb7'' := blk_up (heap_alloc_old w3 _ (lt_of_block hb7') |>.trans hb7') hg4
                  have c11 := cells2 hb11'
                  have f11 := free2 hb11'
                  have c13 := cells2 hb13
                  have l13 := lt_of_block hb13
                  have l3' := lt_of_block hb11'
                  have hg4r : wr.grownBy w4 none := (by repeat (first | with_reducible exact grown_refl _ _ | with_reducible assumption | with_reducible apply grown_alloc_r | with_reducible apply grown_drew_r | with_reducible apply grown_drewN | with_reducible refine World.grownBy.trans ?_ (by with_reducible assumption)))
                  clear hg4 hg3r
                  cases hB2 : bscI (p + 1, q + d) (X.1, X.2)
                  · have hfin : Hid (scI A B near i k = X) := by show _ = _; rw [hs1.out, hc1.out, if_neg (by intro hh; rw [show bscI (p + 1, q + d) X = false from hB2] at hh; exact absurd hh.2 (by simp))]
                    go_wp2_with fail
                    refine wp_gen (F := fun W5 => wr.grownBy W5 none ∧ W5.heap[wr.heap.size]? = some (.cells #[.int .i64 (scI A B near i k).1, .int .i64 (scI A B near i k).2] 149 (0, 0))) ⟨hg4r, by rw [hfin.out]; exact hb11'⟩ ?_
                    rintro W5 ⟨hg5, hb5⟩
                    clear c11 f11 hfin c13 hg4r hb11' hb7'' hb13 l13 l3' hb7' hb11
                    have c7 := cells4 (blk_up hw.2.2 hg5)
                    have c5 := cells2 hb5
                    have hG5 := hG.out.up hg5
                    have o5 := hG5.outer (i := i) (by omega) rfl
                    have q5 := hG5.cells (i := i) (k := k) (by omega) rfl (by omega)
                    have f5 := hG5.rfree (i := i) (by omega) rfl
                    have hRlo := (hG5.2.2.1 i (by omega) rfl).2.1
                    have hRhi := hG.out.rlt (i := i) (by omega) rfl
                    have n1 : ¬ R i = w.heap.size + 2 := by omega
                    have n2 : ¬ R i = w.heap.size + 1 := by omega
                    have n3 : ¬ R i = wr.heap.size := by omega
                    have n1' : ¬ w.heap.size + 2 = R i := by omega
                    have n2' : ¬ w.heap.size + 1 = R i := by omega
                    have n3' : ¬ wr.heap.size = R i := by omega
                    have l5 := lt_of_block hb5
                    have HN := Lib.hid (hG5.put (i := i) (k := k) (by omega) rfl (.int .i64 (scI A B near i k).1) (.int .i64 (scI A B near i k).2))
                    have hh1 := Lib.hid (grown_set (grown_set (hw.1.trans hg5) (b := R i) (by omega) (k * 2) (.int .i64 (scI A B near i k).1)) (b := R i) (by omega) (k * 2 + 1) (.int .i64 (scI A B near i k).2))
                    have hh2 := Lib.hid (hp_set_ne (hp_set_ne (blk_up hw.2.1 hg5) (k * 2) (.int .i64 (scI A B near i k).1) (c := R i) (by omega)) (k * 2 + 1) (.int .i64 (scI A B near i k).2) (c := R i) (by omega))
                    have hh3 := Lib.hid (hp_set_ne (hp_set_ne (blk_up hw.2.2 hg5) (k * 2) (.int .i64 (scI A B near i k).1) (c := R i) (by omega)) (k * 2 + 1) (.int .i64 (scI A B near i k).2) (c := R i) (by omega))
                    have hD5 := Lib.hid (hD.out.put (by omega) (by omega))
                    clear hG5 hG hD hb5 hg5
                    go_region_held3 (fun w' => w'.cell? ⟨w.heap.size + 2, 3, none⟩ = some (.slice (some ⟨w.heap.size + 1, 0, none⟩) (A.length + 1) (A.length + 1)) ∧ w'.cell? ⟨w.heap.size + 1, i, none⟩ = some (.slice (some ⟨R i, 0, none⟩) (B.length + 1) (B.length + 1)) ∧ w'.cell? ⟨wr.heap.size, 0, none⟩ = some (.int .i64 (scI A B near i k).1) ∧ w'.cell? ⟨wr.heap.size, 1, none⟩ = some (.int .i64 (scI A B near i k).2)) (go_keep) (fail)
                    go_wp2_with fail
                    exact ⟨⟨_, k, rfl, Lib.hid rfl, by omega, ⟨grown_drew_r hh1.out, hh2.out, hh3.out⟩, _, HN.out, hD5.out⟩, by simp [intOf]⟩
                  · have hfin : Hid (scI A B near i k = (p + 1, q + d)) := by show _ = _; rw [hs1.out, hc1.out, if_pos ⟨by rw [hn1.out]; simpa using hd, hB2⟩]
                    go_wp2_with fail
                    refine wp_gen (F := fun W5 => wr.grownBy W5 none ∧ W5.heap[wr.heap.size]? = some (.cells #[.int .i64 (scI A B near i k).1, .int .i64 (scI A B near i k).2] 149 (0, 0))) ⟨grown_set (grown_set hg4r (Nat.le_refl _) _ _) (Nat.le_refl _) _ _, by rw [hfin.out]; exact hp_set (hp_set hb11' 0 _) 1 _⟩ ?_
                    rintro W5 ⟨hg5, hb5⟩
                    clear c11 f11 hfin c13 hg4r hb11' hb7'' hb13 l13 l3' hb7' hb11
                    have c7 := cells4 (blk_up hw.2.2 hg5)
                    have c5 := cells2 hb5
                    have hG5 := hG.out.up hg5
                    have o5 := hG5.outer (i := i) (by omega) rfl
                    have q5 := hG5.cells (i := i) (k := k) (by omega) rfl (by omega)
                    have f5 := hG5.rfree (i := i) (by omega) rfl
                    have hRlo := (hG5.2.2.1 i (by omega) rfl).2.1
                    have hRhi := hG.out.rlt (i := i) (by omega) rfl
                    have n1 : ¬ R i = w.heap.size + 2 := by omega
                    have n2 : ¬ R i = w.heap.size + 1 := by omega
                    have n3 : ¬ R i = wr.heap.size := by omega
                    have n1' : ¬ w.heap.size + 2 = R i := by omega
                    have n2' : ¬ w.heap.size + 1 = R i := by omega
                    have n3' : ¬ wr.heap.size = R i := by omega
                    have l5 := lt_of_block hb5
                    have HN := Lib.hid (hG5.put (i := i) (k := k) (by omega) rfl (.int .i64 (scI A B near i k).1) (.int .i64 (scI A B near i k).2))
                    have hh1 := Lib.hid (grown_set (grown_set (hw.1.trans hg5) (b := R i) (by omega) (k * 2) (.int .i64 (scI A B near i k).1)) (b := R i) (by omega) (k * 2 + 1) (.int .i64 (scI A B near i k).2))
                    have hh2 := Lib.hid (hp_set_ne (hp_set_ne (blk_up hw.2.1 hg5) (k * 2) (.int .i64 (scI A B near i k).1) (c := R i) (by omega)) (k * 2 + 1) (.int .i64 (scI A B near i k).2) (c := R i) (by omega))
                    have hh3 := Lib.hid (hp_set_ne (hp_set_ne (blk_up hw.2.2 hg5) (k * 2) (.int .i64 (scI A B near i k).1) (c := R i) (by omega)) (k * 2 + 1) (.int .i64 (scI A B near i k).2) (c := R i) (by omega))
                    have hD5 := Lib.hid (hD.out.put (by omega) (by omega))
                    clear hG5 hG hD hb5 hg5
                    go_region_held3 (fun w' => w'.cell? ⟨w.heap.size + 2, 3, none⟩ = some (.slice (some ⟨w.heap.size + 1, 0, none⟩) (A.length + 1) (A.length + 1)) ∧ w'.cell? ⟨w.heap.size + 1, i, none⟩ = some (.slice (some ⟨R i, 0, none⟩) (B.length + 1) (B.length + 1)) ∧ w'.cell? ⟨wr.heap.size, 0, none⟩ = some (.int .i64 (scI A B near i k).1) ∧ w'.cell? ⟨wr.heap.size, 1, none⟩ = some (.int .i64 (scI A B near i k).2)) (go_keep) (fail)
                    go_wp2_with fail
                    exact ⟨⟨_, k, rfl, Lib.hid rfl, by omega, ⟨grown_drew_r hh1.out, hh2.out, hh3.out⟩, _, HN.out, hD5.out⟩, by simp [intOf]⟩
                · have hdb : decide (d ≤ near) = false := by simpa using hd
                  have hfin : Hid (scI A B near i k = X) := by show _ = _; rw [hs1.out, hn1.out, hdb, if_neg (by simp)]
                  go_wp2_with fail
                  refine wp_gen (F := fun W5 => wr.grownBy W5 none ∧ W5.heap[wr.heap.size]? = some (.cells #[.int .i64 (scI A B near i k).1, .int .i64 (scI A B near i k).2] 149 (0, 0))) ⟨(by repeat (first | with_reducible exact grown_refl _ _ | with_reducible assumption | with_reducible apply grown_alloc_r | with_reducible apply grown_drew_r | with_reducible apply grown_drewN | with_reducible refine World.grownBy.trans ?_ (by with_reducible assumption))), by rw [hfin.out]; exact heap_alloc_old w3 _ l3 |>.trans hb11⟩ ?_
                  rintro W5 ⟨hg5, hb5⟩
                  clear c11 f11 hfin hg3r hb7' hb11
                  have c7 := cells4 (blk_up hw.2.2 hg5)
                  have c5 := cells2 hb5
                  have hG5 := hG.out.up hg5
                  have o5 := hG5.outer (i := i) (by omega) rfl
                  have q5 := hG5.cells (i := i) (k := k) (by omega) rfl (by omega)
                  have f5 := hG5.rfree (i := i) (by omega) rfl
                  have hRlo := (hG5.2.2.1 i (by omega) rfl).2.1
                  have hRhi := hG.out.rlt (i := i) (by omega) rfl
                  have n1 : ¬ R i = w.heap.size + 2 := by omega
                  have n2 : ¬ R i = w.heap.size + 1 := by omega
                  have n3 : ¬ R i = wr.heap.size := by omega
                  have n1' : ¬ w.heap.size + 2 = R i := by omega
                  have n2' : ¬ w.heap.size + 1 = R i := by omega
                  have n3' : ¬ wr.heap.size = R i := by omega
                  have l5 := lt_of_block hb5
                  have HN := Lib.hid (hG5.put (i := i) (k := k) (by omega) rfl (.int .i64 (scI A B near i k).1) (.int .i64 (scI A B near i k).2))
                  have hh1 := Lib.hid (grown_set (grown_set (hw.1.trans hg5) (b := R i) (by omega) (k * 2) (.int .i64 (scI A B near i k).1)) (b := R i) (by omega) (k * 2 + 1) (.int .i64 (scI A B near i k).2))
                  have hh2 := Lib.hid (hp_set_ne (hp_set_ne (blk_up hw.2.1 hg5) (k * 2) (.int .i64 (scI A B near i k).1) (c := R i) (by omega)) (k * 2 + 1) (.int .i64 (scI A B near i k).2) (c := R i) (by omega))
                  have hh3 := Lib.hid (hp_set_ne (hp_set_ne (blk_up hw.2.2 hg5) (k * 2) (.int .i64 (scI A B near i k).1) (c := R i) (by omega)) (k * 2 + 1) (.int .i64 (scI A B near i k).2) (c := R i) (by omega))
                  have hD5 := Lib.hid (hD.out.put (by omega) (by omega))
                  clear hG5 hG hD hb5 hg5
                  go_region_held3 (fun w' => w'.cell? ⟨w.heap.size + 2, 3, none⟩ = some (.slice (some ⟨w.heap.size + 1, 0, none⟩) (A.length + 1) (A.length + 1)) ∧ w'.cell? ⟨w.heap.size + 1, i, none⟩ = some (.slice (some ⟨R i, 0, none⟩) (B.length + 1) (B.length + 1)) ∧ w'.cell? ⟨wr.heap.size, 0, none⟩ = some (.int .i64 (scI A B near i k).1) ∧ w'.cell? ⟨wr.heap.size, 1, none⟩ = some (.int .i64 (scI A B near i k).2)) (go_keep) (fail)
                  go_wp2_with fail
                  exact ⟨⟨_, k, rfl, Lib.hid rfl, by omega, ⟨grown_drew_r hh1.out, hh2.out, hh3.out⟩, _, HN.out, hD5.out⟩, by simp [intOf]⟩
end Go.Proofs.YtlifcpcfhkpejaaGreat.Hd

/- Walks: the generator of events; slices.Clone of events. -/
namespace Go.Proofs.YtlifcpcfhkpejaaGreat.Hd
set_option linter.unusedVariables false
set_option linter.unusedSimpArgs false
open Go.RowKit

end Go.Proofs.YtlifcpcfhkpejaaGreat.Hd

/- Walks: the best matching, Match, and what is wrong with its arguments (package trace). -/
namespace Go.Proofs.YtlifcpcfhkpejaaGreat.Hd
set_option linter.unusedVariables false
set_option linter.unusedSimpArgs false
open Go.RowKit

def mpI (L : List (Nat × Nat)) : List (Int × Int) := L.map fun p => ((p.1 : Int), (p.2 : Int))
theorem mpI_len (L : List (Nat × Nat)) : (mpI L).length = L.length := by simp [mpI]

theorem hit_eq (A B : List (Int × Int)) (near : Int) (i k a c : Nat) : hitB A B (scI A B near) near (scI A B near i k) a c = Mat.hits (nearB A B near) (farI A B) A.length B.length i k a c := by
  unfold hitB Mat.hits
  congr 1
  rw [Mat.sco_cand]
  have h : ∀ (x y : Mat.Pr) (d : Int), (decide ((x.1.length : Int) + 1 = (y.1.length : Int)) && decide (x.2 + d = y.2)) = decide (((Mat.sco x).1 + 1, (Mat.sco x).2 + d) = Mat.sco y) := by
    intro x y d
    rw [Bool.eq_iff_iff]
    simp only [Mat.sco, Prod.mk.injEq, Bool.and_eq_true, decide_eq_true_eq]
    omega
  exact h (bestM A B near (a + 1) (c + 1)) (bestM A B near i k) (farI A B a c)

theorem elem_matched : Elem Tryz.prog 48 54 2 16 := by
  obtain ⟨i, hi, hz, h1, h2⟩ := info_parts (show (Tryz.prog.info? 54).map (fun i => (i.zero, i.size, i.bytes)) = some (some (.agg #[.int .i64 0, .int .i64 0]), 2, 16) by kernel_rfl)
  exact ⟨Tryz.underlying48, i, _, hi, hz, h1, h2, rfl, by omega⟩

def MgRel (A B : List (Int × Int)) (near : Int) (W0 : World) (v9 v10 v11 : Value) (wr : World) : Prop :=
  ∃ (a : Option Addr) (c : Nat) (L : List (Nat × Nat)) (i k : Nat), v9 = .slice a L.length c ∧ v10 = .int .i64 i ∧ v11 = .int .i64 k ∧ i ≤ A.length ∧ k ≤ B.length ∧ L.length ≤ 100 ∧
    Hid ((bestM A B near 0 0).1 = L ++ (bestM A B near i k).1) ∧ Hid (wr.ownsRow W0.heap.size 54 2 (.slice a L.length c) L.length (prs (mpI L))) ∧ W0.grownBy wr none

def MatchingPost (A B : List (Int × Int)) (near : Int) (w : World) (e : Ending) (w' : World) : Prop :=
  ∃ a c, e = .returned (.tuple #[.slice a (bestM A B near 0 0).1.length c, .int .i64 (bestM A B near 0 0).2]) ∧
    w'.ownsRow w.heap.size 54 2 (.slice a (bestM A B near 0 0).1.length c) (bestM A B near 0 0).1.length (prs (mpI (bestM A B near 0 0).1)) ∧ w.grownBy w' none

theorem bestM_len (A B : List (Int × Int)) (near : Int) (hla : A.length ≤ 100) (hAx : ∀ i, i < A.length → 0 ≤ atI A i ∧ atI A i ≤ 1000000) (hBx : ∀ i, i < B.length → 0 ≤ atI B i ∧ atI B i ≤ 1000000) : (bestM A B near 0 0).1.length ≤ 100 := by
  obtain ⟨h1, h2, h3⟩ := best_bd (nearB A B near) (farI A B) A.length B.length 1000000 (fun i k hi hk => by
    have := hAx i hi; have := hBx k hk; unfold farI dist; omega) _ 0 0 rfl
  unfold bestM
  omega

set_option maxRecDepth 100000 in
set_option maxHeartbeats 4000000 in
theorem matching_any (a b : Option Addr) (ca cb : Nat) (A B : List (Int × Int)) (near : Int) (w : World)
    (hA : At w a (prs A)) (hB : At w b (prs B)) (hla : A.length ≤ 100) (hlb : B.length ≤ 100)
    (hAx : ∀ i, i < A.length → 0 ≤ atI A i ∧ atI A i ≤ 1000000) (hBx : ∀ i, i < B.length → 0 ≤ atI B i ∧ atI B i ≤ 1000000) :
    Calls Tryz.prog 43 #[.slice a A.length ca, .slice b B.length cb, .int .i64 near] w (MatchingPost A B near w) := by
  have HL := Lib.hid (bestM_len A B near hla hAx hBx)
  have HNM := Lib.hid (newmatcher_any a b ca cb A B near w hA hB hla hlb hAx hBx)
  have HF : Hid (∀ (gb gc : Nat) (R : Nat → Nat) (i0 k0 : Nat) (W : World), w.grownBy W none → MRd W gb R A.length B.length (scI A B near) → i0 ≤ A.length → k0 ≤ B.length →
      Calls Tryz.prog 67 #[.agg #[.slice a A.length ca, .slice b B.length cb, .int .i64 near, .slice (some ⟨gb, 0, none⟩) (A.length + 1) gc], .int .i64 i0, .int .i64 k0] W (FirstPost A B (scI A B near) near (scI A B near i0 k0) i0 k0 W)) :=
    fun gb gc R i0 k0 W hg hM h1 h2 => mfirst_any a b ca cb gb gc R A B (scI A B near) near i0 k0 W (hA.up hg) (hB.up hg) hM h1 h2 (by omega) (by omega) hAx hBx (scI_bd A B near hla hAx hBx)
  clear hAx hBx
  go_enter Tryz.func43, Tryz.ntmps43
  go_wp2_with fail
  refine HNM.out.mono ?_
  clear HNM
  rintro e w1 ⟨g, R, rfl, hM, hg1⟩
  go_wp2_with fail
  refine wp_gen (F := fun W => w1.grownBy W none ∧ W.heap[w1.heap.size]? = some (.cells (mcells a b ca cb A B near g) 144 (0, 0))) ⟨(by repeat (first | with_reducible exact grown_refl _ _ | with_reducible assumption | with_reducible apply grown_alloc_r | with_reducible apply grown_drew_r | with_reducible apply grown_drewN | with_reducible refine World.grownBy.trans ?_ (by with_reducible assumption))), (by simp only [hp_alloc, hp_drewN, hp_drew, Array.getElem?_push, Array.size_push]; (repeat' split) <;> first | rfl | assumption | omega | exact absurd trivial (by assumption))⟩ ?_
  rintro W0 ⟨hgW, hb8⟩
  have HM := Lib.hid (hM.up hgW)
  have hgA := hg1.trans hgW
  have l8 := lt_of_block hb8
  clear hM hgW hg1
  go_loopw [9, 10, 11] (MgRel A B near W0) (fun _ i _ _ => A.length - (intOf i).toNat)
  case atStart => exact ⟨none, 0, [], 0, 0, rfl, rfl, rfl, Nat.zero_le _, Nat.zero_le _, by simp, rfl, World.ownsRow_nil _ _ _ _, grown_refl _ _⟩
  case round =>
    obtain ⟨a0, c0, L, i, k, rfl, rfl, rfl, hi, hk, hL, hpre, hown, hgr⟩ := hrel
    have hb8r := blk_up hb8 hgr
    have hc8 := cells4 hb8r
    have l8r := lt_of_block hb8r
    go_wp2_with fail
    refine (HF.out g (A.length + 1) R i k _ (hgA.trans hgr) (HM.out.up hgr) hi hk).mono ?_
    rintro e w2 ⟨hg2, hp⟩
    have hb8s := blk_up hb8r hg2
    have l8s := lt_of_block hb8s
    have hgr2 := hgr.trans hg2
    have HO2 := Lib.hid (World.ownsRow.kept hown.out hg2 (by rw [ownBlock_slice]; cases a0 <;> simp [blk]))
    clear hown hc8
    rcases hp with ⟨p, q, rfl, h1, h2, h3, h4, hhit, hno⟩ | ⟨rfl, hno⟩
    · have hbk : bestM A B near i k = Mat.cand (nearB A B near) (farI A B) A.length B.length p q := Mat.best_hit _ _ _ _ i k hi hk p q h1 h2 h3 h4 (by rw [← hit_eq]; exact hhit) (fun c d r1 r2 r3 r4 r5 => by rw [← hit_eq]; exact hno c d r1 r2 r3 r4 r5)
      have hpre2 : Hid ((bestM A B near 0 0).1 = (L ++ [(p, q)]) ++ (bestM A B near (p + 1) (q + 1)).1) := by show _ = _; rw [hpre.out, hbk]; simp [Mat.cand, bestM]
      have hL2 : (L ++ [(p, q)]).length ≤ 100 := by have := HL.out; have h9 := congrArg List.length hpre2.out; rw [List.length_append] at h9; omega
      have hL3 : L.length + 1 ≤ 100 := by simpa using hL2
      clear hbk hhit hno hpre hL2
      have q1 : (L.length + 1) * 16 ≤ 140737488355328 := by omega
      have q2 : L.length + 1 ≤ maxLen := by unfold maxLen; omega
      have q3 : W0.heap.size ≤ w2.heap.size + 1 := by have := hgr2.size; omega
      have q4 : (w2.alloc (.cells #[.int .i64 p, .int .i64 q] 54)).heap.size = w2.heap.size + 1 := by simp
      have Q4 := Lib.hid q4
      clear q4
      have hsr : ∀ b, blk a0 = some b → W0.heap.size ≤ b ∧ b < w2.heap.size := own_blk HO2.out
      have hx12 := Lib.hid (heap_alloc_new w2 (.cells #[.int .i64 p, .int .i64 q] 54))
      have HO3 := Lib.hid (HO2.out.alloc (.cells #[.int .i64 p, .int .i64 q] 54))
      have hgr3 : W0.grownBy (w2.alloc (.cells #[.int .i64 p, .int .i64 q] 54)) none := (by repeat (first | with_reducible exact grown_refl _ _ | with_reducible assumption | with_reducible apply grown_alloc_r | with_reducible apply grown_drew_r | with_reducible apply grown_drewN | with_reducible refine World.grownBy.trans ?_ (by with_reducible assumption)))
      clear hg2 HO2
      go_wp2_with (at_builtin; refine wpList_push2 rfl _ _ _ rfl W0.heap.size _ _ _ _ elem_matched a0 L.length c0 _ HO3.out (w2.heap.size + 1) Q4.out 1 1 [.int .i64 p, .int .i64 q] rfl rfl rfl (by simp [Value.oneCell']) q1 q2 q3 ?_; intro a2 c2 w5 hown5 hg5 hat5)
      have hb12 := (hg5.block _ (lt_of_block hx12.out) (fun e => by have := hsr _ e.symm; omega)).trans hx12.out
      have hgW5 := Lib.hid (grown_own hgr3 hg5 (fun b hb => (hsr b hb).1))
      have hO5 := Lib.hid hown5
      have hc12 := cells2 hb12
      have hp1 : IntKind.i64.wrap ((p : Int) + 1) = (p : Int) + 1 := IntWalk.i64_in _ (by omega)
      have hp2 : IntKind.i64.wrap ((q : Int) + 1) = (q : Int) + 1 := IntWalk.i64_in _ (by omega)
      clear hown5 hg5 hat5 hsr hx12 HO3 hb12 hgr3 q1 q2 q3
      go_quiet (fail)
      go_wp2_with fail
      exact ⟨⟨a2, c2, L ++ [(p, q)], p + 1, q + 1, by simp, by go_num, by go_num, by omega, by omega, by simpa using hL3, hpre2, Lib.hid (own_drewN (by simpa [mpI, prs_snoc] using hO5.out) _), grown_drewN hgW5.out _⟩, by simp [intOf]; omega⟩
    · have hbk : bestM A B near i k = ([], 0) := Mat.best_miss _ _ _ _ i k hi hk (fun c d r1 r2 r3 r4 => by rw [← hit_eq]; exact hno c d r1 r2 r3 r4)
      have hpre2 := hpre.out
      rw [hbk, List.append_nil] at hpre2
      have hpre3 := Lib.hid hpre2
      obtain ⟨hm1, hm2⟩ := (HM.out.up hgr2) 0 (Nat.zero_le _)
      obtain ⟨hm3, hm4⟩ := hm2 0 (Nat.zero_le _)
      have hc8 := cells4 hb8s
      have hz0 : Hid ((scI A B near 0 0).2 = (bestM A B near 0 0).2) := rfl
      have l5 := cell_lt hm1
      have l6 := cell_lt hm3
      simp only [Nat.zero_mul, Nat.zero_add] at l5 l6 hm3 hm4
      rw [hz0.out] at hm4
      have z1 : (0 : Int) < (A.length : Int) + 1 := by omega
      have z2 : (0 : Int) < (B.length : Int) + 1 := by omega
      clear hm2 hpre2 hbk hno hpre
      go_wp2_with fail
      go_quiet (fail)
      go_wp2_with fail
      go_ret2
      rw [MatchingPost, hpre3.out]
      exact ⟨a0, c0, rfl, own_drewN (own_base (HO2.out.alloc _) (hgA.size)) _, grown_drewN (grown_alloc_r (hgA.trans hgr2) _) _⟩
end Go.Proofs.YtlifcpcfhkpejaaGreat.Hd

/- Walks: Match, and what is wrong with its arguments (package trace and the reference). -/
namespace Go.Proofs.YtlifcpcfhkpejaaGreat.Hd
set_option linter.unusedVariables false
set_option linter.unusedSimpArgs false
open Go.RowKit

theorem firstErr_zero : ∀ (l : List Int), firstErr l = 0 → ∀ x ∈ l, x = 0
  | [], _ => by simp
  | x :: r, h => by
    have ih := firstErr_zero r
    simp only [firstErr] at h
    split at h
    · rename_i h0; intro y hy
      rcases List.mem_cons.1 hy with rfl | hy
      · exact h0
      · exact ih h y hy
    · contradiction

theorem evFault_ok {l : List (Int × Int)} (h : evFault l = 0) : l.length ≤ 100 ∧ (∀ i, i < l.length → 0 ≤ atI l i ∧ atI l i ≤ 1000000) ∧ (∀ i, i < l.length → -10000 ≤ (l.getD i (0, 0)).2 ∧ (l.getD i (0, 0)).2 ≤ 10000) := by
  unfold evFault at h
  split at h
  · contradiction
  · rename_i hl
    have h2 : ∀ i, i < l.length → inB (atI l i) 0 1000000 = true ∧ okR (l.getD i (0, 0)).2 = true := by
      intro i hi
      have h3 := firstErr_zero _ h (evAt l i) (List.mem_map.2 ⟨i, List.mem_range.2 hi, rfl⟩)
      unfold evAt at h3
      split at h3
      · contradiction
      · rename_i h4
        have h5 : (inB (l.getD i (0, 0)).1 0 1000000 && okR (l.getD i (0, 0)).2) = true := by simpa using h4
        exact Bool.and_eq_true_iff.1 h5
    exact ⟨by omega, fun i hi => of_inB (h2 i hi).1, fun i hi => of_inB (h2 i hi).2⟩

def nearE (near loss : Int) : Int := if inB near 0 1000000 && inB loss 0 10000 then 0 else 1
def mErr (A B : List (Int × Int)) (near : Int) : Int := firstErr [evFault A, evFault B, nearE near 0]
theorem firstErr3 (a b c : Int) : firstErr [a, b, c] = if firstErr [a, b] = 0 then c else firstErr [a, b] := by
  by_cases h1 : a = 0 <;> by_cases h2 : b = 0 <;> simp [firstErr, h1, h2] <;> (intro h; exact h.symm)

set_option maxHeartbeats 800000 in
theorem matchfault_any (a b : Option Addr) (ca cb : Nat) (A B : List (Int × Int)) (near : Int) (w : World) (hA : At w a (prs A)) (hB : At w b (prs B)) (hma : A.length ≤ maxLen) (hmb : B.length ≤ maxLen) :
    Calls Tryz.prog 42 #[.slice a A.length ca, .slice b B.length cb, .int .i64 near] w fun e w' => e = .returned (.int .i64 (mErr A B near)) ∧ w.grownBy w' none := by
  have H1 := Lib.hid (eventsFault_any a A.length ca A w rfl hma hA)
  have H2 : Hid (∀ W, w.grownBy W none → Calls Tryz.prog 65 #[.slice b B.length cb] W fun e w' => e = .returned (.int .i64 (evFault B)) ∧ W.grownBy w' none) := fun W hg => eventsFault_any b B.length cb B W rfl hmb (hB.up hg)
  have HM : Hid (mErr A B near = if firstErr [evFault A, evFault B] = 0 then nearE near 0 else firstErr [evFault A, evFault B]) := firstErr3 _ _ _
  have hN : Hid (nearE near 0 = if inB near 0 1000000 then 0 else 1) := by show _ = _; simp [nearE, inB]
  clear hA hB hma hmb
  go_enter Tryz.func42, Tryz.ntmps42
  go_wp2_with fail
  refine H1.out.mono ?_
  rintro e w1 ⟨rfl, hg1⟩
  go_wp2_with fail
  refine (H2.out _ hg1).mono ?_
  rintro e w2 ⟨rfl, hg2⟩
  go_wp2_with fail
  refine (first_lit [evFault A, evFault B] _ _ _ _ _ rfl rfl rfl (by simp)).mono ?_
  rintro e w3 ⟨rfl, rfl⟩
  generalize firstErr [evFault A, evFault B] = F at *
  by_cases hF : F = 0
  · subst hF
    cases h1 : inB near 0 1000000
    all_goals
      go_wp2_with fail
      refine (out_any _ _ _ _).mono ?_
      rintro e w4 ⟨rfl, rfl⟩
      go_wp2_with fail
      go_ret
      exact ⟨ret_int (by rw [HM.out, hN.out, h1]; rfl), (by repeat (first | with_reducible exact grown_refl _ _ | with_reducible assumption | with_reducible apply grown_alloc_r | with_reducible apply grown_drew_r | with_reducible apply grown_drewN | with_reducible refine World.grownBy.trans ?_ (by with_reducible assumption)))⟩
  · have hb : (F == 0) = false := by simpa using hF
    go_wp2_with fail
    go_ret
    exact ⟨ret_int (by rw [HM.out, if_neg hF]), (by repeat (first | with_reducible exact grown_refl _ _ | with_reducible assumption | with_reducible apply grown_alloc_r | with_reducible apply grown_drew_r | with_reducible apply grown_drewN | with_reducible refine World.grownBy.trans ?_ (by with_reducible assumption)))⟩

/-- what Match finds -/
def mL (A B : List (Int × Int)) (near : Int) : List (Nat × Nat) := if mErr A B near = 0 then (bestM A B near 0 0).1 else []
def mS (A B : List (Int × Int)) (near : Int) : Int := if mErr A B near = 0 then (bestM A B near 0 0).2 else 0
def MatchPost (A B : List (Int × Int)) (near : Int) (w : World) (e : Ending) (w' : World) : Prop :=
  ∃ a c, e = .returned (.tuple #[.slice a (mL A B near).length c, .int .i64 (mS A B near), .int .i64 (mErr A B near)]) ∧
    w'.ownsRow w.heap.size 54 2 (.slice a (mL A B near).length c) (mL A B near).length (prs (mpI (mL A B near))) ∧ w.grownBy w' none

theorem mErr_ok {A B : List (Int × Int)} {near : Int} (h : mErr A B near = 0) : evFault A = 0 ∧ evFault B = 0 ∧ nearE near 0 = 0 := by
  have h1 := firstErr_zero _ h
  exact ⟨h1 _ (by simp), h1 _ (by simp), h1 _ (by simp)⟩

set_option maxHeartbeats 800000 in
theorem match_any (a b : Option Addr) (ca cb : Nat) (A B : List (Int × Int)) (near : Int) (w : World) (hA : At w a (prs A)) (hB : At w b (prs B)) (hma : A.length ≤ maxLen) (hmb : B.length ≤ maxLen) :
    Calls Tryz.prog 17 #[.slice a A.length ca, .slice b B.length cb, .int .i64 near] w (MatchPost A B near w) := by
  have H1 := Lib.hid (matchfault_any a b ca cb A B near w hA hB hma hmb)
  by_cases hE : mErr A B near = 0
  · obtain ⟨e1, e2, -⟩ := mErr_ok hE
    obtain ⟨p1, p2, -⟩ := evFault_ok e1
    obtain ⟨q1, q2, -⟩ := evFault_ok e2
    have H2 : Hid (∀ W, w.grownBy W none → Calls Tryz.prog 43 #[.slice a A.length ca, .slice b B.length cb, .int .i64 near] W (MatchingPost A B near W)) := fun W hg => matching_any a b ca cb A B near W (hA.up hg) (hB.up hg) p1 q1 p2 q2
    have hP : Hid (mL A B near = (bestM A B near 0 0).1 ∧ mS A B near = (bestM A B near 0 0).2) := ⟨by rw [mL, if_pos hE], by rw [mS, if_pos hE]⟩
    have HE := Lib.hid hE
    clear hA hB hma hmb hE e1 e2 p1 p2 q1 q2
    go_enter Tryz.func17, Tryz.ntmps17
    go_wp2_with fail
    refine H1.out.mono ?_
    rintro e w1 ⟨rfl, hg1⟩
    rw [HE.out]
    go_wp2_with fail
    refine (H2.out _ hg1).mono ?_
    rintro e w2 ⟨a2, c2, rfl, hown, hg2⟩
    have HO := Lib.hid hown
    clear hown
    go_wp2_with fail
    go_ret3
    rw [MatchPost, hP.out.1, hP.out.2, HE.out]
    exact ⟨a2, c2, rfl, own_base HO.out hg1.size, hg1.trans hg2⟩
  · have hb : (mErr A B near != 0) = true := by simpa using hE
    have hP : Hid (mL A B near = [] ∧ mS A B near = 0) := ⟨by rw [mL, if_neg hE], by rw [mS, if_neg hE]⟩
    clear hA hB hma hmb
    go_enter Tryz.func17, Tryz.ntmps17
    go_wp2_with fail
    refine H1.out.mono ?_
    rintro e w1 ⟨rfl, hg1⟩
    go_wp2_with fail
    go_ret3
    rw [MatchPost, hP.out.1, hP.out.2]
    exact ⟨none, 0, rfl, World.ownsRow_nil _ _ _ _, hg1⟩
end Go.Proofs.YtlifcpcfhkpejaaGreat.Hd
