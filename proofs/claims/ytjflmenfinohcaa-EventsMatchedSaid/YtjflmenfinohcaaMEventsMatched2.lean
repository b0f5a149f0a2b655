/- Parts of the proof, in order. -/
import Derived.Test.YtjflmenfinohcaaMEventsMatched1
import Derived.Test.YtjflmenfinohcaaRows

/- The stream of numbers: its state, and the walks of its methods. -/
namespace Go.Proofs.Ytjflmenfinohcaa.Hd
set_option linter.unusedVariables false
set_option linter.unusedSimpArgs false
open Go.RowKit

/-- the stream lies in block s; at most K numbers have been taken -/
def Str (w : World) (s : Nat) (K : Nat) : Prop :=
  ∃ (aL : Option Addr) (cap : Nat) (L : List Int) (k : Int), w.heap[s]? = some (.cells #[.slice aL L.length cap, .int .i64 k] 25 (0, 0)) ∧
    L.length ≤ maxLen ∧ At w aL (ints L) ∧ (L ≠ [] → ∀ a, aL = some a → a.block < s) ∧ 0 ≤ k ∧ k ≤ K

theorem _root_.Go.Proofs.Ytjflmenfinohcaa.At.grownE {w w' : World} {a : Option Addr} {L : List Int} {x : Option Nat} (h : At w a (ints L)) (hg : w.grownBy w' x) (hx : L ≠ [] → ∀ p, a = some p → some p.block ≠ x) : At w' a (ints L) := by
  by_cases hL : L = []
  · exact .inl (by simp [hL, ints])
  · exact h.grown hg (hx hL)

theorem Str.drew {w : World} {s K : Nat} (h : Str w s K) : Str w.drew s K := h
theorem Str.drewN {w : World} {s K : Nat} (h : Str w s K) (n : Nat) : Str (w.drewN n) s K := h

theorem Str.grown {w w' : World} {s K : Nat} {x : Option Nat} (h : Str w s K) (hg : w.grownBy w' x) (hx : ∀ b, x = some b → s < b) : Str w' s K := by
  obtain ⟨aL, cap, L, k, hb, hL, hat, hne, hk0, hk1⟩ := h
  exact ⟨aL, cap, L, k, (hg.block s (lt_of_block hb) (fun e => by have := hx s e.symm; omega)).trans hb, hL, hat.grownE hg (fun hl p hp e => by have := hx _ e.symm; have := hne hl p hp; omega), hne, hk0, hk1⟩
theorem Str.quiet {w w' : World} {s K : Nat} (h : Str w s K) (hg : w.grownBy w' none) : Str w' s K := h.grown hg (by simp)
theorem Str.alloc {w : World} {s K : Nat} (h : Str w s K) (o : Obj) : Str (w.alloc o) s K := h.quiet (World.grownBy_alloc w o none)
theorem Str.mono {w : World} {s K K' : Nat} (h : Str w s K) (hk : K ≤ K') : Str w s K' := by
  obtain ⟨aL, cap, L, k, hb, hL, hat, hne, hk0, hk1⟩ := h
  exact ⟨aL, cap, L, k, hb, hL, hat, hne, hk0, by omega⟩
theorem Str.lt {w : World} {s K : Nat} (h : Str w s K) : s < w.heap.size := by
  obtain ⟨aL, cap, L, k, hb, _⟩ := h; exact lt_of_block hb

theorem Str.setCell {w : World} {s K : Nat} (h : Str w s K) {p : Addr} (hp : s < p.block) (v : Value) : Str (w.setCell p v) s K :=
  h.grown (x := some p.block) ⟨rfl, rfl, rfl, by simp, fun j _ hj => heap_setCell_other w p j _ (fun e => hj (by rw [e]))⟩ (by intro b hb; cases hb; exact hp)

end Go.Proofs.Ytjflmenfinohcaa.Hd
