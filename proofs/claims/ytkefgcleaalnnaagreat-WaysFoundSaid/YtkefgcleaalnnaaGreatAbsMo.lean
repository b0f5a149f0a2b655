/- What is drawn from the tape only grows. -/
import Derived.WalkKit
namespace Go.Proofs.YtkefgcleaalnnaaGreat
set_option linter.unusedVariables false
set_option linter.unusedSimpArgs false
namespace Abs

theorem ask_mono {α : Type} : ∀ (m : Ask α) (w : World), w.drawn ≤ (w.ask m).2.drawn
 | .done a, w => Nat.le_refl _
 | .ask what range k, w => by
  unfold World.ask
  simp only
  split
  ·exact ask_mono (k 0) w
  ·exact Nat.le_trans (Nat.le_succ _) (ask_mono (k _) { w with drawn := w.drawn + 1 })
theorem sys_mono (w : World) (c : Sys) : w.drawn ≤ (w.sys c).2.drawn := by
 have h := ask_mono (Kernel.perform c w.os) w
 unfold World.sys
 split
 ·exact Nat.le_refl _
 ·rename_i r os w' _ he
  rw [he] at h; exact h
theorem viewStore_mono {p : Program} {w w' : World} {a k : Addr} {u : TypeId} {v : Value} {b : Bool} {l : List Addr} (h : w.viewStore p a u k v b = .ok (w', l)) : w'.drawn = w.drawn := by
 unfold World.viewStore at h
 simp only [bind, Except.bind, pure, Except.pure, throw, throwThe, MonadExceptOf.throw] at h
 repeat' split at h
 all_goals first
  | (cases h; rfl)
  | cases h
theorem farStore_mono {p : Program} {w w' : World} {a : Addr} {v : Value} {b : Bool} {l : List Addr} (h : w.farStore p a v b = .ok (w', l)) : w'.drawn = w.drawn := by
 unfold World.farStore at h
 split at h
 ·split at h
  ·rename_i h1; cases h; exact viewStore_mono h1
  ·cases h
 ·cases h
theorem freeze_drawn (w : World) (a : Addr) (n : Nat) : (w.freeze a n).drawn = w.drawn := by
 unfold World.freeze
 split <;> rfl
theorem sem_mono {P : Program} {α : Type} (m : Sem α) : ∀ {w : World} {a : α} {w' : World}, m.run P w = .ok a w' → w.drawn ≤ w'.drawn := by
 induction m with
 | pure a => intro w b w' h; simp only [Sem.run] at h; cases h; exact Nat.le_refl _
 | load m a k ih =>
  intro w b w' h
  simp only [Sem.run] at h
  split at h
  ·exact ih _ h
  ·split at h
   ·exact ih _ h
   ·cases h
 | store m a v k ih =>
  intro w b w' h
  cases v <;> simp only [Sem.run] at h
  all_goals first
   | (cases h; done)
   | (split at h
      ·split at h
       ·cases h
       ·exact ih (w := World.setCell _ _ _) h
      ·split at h
       ·rename_i h1
        have := ih h
        rw [farStore_mono h1] at this; exact this
       ·cases h)
 | new o k ih => intro w b w' h; simp only [Sem.run] at h; exact ih (w := { w with heap := w.heap.push o }) _ h
 | shape r k ih => intro w b w' h; simp only [Sem.run] at h; exact ih _ h
 | freeze a n k ih => intro w b w' h; simp only [Sem.run] at h; have := ih h; rwa [freeze_drawn] at this
 | frozen a k ih => intro w b w' h; simp only [Sem.run] at h; exact ih _ h
 | getObj r k ih =>
  intro w b w' h
  simp only [Sem.run] at h
  split at h
  ·cases h
  ·exact ih _ h
  ·cases h
 | setObj r o k ih =>
  intro w b w' h
  simp only [Sem.run] at h
  split at h
  ·cases h
  ·exact ih (w := { w with heap := w.heap.setIfInBounds r o }) h
  ·cases h
 | choose q k ih =>
  intro w b w' h
  simp only [Sem.run] at h
  split at h
  ·exact ih _ h
  ·exact Nat.le_trans (Nat.le_succ _) (ih (w := { w with drawn := w.drawn + 1 }) _ h)
 | sys c k ih => intro w b w' h; simp only [Sem.run] at h; exact Nat.le_trans (sys_mono w c) (ih _ h)
 | program k ih => intro w b w' h; simp only [Sem.run] at h; exact ih _ h
 | mark m k ih => intro w b w' h; simp only [Sem.run] at h; exact ih h
 | halt h0 => intro w b w' h; simp only [Sem.run] at h; cases h
end Abs
end Go.Proofs.YtkefgcleaalnnaaGreat
