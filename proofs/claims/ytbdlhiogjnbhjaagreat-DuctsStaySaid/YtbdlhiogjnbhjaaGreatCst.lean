/- Walks over constants: entries of maps that are laid out. -/
import Derived.Test.YtbdlhiogjnbhjaaGreatAbsZ
namespace Go.Proofs.YtbdlhiogjnbhjaaGreat
set_option linter.unusedVariables false
set_option linter.unusedSimpArgs false
namespace Abs

def ixF (f : Found) : Option (Option Nat) := f.map fun o => o.map fun e => e.1
theorem findM_at {E : S → S → Option Bool} {key : S} : ∀ {es : Ents} {i0 i n : Nat} {v : S}, findM E key es i0 = some (some (i, n, v)) → i0 ≤ i ∧ ∃ kk, es[i - i0]? = some (n, kk, v)
  | [], i0, i, n, v, h => by simp [findM] at h
  | (m, kk, u) :: r, i0, i, n, v, h => by
    rw [findM] at h
    simp only at h
    split at h
    · cases h; exact ⟨Nat.le_refl _, kk, by simp⟩
    · obtain ⟨h1, kk', h2⟩ := findM_at h
      refine ⟨by omega, kk', ?_⟩
      rw [show i - i0 = (i - (i0 + 1)) + 1 by omega, List.getElem?_cons_succ]
      exact h2
    · cases h
theorem look_ix {E : S → S → Option Bool} {key z : S} {es : Ents} {k : S → Bool → Prop} (i : Nat) {n : Nat} {kk v : S} (he : es[i]? = some (n, kk, v)) (hf : ixF (findM E key es 0) = some (some i)) (hk : k v true) : LookG (findM E key es 0) z k := by
  cases hq : findM E key es 0 with
  | none => rw [hq] at hf; cases hf
  | some o =>
    cases o with
    | none => rw [hq] at hf; cases hf
    | some e =>
      obtain ⟨i', n', v'⟩ := e
      rw [hq] at hf
      have hi : i' = i := by cases hf; rfl
      subst hi
      obtain ⟨_, kk', h2⟩ := findM_at hq
      rw [Nat.sub_zero, he] at h2
      cases h2
      exact .mk v true (.inl ⟨i', n, rfl, rfl⟩) hk
theorem look_no {f : Found} {z : S} {k : S → Bool → Prop} (hf : ixF f = some none) (hk : k z false) : LookG f z k := by
  have : f = some none := by
    cases f with
    | none => cases hf
    | some o => cases o with
      | none => rfl
      | some e => cases hf
  exact .mk z false (.inr ⟨this, rfl, rfl⟩) hk
theorem upd_no {f : Found} {same : Nat → Prop} {clock : Nat} {es : Ents} {key v : S} {k : Nat → Ents → Prop} (hf : ixF f = some none) (hk : k (clock + 1) (es ++ [(clock, key, v)])) : UpdG f same clock es key v k := by
  have : f = some none := by
    cases f with
    | none => cases hf
    | some o => cases o with
      | none => rfl
      | some e => cases hf
  exact .mk _ _ (.inr ⟨this, rfl, rfl⟩) hk
end Abs
end Go.Proofs.YtbdlhiogjnbhjaaGreat
