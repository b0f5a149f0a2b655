/- Go's sort, by the kit's contract of it, as a contract of the abstract walk. -/
import Derived.Test.YtilfcojhdhgmfaaGreatDoorAbsZ
import Derived.Test.YtilfcojhdhgmfaaGreatDoorAbsVw
import Derived.Shelf.SlSortCmp.NoneTotal
namespace Go.Proofs.YtilfcojhdhgmfaaGreatDoor
set_option linter.unusedVariables false
set_option linter.unusedSimpArgs false
namespace Abs
open Go.Shelf Go.Sort Go.RowKit

structure SWOc {A : Type} (c : A → A → Int) : Prop where
  irrefl : ∀ x, ¬ c x x < 0
  trans : ∀ x y z, c x y < 0 → c y z < 0 → c x z < 0
  ntrans : ∀ x y z, ¬ c x y < 0 → ¬ c y z < 0 → ¬ c x z < 0
theorem SWOc.swo {A B : Type} {c : A → A → Int} (h : SWOc c) (f : B → A) : SWO (ltOf fun x y : B => c (f x) (f y)) := by
  refine ⟨fun x => ?_, fun x y z h1 h2 => ?_, fun x y z h1 h2 => ?_⟩
  · simpa [ltOf] using h.irrefl (f x)
  · simp only [ltOf, decide_eq_true_eq] at *; exact h.trans _ _ _ h1 h2
  · simp only [ltOf, decide_eq_false_iff_not] at *; exact h.ntrans _ _ _ h1 h2
variable {P : Program} {ρ : Ren}
theorem Nx.same {F : Nat → Prop} {φ : Nat → Option Value} {X : Nat → Prop} {w : World} {objs : List Ob} {N : Nat → Prop} (hr : Rp F φ X w (nth objs)) : Nx F φ w (nth objs) N (chOf 0 objs) F φ w := by
  have hg : ∀ l o, chGet (chOf 0 objs) l = some o → nth objs l = some o := by
    intro l o h
    rw [chGet_chOf] at h
    rw [nth_eq]; simpa using h
  refine ⟨fun _ h => h, fun _ _ h => h, fun _ _ h => .inl h, rfl, rfl, rfl, fun _ => Nat.le_refl _, Nat.le_refl _, fun b _ hne => (hne rfl).elim, fun b h => .inl h, fun l o h => hr.objs l o (hg l o h), ?_, fun l l' o o' b h1 h2 => hr.inj l l' o o' b (hg l o h1) (hg l' o' h2)⟩
  intro l o b h1 h2 h3
  exact .inr ⟨l, o, hg l o h1, h2, h3, by rw [h1]; rfl⟩
theorem sorted_one {A : Type} {c : A → A → Int} (hc : SWOc c) (hT : ∀ x y, ¬ c x y < 0 → ¬ c y x < 0 → x = y) : ∀ {l1 l2 : List A}, l1.Perm l2 → (l1.Pairwise fun x y => ¬ c y x < 0) → (l2.Pairwise fun x y => ¬ c y x < 0) → l1 = l2
  | [], l2, hp, _, _ => by rw [List.nil_perm.1 hp]
  | a :: r, [], hp, _, _ => by have := hp.length_eq; simp at this
  | a :: r, b :: t, hp, h1, h2 => by
    obtain ⟨a1, a2⟩ := List.pairwise_cons.1 h1
    obtain ⟨b1, b2⟩ := List.pairwise_cons.1 h2
    have hab : a = b := by
      rcases List.mem_cons.1 (hp.mem_iff.1 (show a ∈ a :: r by simp)) with h | h
      · exact h
      · rcases List.mem_cons.1 (hp.mem_iff.2 (show b ∈ b :: t by simp)) with h' | h'
        · exact h'.symm
        · exact hT a b (b1 a h) (a1 b h')
    subst hab
    rw [sorted_one hc hT (List.Perm.cons_inv hp) a2 b2]
end Abs
end Go.Proofs.YtilfcojhdhgmfaaGreatDoor
