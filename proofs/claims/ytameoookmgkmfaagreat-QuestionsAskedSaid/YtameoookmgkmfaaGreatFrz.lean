/- A row that is handed over inside a box, to one who only reads it. -/
import Derived.Test.YtameoookmgkmfaaGreatAbsW
namespace Go.Proofs.YtameoookmgkmfaaGreat
set_option linter.unusedVariables false
set_option linter.unusedSimpArgs false
namespace Abs

section
variable {P : Program} {F : Nat → Prop} {φ : Nat → Option Value} {w w' : World} {h : Nat → Option Ob} {N : Nat → Prop}
theorem Nx.congr {c1 c2 : Ch} {F' : Nat → Prop} {φ' : Nat → Option Value} (hc : ∀ l, chGet c1 l = chGet c2 l) (hn : Nx F φ w h N c1 F' φ' w') : Nx F φ w h N c2 F' φ' w' := by
  refine ⟨hn.hF, hn.hφ, hn.nφ, hn.os, hn.tape, hn.output, hn.drawn, hn.size, ?_, ?_, ?_, ?_, ?_⟩
  · intro b h1 h2; obtain ⟨l, o, k1, k2, k3, k4⟩ := hn.keep b h1 h2; exact ⟨l, o, k1, k2, k3, by rw [← hc]; exact k4⟩
  · intro b h1
    rcases hn.nF b h1 with k | ⟨k, k1 | ⟨l, o, k2, k3, k4, k5⟩⟩
    · exact .inl k
    · exact .inr ⟨k, .inl k1⟩
    · exact .inr ⟨k, .inr ⟨l, o, k2, k3, k4, by rw [← hc]; exact k5⟩⟩
  · intro l o h1; exact hn.objs l o (by rw [hc]; exact h1)
  · intro l o b h1 h2 h3
    rcases hn.own l o b (by rw [hc]; exact h1) h2 h3 with k | ⟨l2, o2, k2, k3, k4, k5⟩
    · exact .inl k
    · exact .inr ⟨l2, o2, k2, k3, k4, by rw [← hc]; exact k5⟩
  · intro l l' o o' b h1 h2; exact hn.inj l l' o o' b (by rw [hc]; exact h1) (by rw [hc]; exact h2)
theorem PCx.frz {f : Nat} {gs : List S} {os : List Ob} {Q : S → List Ob → Prop} (i : Nat) {e sz : Nat} {rows : List (List V)} (hi : os[i]? = some (.row e sz rows)) (h : PCx P f gs (os.set i (.frow sz rows)) Q) (hQ : ∀ r os', Q r os' → os.length ≤ os'.length) : PCx P f gs os Q := by
  refine ⟨h.1, fun F φ w cargs hp hr hφ => ?_⟩
  have hob : nth os i = some (.row e sz rows) := by rw [nth_eq]; exact hi
  have hlt : i < os.length := (List.getElem?_eq_some_iff.1 hi).1
  obtain ⟨ad, n, cap, hl, _⟩ := (hr.objs i _ hob).row_shape
  have hn := Nx.freeze (N := fun l => os.length ≤ l) hr hob hl
  have hr2 := hr.next hn (fun _ _ => trivial)
  have he : updF (nth os) [(i, Ob.frow sz rows)] = nth (os.set i (.frow sz rows)) := by
    funext l
    unfold updF
    rw [nth_eq, nth_eq]
    simp only [chGet]
    by_cases q : i = l
    · subst q; simp [hlt]
    · rw [if_neg q, List.getElem?_set_ne q]
  rw [he] at hr2
  refine (h.2 _ φ w cargs (hp.mono fun _ _ q => q.up hn.hF hn.hφ (fun _ _ => rfl)) hr2 (by simpa using hφ)).mono ?_
  rintro x w' ⟨c, F', φ', r, objs', hq, h1, h2, h3⟩
  refine ⟨c, F', φ', r, objs', hq, h1, h2, ?_⟩
  rw [← he, List.length_set] at h3
  have h4 := Nx.trans hr (fun _ _ => trivial) hn h3
  refine h4.congr fun l => ?_
  rw [chGet_append]
  cases hc : chGet (chOf 0 objs') l with
  | some o => rfl
  | none =>
    simp only [chGet]
    rw [if_neg]
    intro q
    subst q
    rw [chGet_chOf] at hc
    have := hQ r objs' hq
    simp at hc
    omega
end
end Abs
end Go.Proofs.YtameoookmgkmfaaGreat
