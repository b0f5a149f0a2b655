/- Rows that are known by their slices' values: into a pool, and out of it; pools that become one. -/
import Derived.Test.YtkefgcleaalnnaaGreatAbsMs
namespace Go.Proofs.YtkefgcleaalnnaaGreat
set_option linter.unusedVariables false
set_option linter.unusedSimpArgs false
namespace Abs

section
variable {F : Nat → Prop} {φ : Nat → Option Value} {X : Nat → Prop} {w : World} {h : Nat → Option Ob} {N : Nat → Prop}

theorem Nx.adopt1 {a id e sz : Nat} {rows : List (List V)} {c : Value} (hr : Rp F φ X w h) (hN : N id) (hid : φ id = none) (h2 : h a = some (.row e sz rows)) (hc : φ a = some c) :
  Nx F φ w h N [(a, .dead), (id, .pool e sz [(c, some rows)])] F (addφ φ id (.slice none 0 0)) w := by
 have hra := (hr.objs a _ h2).rowAt' hc
 have hai : a ≠ id := fun e => by rw [e, hid] at hc; cases hc
 have hphi := addφ_ext hid (.slice none 0 0)
 have haB : ∀ b, hb c = some b → Blk φ a (.row e sz rows) b := fun b hb' => .inl (by simp [blkOf, hc, hb'])
 refine ⟨fun _ h => h, hphi, ?_, rfl, rfl, rfl, fun _ => Nat.le_refl _, Nat.le_refl _, fun b _ hne => (hne rfl).elim, fun b hb' => .inl hb', ?_, ?_, ?_⟩
 ·intro l d hl
  unfold addφ at hl
  split at hl
  ·rename_i e1; subst e1; cases hl; exact .inr ⟨hN, rfl⟩
  ·exact .inl hl
 ·intro l x hx
  rcases get2_inv hx with ⟨rfl, rfl⟩ | ⟨_, rfl, rfl⟩
  ·refine ⟨by simp [addφ], ?_, ?_⟩
   ·intro x hx r hxr
    rw [List.mem_singleton] at hx
    subst hx
    cases hxr
    exact hra
   ·intro i j x y r1 r2 b hx hy _ _ _ _
    have h1 := (List.getElem?_eq_some_iff.1 hx).1
    have h2 := (List.getElem?_eq_some_iff.1 hy).1
    simp at h1 h2; omega
  ·trivial
 ·intro l x b hx hv hB
  rcases get2_inv hx with ⟨rfl, rfl⟩ | ⟨_, rfl, rfl⟩
  ·rcases hB with hB | ⟨x, hx, r, hxr, hB⟩
   ·simp [blkOf, addφ, hb] at hB
   ·rw [List.mem_singleton] at hx
    subst hx
    exact .inr ⟨a, _, h2, rfl, haB b hB, by simp [chGet, Ne.symm hai]⟩
  ·simp [live] at hv
 ·intro l l3 x x' b hx hx' hv hv' _ _
  rcases get2_inv hx with ⟨rfl, rfl⟩ | ⟨_, rfl, rfl⟩
  ·rcases get2_inv hx' with ⟨rfl, rfl⟩ | ⟨_, rfl, rfl⟩
   ·rfl
   ·simp [live] at hv'
  ·simp [live] at hv
theorem Nx.takeP {p id e sz i : Nat} {ins : List (Value × Option (List (List V)))} {rows : List (List V)} {c : Value} (hr : Rp F φ X w h) (hN : N id) (hid : φ id = none) (h2 : h p = some (.pool e sz ins)) (h3 : ins[i]? = some (c, some rows)) :
  Nx F φ w h N [(p, .pool e sz (ins.set i (c, none))), (id, .row e sz rows)] F (addφ φ id c) w := by
 obtain ⟨g1, g4, g6⟩ := hr.objs p _ h2
 have hmem := List.mem_of_getElem? h3
 have hil : i < ins.length := (List.getElem?_eq_some_iff.1 h3).1
 have hra : RowAt F w e sz c rows := g4 _ hmem rows rfl
 have hpi : p ≠ id := fun e => by rw [e, hid] at g1; cases g1
 have hphi := addφ_ext hid c
 have hpB : ∀ (x : Value × Option (List (List V))) r b, x ∈ ins → x.2 = some r → hb x.1 = some b → Blk φ p (.pool e sz ins) b := fun x r b hx hr' hb' => .inr ⟨x, hx, r, hr', hb'⟩
 have hel : ∀ (j : Nat) (x : Value × Option (List (List V))) (r : List (List V)), (ins.set i (c, none))[j]? = some x → x.2 = some r → j ≠ i ∧ ins[j]? = some x := by
  intro j x r hp hpr
  rw [List.getElem?_set] at hp
  by_cases e : i = j
  ·subst e; rw [if_pos rfl, if_pos hil] at hp; cases hp; cases hpr
  ·rw [if_neg e] at hp; exact ⟨Ne.symm e, hp⟩
 have hbk : ∀ b, Blk (addφ φ id c) id (.row e sz rows) b → hb c = some b := by
  intro b k
  have := k.base
  simpa [blkOf, addφ] using this
 have hbp : ∀ b, Blk (addφ φ id c) p (.pool e sz (ins.set i (c, none))) b → ∃ (x : Value × Option (List (List V))) (j : Nat) (r : List (List V)), j ≠ i ∧ ins[j]? = some x ∧ x.2 = some r ∧ hb x.1 = some b := by
  rintro b (k | ⟨x, hx, r, hxr, k⟩)
  ·unfold blkOf at k
   rw [hphi _ _ g1] at k
   simp [hb] at k
  ·obtain ⟨j, hj⟩ := List.getElem?_of_mem hx
   obtain ⟨hji, hj⟩ := hel j x r hj hxr
   exact ⟨x, j, r, hji, hj, hxr, k⟩
 refine ⟨fun _ h => h, hphi, ?_, rfl, rfl, rfl, fun _ => Nat.le_refl _, Nat.le_refl _, fun b _ hne => (hne rfl).elim, fun b hb' => .inl hb', ?_, ?_, ?_⟩
 ·intro l d hl
  unfold addφ at hl
  split at hl
  ·rename_i e1; subst e1; cases hl
   obtain ⟨ad, cap, e⟩ := hra.shape
   exact .inr ⟨hN, by rw [e]; rfl⟩
  ·exact .inl hl
 ·intro l x hx
  rcases get2_inv hx with ⟨rfl, rfl⟩ | ⟨_, rfl, rfl⟩
  ·rcases hra with ⟨xs, k⟩ | ⟨k0, q, k⟩
   ·exact .inl ⟨c, xs, by simp [addφ], k⟩
   ·exact .inr ⟨k0, q, by simp [addφ, k]⟩
  ·refine ⟨hphi _ _ g1, ?_, ?_⟩
   ·intro x hx r hxr
    obtain ⟨j, hj⟩ := List.getElem?_of_mem hx
    obtain ⟨_, hj⟩ := hel j x r hj hxr
    exact g4 x (List.mem_of_getElem? hj) r hxr
   ·intro j1 j2 x y r1 r2 b hx hy hr1 hr2 hb1 hb2
    exact g6 j1 j2 x y r1 r2 b (hel j1 x r1 hx hr1).2 (hel j2 y r2 hy hr2).2 hr1 hr2 hb1 hb2
 ·intro l x b hx hv hB
  rcases get2_inv hx with ⟨rfl, rfl⟩ | ⟨_, rfl, rfl⟩
  ·exact .inr ⟨p, _, h2, rfl, hpB _ rows b hmem rfl (hbk b hB), by simp [chGet, Ne.symm hpi]⟩
  ·obtain ⟨x, j, r, _, hj, hxr, k⟩ := hbp b hB
   exact .inr ⟨l, _, h2, rfl, hpB x r b (List.mem_of_getElem? hj) hxr k, by simp [chGet, Ne.symm hpi]⟩
 ·have hcross : ∀ b, Blk (addφ φ id c) id (.row e sz rows) b → Blk (addφ φ id c) p (.pool e sz (ins.set i (c, none))) b → False := by
   intro b k1 k2
   obtain ⟨x, j, r, hji, hj, hxr, k⟩ := hbp b k2
   exact hji (g6 j i x _ r rows b hj h3 hxr rfl k (hbk b k1))
  intro l l3 x x' b hx hx' hv hv' q1 q2
  rcases get2_inv hx with ⟨rfl, rfl⟩ | ⟨_, rfl, rfl⟩ <;> rcases get2_inv hx' with ⟨rfl, rfl⟩ | ⟨_, rfl, rfl⟩
  ·rfl
  ·exact (hcross b q1 q2).elim
  ·exact (hcross b q2 q1).elim
  ·rfl
theorem Nx.merge {p l e sz : Nat} {i0 i1 : List (Value × Option (List (List V)))} (hr : Rp F φ X w h) (hpl : p ≠ l) (h0 : h p = some (.pool e sz i0)) (h1 : h l = some (.pool e sz i1)) :
  Nx F φ w h N [(l, .dead), (p, .pool e sz (i0 ++ i1))] F φ w := by
 obtain ⟨g1, g2, g3⟩ := hr.objs p _ h0
 obtain ⟨k1, k2, k3⟩ := hr.objs l _ h1
 have hB0 : ∀ (x : Value × Option (List (List V))) r b, x ∈ i0 → x.2 = some r → hb x.1 = some b → Blk φ p (.pool e sz i0) b := fun x r b hx hr' hb' => .inr ⟨x, hx, r, hr', hb'⟩
 have hB1 : ∀ (x : Value × Option (List (List V))) r b, x ∈ i1 → x.2 = some r → hb x.1 = some b → Blk φ l (.pool e sz i1) b := fun x r b hx hr' hb' => .inr ⟨x, hx, r, hr', hb'⟩
 have hel : ∀ (j : Nat) (x : Value × Option (List (List V))), (i0 ++ i1)[j]? = some x → (j < i0.length ∧ i0[j]? = some x) ∨ (i0.length ≤ j ∧ i1[j - i0.length]? = some x) := by
  intro j x hx
  by_cases e : j < i0.length
  ·rw [List.getElem?_append_left e] at hx; exact .inl ⟨e, hx⟩
  ·rw [List.getElem?_append_right (by omega)] at hx; exact .inr ⟨by omega, hx⟩
 refine ⟨fun _ h => h, fun _ _ h => h, fun _ _ h => .inl h, rfl, rfl, rfl, fun _ => Nat.le_refl _, Nat.le_refl _, fun b _ hne => (hne rfl).elim, fun b hb' => .inl hb', ?_, ?_, ?_⟩
 ·intro l2 x hx
  rcases get2_inv hx with ⟨rfl, rfl⟩ | ⟨_, rfl, rfl⟩
  ·refine ⟨g1, ?_, ?_⟩
   ·intro x hx r hxr
    rcases List.mem_append.1 hx with hx | hx
    ·exact g2 x hx r hxr
    ·exact k2 x hx r hxr
   ·intro j1 j2 x y r1 r2 b hx hy hr1 hr2 hb1 hb2
    rcases hel j1 x hx with ⟨_, q1⟩ | ⟨_, q1⟩ <;> rcases hel j2 y hy with ⟨_, q2⟩ | ⟨_, q2⟩
    ·exact g3 j1 j2 x y r1 r2 b q1 q2 hr1 hr2 hb1 hb2
    ·exact (hpl (hr.inj _ _ _ _ b h0 h1 rfl rfl (hB0 x r1 b (List.mem_of_getElem? q1) hr1 hb1) (hB1 y r2 b (List.mem_of_getElem? q2) hr2 hb2))).elim
    ·exact (hpl (hr.inj _ _ _ _ b h0 h1 rfl rfl (hB0 y r2 b (List.mem_of_getElem? q2) hr2 hb2) (hB1 x r1 b (List.mem_of_getElem? q1) hr1 hb1))).elim
    ·have := k3 _ _ x y r1 r2 b q1 q2 hr1 hr2 hb1 hb2
     omega
  ·trivial
 ·intro l2 x b hx hv hB
  rcases get2_inv hx with ⟨rfl, rfl⟩ | ⟨_, rfl, rfl⟩
  ·rcases hB with hB | ⟨x, hx, r, hxr, hB⟩
   ·exact .inr ⟨l2, _, h0, rfl, .inl hB, by simp [chGet]⟩
   ·rcases List.mem_append.1 hx with hx | hx
    ·exact .inr ⟨l2, _, h0, rfl, hB0 x r b hx hxr hB, by simp [chGet]⟩
    ·exact .inr ⟨l, _, h1, rfl, hB1 x r b hx hxr hB, by simp [chGet, hpl]⟩
  ·simp [live] at hv
 ·intro l2 l3 x x' b hx hx' hv hv' _ _
  rcases get2_inv hx with ⟨rfl, rfl⟩ | ⟨_, rfl, rfl⟩
  ·rcases get2_inv hx' with ⟨rfl, rfl⟩ | ⟨_, rfl, rfl⟩
   ·rfl
   ·simp [live] at hv'
  ·simp [live] at hv
theorem rawA_sound {a : Nat} {c : Value} {φ' : Nat → Option Value} (hφ : ∀ l d, φ l = some d → φ' l = some d) (hc : φ a = some c) (hs : ∃ ad n cap, c = .slice ad n cap) :
  ∀ (xs : List Value) (cs : List V), P2 (RV F φ w) xs cs → P2 (RV F φ' w) xs (rawA a c cs)
 | xs, [], hP => by cases xs with
  | nil => exact P2.nil
  | cons => have := hP.1; simp at this
 | xs, v :: r, hP => by
  obtain ⟨x, xs', rfl, h1, h2⟩ := hP.cons_inv
  refine P2.cons ?_ (rawA_sound hφ hc hs xs' r h2)
  have h1' : RV F φ' w x v := h1.up (fun _ h => h) hφ (fun _ _ => rfl)
  unfold rawV
  split
  ·rename_i l
   cases hq : Nat.beq l a with
   | false => exact h1'
   | true =>
    have := beq_eqn hq
    subst this
    have hx : x = c := by
     cases h1 with
     | tree hv => cases hv
     | row _ _ hl => rw [hc] at hl; exact (Option.some.inj hl).symm
    subst hx
    obtain ⟨ad, n, cap, rfl⟩ := hs
    exact .tree (.raw ad n cap)
  ·exact h1'
end
end Abs
end Go.Proofs.YtkefgcleaalnnaaGreat
