/- append of a row that is read to a row of the call's own. -/
import Derived.Test.YtkefgcleaalnnaaGreatAtT
import Derived.Test.YtkefgcleaalnnaaGreatStep
import Derived.Deep.AppendSrc
namespace Go.Proofs.YtkefgcleaalnnaaGreat
set_option linter.unusedVariables false
set_option linter.unusedSimpArgs false
open Go.RowKit

theorem run_push_any {P : Program} {w : World} (t ty e : TypeId) (size bytes : Nat) (hE : Elem P t e size bytes) (base g n c : Nat) (xs : List Value) (hown : w.ownsRow base e size (.slice (some ⟨g, 0, none⟩) n c) n xs)
  (ax : Option Addr) (m cx : Nat) (ys : List Value) (hat : At w ax ys) (hl : ys.length = m * size) (h1 : ∀ u ∈ ys, u.oneCell' = true)
  (hm : n + m ≤ maxLen) (h63 : (n + m) * bytes ≤ 140737488355328) (hbase : base ≤ w.heap.size) :
  ∃ a' c' w', (Builtin.append_ #[t, t] ty #[.slice (some ⟨g, 0, none⟩) n c, .slice ax m cx]).run P w = .ok (.slice a' (n + m) c') w' ∧ w'.ownsRow base e size (.slice a' (n + m) c') (n + m) (xs ++ ys) ∧ w.grownBy w' (some g) ∧
   (blk a' = some g ∨ blk a' = some w.heap.size) := by
 obtain ⟨ht, i, z, hi, hz, hsize, hby, hzs, hsz⟩ := hE
 by_cases h0 : m = 0
 ·subst h0
  have hy : ys = [] := by simpa using hl
  subst hy
  have hcap := own_cap hown
  have hs : Src P i.size t (.slice ax 0 cx) 0 [] w := by
   cases ax with
   | none => exact Src.ofNil w ht cx
   | some p => exact Src.ofSlice w ht p 0 cx [] (by simp) (by simp) (by simp)
  have hr := run_append_room_src (P := P) (w := w) t t ty e i ht hi g 0 n c (.slice ax 0 cx) 0 [] hs (by omega) (by simp) (by simp)
  exact ⟨_, _, _, hr, by simpa [World.setCells] using hown, by simpa [World.setCells] using grown_refl w (some g), .inl rfl⟩
 ·have hp : 0 < ys.length := by rw [hl]; exact Nat.mul_pos (by omega) hsz
  rcases hat with hy | ⟨b, off, rfl, hc⟩
  ·rw [hy] at hp; simp at hp
  ·obtain ⟨v', w', hr, h2, h3, h4, h5⟩ := run_append_own_at (P := P) w base t ty e i z size bytes ht hi hz hsize hby hzs hsz (.slice (some ⟨g, 0, none⟩) n c) n xs hown ⟨b, off, none⟩ m cx ys hl
    (by intro j u hu
        have hadd : (⟨b, off, none⟩ : Addr).add j = ⟨b, off + j, none⟩ := by unfold Addr.add; split <;> simp_all
        have hj : j < ys.length := (List.getElem?_eq_some_iff.1 hu).1
        rw [hadd, hc j hj, hu]) h1 hm h63 hbase
   have hv : ∃ a' c', v' = .slice a' (n + m) c' := by
    rcases h2.2 with ⟨hv, hn⟩ | ⟨g, cap, cur, hv, _⟩
    ·exact ⟨none, 0, by rw [hv, hn]⟩
    ·exact ⟨_, _, hv⟩
   obtain ⟨a', c', rfl⟩ := hv
   exact ⟨a', c', w', hr, h2, h3, by simpa [ownBlock_slice, blk] using h5⟩

theorem push_old {P : Program} {w : World} (t ty e : TypeId) (size bytes : Nat) (hE : Elem P t e size bytes) (base g n c : Nat) (xs : List Value) (hown : w.ownsRow base e size (.slice (some ⟨g, 0, none⟩) n c) n xs)
  (ax : Option Addr) (m cx : Nat) (ys : List Value) (hat : At w ax ys) (hl : ys.length = m * size) (h1 : ∀ u ∈ ys, u.oneCell' = true)
  (hm : n + m ≤ maxLen) (h63 : (n + m) * bytes ≤ 140737488355328) {v : Value} {w' : World}
  (hrun : (Builtin.append_ #[t, t] ty #[.slice (some ⟨g, 0, none⟩) n c, .slice ax m cx]).run P w = .ok v w') : (∃ c', v = .slice (some ⟨g, 0, none⟩) (n + m) c') ∨ ∀ b, b < w.heap.size → w'.heap[b]? = w.heap[b]? := by
 obtain ⟨ht, i, z, hi, hz, hsize, hby, hzs, hsz⟩ := hE
 subst hsize hby
 rcases hown.2 with ⟨h0, _⟩ | ⟨g', cap', cur, hv, hbg, hg, hnc, hcm, hcs, htake⟩
 ·cases h0
 ·cases hv
  by_cases h0 : m = 0
  ·subst h0
   have hy : ys = [] := by simpa using hl
   subst hy
   have hs : Src P i.size t (.slice ax 0 cx) 0 [] w := by
    cases ax with
    | none => exact Src.ofNil w ht cx
    | some p => exact Src.ofSlice w ht p 0 cx [] (by simp) (by simp) (by simp)
   have hr := run_append_room_src (P := P) (w := w) t t ty e i ht hi g 0 n c (.slice ax 0 cx) 0 [] hs (by omega) (by simp) (by simp)
   rw [hr] at hrun; cases hrun
   exact .inl ⟨c, rfl⟩
  ·have hp : 0 < ys.length := by rw [hl]; exact Nat.mul_pos (by omega) hsz
   rcases hat with hy | ⟨b, off, rfl, hc⟩
   ·rw [hy] at hp; simp at hp
   ·have hnews : ∀ j u, ys[j]? = some u → w.cell? ((⟨b, off, none⟩ : Addr).add j) = some u := by
     intro j u hu
     have hadd : (⟨b, off, none⟩ : Addr).add j = ⟨b, off + j, none⟩ := by unfold Addr.add; split <;> simp_all
     have hj : j < ys.length := (List.getElem?_eq_some_iff.1 hu).1
     rw [hadd, hc j hj, hu]
    by_cases hroom : n + m ≤ c
    ·have hfit : n * i.size + ys.length ≤ cur.size := by rw [hl, hcs, ← Nat.add_mul]; exact Nat.mul_le_mul_right _ hroom
     have hr := run_append_room (P := P) w t ty e i ht hi g n c cur hg ⟨b, off, none⟩ m cx ys hl hnews h1 hroom hfit
     rw [hr] at hrun; cases hrun
     exact .inl ⟨c, rfl⟩
    ·have holds : ∀ j u, xs[j]? = some u → w.cell? ((⟨g, 0, none⟩ : Addr).add j) = some u := hown.cells (g := g) rfl
     have hr := run_append_grow (P := P) w t ty e i z ht hi hz ⟨g, 0, none⟩ n c xs hown.1 holds ⟨b, off, none⟩ m cx ys hl hnews (by omega) (by have := hm; unfold maxLen at this; omega) (growslice_fits (by omega) h63)
     rw [hr] at hrun; cases hrun
     exact .inr fun b hb => heap_alloc_old w.drew _ hb

end Go.Proofs.YtkefgcleaalnnaaGreat
