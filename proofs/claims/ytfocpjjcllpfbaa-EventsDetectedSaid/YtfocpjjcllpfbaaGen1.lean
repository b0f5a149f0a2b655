/- Walks of the generators of traces and rules. -/
import Derived.Test.YtfocpjjcllpfbaaStream
import Derived.Test.YtfocpjjcllpfbaaRegion
namespace Go.Proofs.Ytfocpjjcllpfbaa
open Go.RowKit

def Bd (x : Int) : Prop := -4611686018427387904 ≤ x ∧ x ≤ 4611686018427387904

/-- a row of three small numbers, made behind s and apart from B4 -/
def Row3 (s B4 : Nat) (v : Value) (w : World) : Prop :=
  ∃ b x y z, v = .slice (some ⟨b, 0, none⟩) 3 3 ∧ s < b ∧ b ≠ B4 ∧ w.heap[b]? = some (.cells #[.int .i64 x, .int .i64 y, .int .i64 z] 3 (0, 0)) ∧ Bd x ∧ Bd y ∧ Bd z

/-- what the operations of 'r.Step, r.Width, r.Loss = ..' leave -/
def RT (s B4 : Nat) (j : Nat) (v : Value) (w : World) : Prop :=
  match j with
  | 0 | 2 | 7 => v = .pointer (some ⟨s, 0, none⟩)
  | 1 | 4 | 6 | 9 | 11 => ∃ x, v = .int .i64 x ∧ Bd x
  | 3 | 14 => v = .pointer (some ⟨B4, 1, none⟩)
  | 8 | 16 => v = .pointer (some ⟨B4, 2, none⟩)
  | 12 => v = .pointer (some ⟨B4, 0, none⟩)
  | 5 | 10 => Row3 s B4 v w
  | _ => True

def RR (s B4 : Nat) (w w' : World) : Prop := ∀ b, b ≠ s → b ≠ B4 → b < w.heap.size → w'.heap[b]? = w.heap[b]?

def RI (W : World) (s B2 B4 K : Nat) (D : Nat → Bool) (w : World) : Prop :=
  (∃ k, Str w s k ∧ k ≤ K + (if D 1 then 2 else 0) + (if D 6 then 1 else 0) + (if D 11 then 1 else 0)) ∧ W.grownBy w (some s) ∧
  (∃ x0 x1 x2 x3 x4, w.heap[B4]? = some (.cells #[.int .i64 x0, .int .i64 x1, .int .i64 x2, .int .i64 x3, .int .i64 x4] 30 (0, 0)) ∧ Bd x0 ∧ Bd x1 ∧ Bd x2 ∧ Bd x3 ∧ Bd x4) ∧
  w.heap[B2]? = some (.cells #[.int .i64 0, .int .i64 0, .int .i64 0, .int .i64 0, .int .i64 0] 30 (0, 0))

theorem RT_stab (s B4 j : Nat) (v : Value) (w w' : World) (h : RT s B4 j v w) (hR : RR s B4 w w') : RT s B4 j v w' := by
  unfold RT at *
  split at h <;> try exact h
  all_goals
    obtain ⟨b, x, y, z, hv, h1, h2, h3, r⟩ := h
    exact ⟨b, x, y, z, hv, h1, h2, (hR b (by omega) h2 (lt_of_block h3)).trans h3, r⟩

/-- rules whose numbers are small -/
def RulesPost (w : World) (s K : Nat) (e : Ending) (w' : World) : Prop :=
  ∃ st wd ls nm dn : Int, e = .returned (.agg #[.int .i64 st, .int .i64 wd, .int .i64 ls, .int .i64 nm, .int .i64 dn]) ∧
    (-4611686018427387904 ≤ st ∧ st ≤ 4611686018427387904 ∧ -4611686018427387904 ≤ wd ∧ wd ≤ 4611686018427387904 ∧ -4611686018427387904 ≤ ls ∧ ls ≤ 4611686018427387904 ∧
     -4611686018427387904 ≤ nm ∧ nm ≤ 4611686018427387904 ∧ -4611686018427387904 ≤ dn ∧ dn ≤ 4611686018427387904) ∧ Str w' s K ∧ w.grownBy w' (some s)

theorem RR_of {s B4 : Nat} {w w' : World} (hg : w.grownBy w' (some s)) : RR s B4 w w' := fun b h1 _ h3 => hg.block b h3 (by simpa using h1)
theorem RR_store {s B4 : Nat} {w : World} {p : Addr} (hp : p.block = B4) (v : Value) : RR s B4 w (w.setCell p v) := fun b _ h2 _ => heap_setCell_other w p b v (by rw [hp]; exact h2)

/-- Pick of a row of three -/
theorem pick_row3 {s B4 k : Nat} {w : World} {v : Value} (h : Row3 s B4 v w) (hs : Str w s k) (hk : k < 4611686018427387904) :
    Calls Try.prog 7 #[.pointer (some ⟨s, 0, none⟩), v] w (fun e w' => ∃ x, e = .returned (.int .i64 x) ∧ Bd x ∧ Str w' s (k + 1) ∧ w.grownBy w' (some s)) := by
  obtain ⟨b, x, y, z, rfl, h1, h2, h3, hx, hy, hz⟩ := h
  refine (pick_any s k _ _ _ [x, y, z] _ hk rfl (by simp) (by simp [maxLen]) ?_ (by intro p hp; cases hp; exact Nat.ne_of_gt h1) hs).mono ?_
  · refine .inr ⟨b, 0, rfl, fun j hj => ?_⟩
    simp [World.cell?, h3, ints]
  · rintro e w' ⟨r, rfl, hm, hs', hg⟩
    refine ⟨r, rfl, ?_, hs', hg⟩
    simp at hm
    rcases hm with rfl | rfl | rfl <;> assumption

set_option maxRecDepth 100000 in
set_option maxHeartbeats 2000000 in
theorem rules_any (s K : Nat) (w : World) (hK : K < 2305843009213693952) (hs : Str w s K) :
    Calls Try.prog 6 #[.pointer (some ⟨s, 0, none⟩)] w (RulesPost w s (K + 20)) := by
  have hslt := hs.lt
  have hgW := grown_refl w (some s)
  have hb2 := heap_alloc_new w (.cells #[.int .i64 0, .int .i64 0, .int .i64 0, .int .i64 0, .int .i64 0] 30)
  replace hs := hs.alloc (.cells #[.int .i64 0, .int .i64 0, .int .i64 0, .int .i64 0, .int .i64 0] 30)
  replace hgW := hgW.trans (World.grownBy_alloc w (.cells #[.int .i64 0, .int .i64 0, .int .i64 0, .int .i64 0, .int .i64 0] 30) (some s))
  have H2 := Lib.hid hb2
  clear hb2
  go_enter Try.func6, Try.ntmps6
  go_wp2_with fail
  have hb2 := H2.out
  clear H2
  refine (pick_lit s K [1, 5, 10] _ _ _ _ _ (by simp) rfl rfl (by omega) (by simp) (by simp) hs).mono ?_
  clear hs
  rintro e w1 ⟨st, rfl, hm1, hs, hg⟩
  replace hgW := hgW.trans hg
  replace hb2 := (hg.block _ (lt_of_block hb2) (by simp; omega)).trans hb2
  clear hg
  go_wp2_with fail
  refine (pick_lit s (K + 1) [1, 2, 3, 5] _ _ _ _ _ (by simp) rfl rfl (by omega) (by simp) (by simp) hs).mono ?_
  clear hs
  rintro e w2 ⟨wd, rfl, hm2, hs, hg⟩
  replace hgW := hgW.trans hg
  replace hb2 := (hg.block _ (lt_of_block hb2) (by simp; omega)).trans hb2
  clear hg
  go_wp2_with fail
  have hsz2 := hgW.size
  refine (pick_lit s (K + 2) [1, 3, 10, 20] _ _ _ _ _ (by simp) rfl rfl (by omega) (by simp) (by simp) hs).mono ?_
  clear hs
  rintro e w3 ⟨ls, rfl, hm3, hs, hg⟩
  replace hgW := hgW.trans hg
  replace hb2 := (hg.block _ (lt_of_block hb2) (by simp; omega)).trans hb2
  clear hg
  go_wp2_with fail
  have hsz3 := hgW.size
  clear hsz2
  have hb3 := heap_alloc_new w3 (.cells #[.int .i64 0, .int .i64 1, .int .i64 1, .int .i64 1, .int .i64 1, .int .i64 2, .int .i64 3, .int .i64 10] 28)
  replace hs := hs.alloc (.cells #[.int .i64 0, .int .i64 1, .int .i64 1, .int .i64 1, .int .i64 1, .int .i64 2, .int .i64 3, .int .i64 10] 28)
  replace hgW := hgW.trans (World.grownBy_alloc w3 (.cells #[.int .i64 0, .int .i64 1, .int .i64 1, .int .i64 1, .int .i64 1, .int .i64 2, .int .i64 3, .int .i64 10] 28) (some s))
  replace hb2 := (World.grownBy_alloc w3 (.cells #[.int .i64 0, .int .i64 1, .int .i64 1, .int .i64 1, .int .i64 1, .int .i64 2, .int .i64 3, .int .i64 10] 28) none).block _ (lt_of_block hb2) (by simp) |>.trans hb2
  have hlt3 : s < w3.heap.size := Nat.lt_of_lt_of_le hslt hsz3
  refine (next_any s _ _ _ (by omega) (by omega) hs).mono ?_
  clear hs
  rintro e w4 ⟨r, rfl, hr0, hr1, hs, hg⟩
  replace hgW := hgW.trans hg
  replace hb2 := (hg.block _ (lt_of_block hb2) (by simp; omega)).trans hb2
  replace hb3 := (hg.block _ (lt_of_block hb3) (by simp; omega)).trans hb3
  clear hg
  obtain ⟨R, rfl⟩ := Int.eq_ofNat_of_zero_le hr0
  have hR : R < 4 := by have := hr1 (by omega); omega
  clear hr0 hr1
  obtain ⟨nm, dn, hc0, hc1, hnd⟩ : ∃ nm dn : Int, w4.cell? ⟨w3.heap.size, R * 2, none⟩ = some (.int .i64 nm) ∧ w4.cell? ⟨w3.heap.size, R * 2 + 1, none⟩ = some (.int .i64 dn) ∧ (0 ≤ nm ∧ nm ≤ 10 ∧ 0 ≤ dn ∧ dn ≤ 10) := by
    simp only [World.cell?, hb3]
    obtain rfl | rfl | rfl | rfl : R = 0 ∨ R = 1 ∨ R = 2 ∨ R = 3 := by omega
    all_goals exact ⟨_, _, rfl, rfl, by omega⟩
  have hst : 0 ≤ st ∧ st ≤ 100 := by simp at hm1; omega
  have hwd : 0 ≤ wd ∧ wd ≤ 100 := by simp at hm2; omega
  have hls : 0 ≤ ls ∧ ls ≤ 100 := by simp at hm3; omega
  clear hb3 hm1 hm2 hm3
  go_wp2_with fail
  clear hc0 hc1
  have hsz4 := hgW.size
  have hne4' : w.heap.size < w4.heap.size := lt_of_block hb2
  have hb4 := heap_alloc_new w4 (.cells #[.int .i64 st, .int .i64 wd, .int .i64 ls, .int .i64 nm, .int .i64 dn] 30)
  replace hs := hs.alloc (.cells #[.int .i64 st, .int .i64 wd, .int .i64 ls, .int .i64 nm, .int .i64 dn] 30)
  replace hgW := hgW.trans (World.grownBy_alloc w4 (.cells #[.int .i64 st, .int .i64 wd, .int .i64 ls, .int .i64 nm, .int .i64 dn] 30) (some s))
  replace hb2 := (heap_alloc_old w4 (.cells #[.int .i64 st, .int .i64 wd, .int .i64 ls, .int .i64 nm, .int .i64 dn] 30) (lt_of_block hb2)).trans hb2
  have hne4 : w.heap.size < w4.heap.size := hne4'
  have hlt4 : s < w4.heap.size := Nat.lt_of_lt_of_le hslt hsz4
  refine (flip_any s _ _ _ (by omega) (by omega) hs).mono ?_
  clear hs
  rintro e w5 ⟨f, rfl, hs, hg⟩
  replace hgW := hgW.trans hg
  replace hb2 := (hg.block _ (lt_of_block hb2) (by simp; omega)).trans hb2
  replace hb4 := (hg.block _ (lt_of_block hb4) (by simp; omega)).trans hb4
  clear hg
  cases f
  · have hc2 := cells5 hb2
    have hf2 := free5 hb2
    have hc4 := cells5 hb4
    clear hb2 hb4
    go_wp2_with fail
    refine bodyPost_ret (v := .agg #[.int .i64 st, .int .i64 wd, .int .i64 ls, .int .i64 nm, .int .i64 dn]) (by simp [results, Try.results6, go_sem, hc2]) rfl ?_
    refine ⟨_, _, _, _, _, rfl, by omega, ?_, ?_⟩
    · exact ((((((hs.setCell hslt _).setCell hslt _).setCell hslt _).setCell hslt _).setCell hslt _)).mono (by omega)
    · exact grown_setCell (grown_setCell (grown_setCell (grown_setCell (grown_setCell hgW (Nat.le_refl _) _) (Nat.le_refl _) _) (Nat.le_refl _) _) (Nat.le_refl _) _) (Nat.le_refl _) _
  · go_wp2_with fail
    refine (next_any s _ _ _ (by omega) (by omega) hs).mono ?_
    clear hs
    rintro e w6 ⟨r, rfl, hr0, hr1, hs, hg⟩
    replace hgW := hgW.trans hg
    replace hb2 := (hg.block _ (lt_of_block hb2) (by simp; omega)).trans hb2
    replace hb4 := (hg.block _ (lt_of_block hb4) (by simp; omega)).trans hb4
    clear hg
    have hr2 := hr1 (by omega)
    have hc2 := cells5 hb2
    have hf2 := free5 hb2
    have hc4 := cells5 hb4
    have hf4 := free5 hb4
    have hne : w.heap.size < w4.heap.size := hne4
    obtain rfl | rfl : r = 0 ∨ r = 1 := by omega
    · clear hr0 hr1 hr2
      go_wp2_with fail
      refine wp_region_typed (by kernel_rfl) (RT s w4.heap.size) (RR s w4.heap.size) (RI w s w.heap.size w4.heap.size (K + 6)) (by kernel_rfl) (by kernel_rfl) (RT_stab s w4.heap.size) ?_ ?_ ?_
      · exact ⟨⟨_, hs.drew, by simp⟩, grown_drew_r hgW, ⟨_, _, _, _, _, hb4, by unfold Bd; omega⟩, hb2⟩
      · intro j o D a w ho hnD hd hf hI
        have hj : j < 18 := (Array.getElem?_eq_some_iff.1 ho).1
        obtain rfl | rfl | rfl | rfl | rfl | rfl | rfl | rfl | rfl | rfl | rfl | rfl | rfl | rfl | rfl | rfl | rfl | rfl : j = 0 ∨ j = 1 ∨ j = 2 ∨ j = 3 ∨ j = 4 ∨ j = 5 ∨ j = 6 ∨ j = 7 ∨ j = 8 ∨ j = 9 ∨ j = 10 ∨ j = 11 ∨ j = 12 ∨ j = 13 ∨ j = 14 ∨ j = 15 ∨ j = 16 ∨ j = 17 := by omega
        all_goals (obtain rfl := Option.some.inj ho; rw [if_pos (wanted_plain rfl _)])
        · have h := hf.var 0 (by kernel_rfl)
          exact wp_value (v := .pointer (some ⟨s, 0, none⟩)) (by simp [execOp, eval_tmp, h]) ⟨_, rfl, rfl, fun _ _ _ _ => rfl, by simpa [RI] using hI⟩
        · have h : a.tmps[41]?.getD undef = _ := hf.got 0 41 rfl (hd ⟨0, .data⟩ (by simp) rfl)
          obtain ⟨⟨k, hk1, hk2⟩, hq2, ⟨x0, x1, x2, x3, x4, hb, hx'⟩, hq3⟩ := hI
          refine wp_call _ _ _ _ rfl Try.func37 (by kernel_rfl) (by kernel_rfl) _ (by simp [eval_tmp, eval_const, h]) (odd_any s k 1 100 w (by have hk3 : k ≤ K + 10 := (by revert hk2; (repeat' split) <;> omega); omega) (by omega) (by omega) (by omega) hk1) ?_
          rintro e w' ⟨x, rfl, hx0, hx1, hs2, hg2⟩
          exact ⟨_, rfl, _, rfl, ⟨x, rfl, by unfold Bd; omega⟩, RR_of hg2, ⟨_, hs2, by simp [hnD] at hk2 ⊢; omega⟩, hq2.trans hg2, ⟨x0, x1, x2, x3, x4, blk_gen hb hg2 hlt4, hx'⟩, blk_gen hq3 hg2 hslt⟩
        · have h := hf.var 0 (by kernel_rfl)
          exact wp_value (v := .pointer (some ⟨s, 0, none⟩)) (by simp [execOp, eval_tmp, h]) ⟨_, rfl, rfl, fun _ _ _ _ => rfl, by simpa [RI] using hI⟩
        · have h := hf.var 3 (by kernel_rfl)
          exact wp_value (v := .pointer (some ⟨w4.heap.size, 1, none⟩)) (by simp [execOp, h, go_sem]) ⟨_, rfl, rfl, fun _ _ _ _ => rfl, by simpa [RI] using hI⟩
        · have h : a.tmps[44]?.getD undef = _ := hf.got 3 44 rfl (hd ⟨3, .data⟩ (by simp) rfl)
          obtain ⟨hq1, hq2, ⟨x0, x1, x2, x3, x4, hb, hx⟩, hq3⟩ := hI
          have hc := (cells5 hb).2.1
          exact wp_value (v := .int .i64 x1) (by simp [execOp, h, hc, go_sem]) ⟨_, rfl, ⟨_, rfl, hx.2.1⟩, fun _ _ _ _ => rfl, by simpa using hq1, hq2, ⟨x0, x1, x2, x3, x4, hb, hx⟩, hq3⟩
        · obtain ⟨x, h, hx⟩ := hf.got 4 45 rfl (hd ⟨4, .data⟩ (by simp) rfl)
          obtain ⟨hq1, hq2, ⟨x0, x1, x2, x3, x4, hb, hx'⟩, hq3⟩ := hI
          obtain ⟨k, hk1, hk2⟩ := hq1
          have h3 := heap_alloc_new w (.cells #[.int .i64 x, .int .i64 0, .int .i64 101] 3)
          have hlt := lt_of_block hb
          exact wp_value (v := .slice (some ⟨w.heap.size, 0, none⟩) 3 3) (w' := w.alloc (.cells #[.int .i64 x, .int .i64 0, .int .i64 101] 3)) (by simp [execOp, h, go_sem]) ⟨_, rfl, ⟨w.heap.size, x, 0, 101, rfl, hk1.lt, by omega, h3, hx, by unfold Bd; omega, by unfold Bd; omega⟩, fun b _ _ h => heap_alloc_old w _ h, ⟨k, hk1.alloc _, by simpa using hk2⟩, grown_alloc_r hq2 _, ⟨x0, x1, x2, x3, x4, (heap_alloc_old w _ hlt).trans hb, hx'⟩, (heap_alloc_old w _ (lt_of_block hq3)).trans hq3⟩
        · have h : a.tmps[43]?.getD undef = _ := hf.got 2 43 rfl (hd ⟨2, .data⟩ (by simp) rfl)
          have h' : Row3 s w4.heap.size (a.tmps[46]?.getD undef) w := hf.got 5 46 rfl (hd ⟨5, .data⟩ (by simp) rfl)
          obtain ⟨⟨k, hk1, hk2⟩, hq2, ⟨x0, x1, x2, x3, x4, hb, hx'⟩, hq3⟩ := hI
          refine wp_call _ _ _ _ rfl Try.func7 (by kernel_rfl) (by kernel_rfl) _ (by simp [eval_tmp, h]) (pick_row3 h' hk1 (by have hk3 : k ≤ K + 10 := (by revert hk2; (repeat' split) <;> omega); omega)) ?_
          rintro e w' ⟨x, rfl, hx0, hs2, hg2⟩
          exact ⟨_, rfl, _, rfl, ⟨x, rfl, hx0⟩, RR_of hg2, ⟨_, hs2, by simp [hnD] at hk2 ⊢; omega⟩, hq2.trans hg2, ⟨x0, x1, x2, x3, x4, blk_gen hb hg2 hlt4, hx'⟩, blk_gen hq3 hg2 hslt⟩
        · have h := hf.var 0 (by kernel_rfl)
          exact wp_value (v := .pointer (some ⟨s, 0, none⟩)) (by simp [execOp, eval_tmp, h]) ⟨_, rfl, rfl, fun _ _ _ _ => rfl, by simpa [RI] using hI⟩
        · have h := hf.var 3 (by kernel_rfl)
          exact wp_value (v := .pointer (some ⟨w4.heap.size, 2, none⟩)) (by simp [execOp, h, go_sem]) ⟨_, rfl, rfl, fun _ _ _ _ => rfl, by simpa [RI] using hI⟩
        · have h : a.tmps[49]?.getD undef = _ := hf.got 8 49 rfl (hd ⟨8, .data⟩ (by simp) rfl)
          obtain ⟨hq1, hq2, ⟨x0, x1, x2, x3, x4, hb, hx⟩, hq3⟩ := hI
          have hc := (cells5 hb).2.2.1
          exact wp_value (v := .int .i64 x2) (by simp [execOp, h, hc, go_sem]) ⟨_, rfl, ⟨_, rfl, hx.2.2.1⟩, fun _ _ _ _ => rfl, by simpa using hq1, hq2, ⟨x0, x1, x2, x3, x4, hb, hx⟩, hq3⟩
        · obtain ⟨x, h, hx⟩ := hf.got 9 50 rfl (hd ⟨9, .data⟩ (by simp) rfl)
          obtain ⟨hq1, hq2, ⟨x0, x1, x2, x3, x4, hb, hx'⟩, hq3⟩ := hI
          obtain ⟨k, hk1, hk2⟩ := hq1
          have h3 := heap_alloc_new w (.cells #[.int .i64 x, .int .i64 0, .int .i64 10001] 3)
          have hlt := lt_of_block hb
          exact wp_value (v := .slice (some ⟨w.heap.size, 0, none⟩) 3 3) (w' := w.alloc (.cells #[.int .i64 x, .int .i64 0, .int .i64 10001] 3)) (by simp [execOp, h, go_sem]) ⟨_, rfl, ⟨w.heap.size, x, 0, 10001, rfl, hk1.lt, by omega, h3, hx, by unfold Bd; omega, by unfold Bd; omega⟩, fun b _ _ h => heap_alloc_old w _ h, ⟨k, hk1.alloc _, by simpa using hk2⟩, grown_alloc_r hq2 _, ⟨x0, x1, x2, x3, x4, (heap_alloc_old w _ hlt).trans hb, hx'⟩, (heap_alloc_old w _ (lt_of_block hq3)).trans hq3⟩
        · have h : a.tmps[48]?.getD undef = _ := hf.got 7 48 rfl (hd ⟨7, .data⟩ (by simp) rfl)
          have h' : Row3 s w4.heap.size (a.tmps[51]?.getD undef) w := hf.got 10 51 rfl (hd ⟨10, .data⟩ (by simp) rfl)
          obtain ⟨⟨k, hk1, hk2⟩, hq2, ⟨x0, x1, x2, x3, x4, hb, hx'⟩, hq3⟩ := hI
          refine wp_call _ _ _ _ rfl Try.func7 (by kernel_rfl) (by kernel_rfl) _ (by simp [eval_tmp, h]) (pick_row3 h' hk1 (by have hk3 : k ≤ K + 10 := (by revert hk2; (repeat' split) <;> omega); omega)) ?_
          rintro e w' ⟨x, rfl, hx0, hs2, hg2⟩
          exact ⟨_, rfl, _, rfl, ⟨x, rfl, hx0⟩, RR_of hg2, ⟨_, hs2, by simp [hnD] at hk2 ⊢; omega⟩, hq2.trans hg2, ⟨x0, x1, x2, x3, x4, blk_gen hb hg2 hlt4, hx'⟩, blk_gen hq3 hg2 hslt⟩
        · have h := hf.var 3 (by kernel_rfl)
          exact wp_value (v := .pointer (some ⟨w4.heap.size, 0, none⟩)) (by simp [execOp, h, go_sem]) ⟨_, rfl, rfl, fun _ _ _ _ => rfl, by simpa [RI] using hI⟩
        · have h : a.tmps[53]?.getD undef = _ := hf.got 12 53 rfl (hd ⟨12, .data⟩ (by simp) rfl)
          obtain ⟨x, h', hx⟩ : ∃ x, a.tmps[42]?.getD undef = .int .i64 x ∧ Bd x := hf.got 1 42 rfl (hd ⟨1, .data⟩ (by simp) rfl)
          obtain ⟨⟨k, hk1, hk2⟩, hq2, ⟨x0, x1, x2, x3, x4, hb, hx'⟩, hq3⟩ := hI
          have hc := cells5 hb
          have hfz := free5 hb
          have hs5 := heap_setCell_same w w4.heap.size 0 _ _ (.int .i64 x) hb
          exact wp_skip (w' := w.setCell ⟨w4.heap.size, 0, none⟩ (.int .i64 x)) (by simp [execOp, h, h', hc, hfz, go_sem]) ⟨undef, rfl, trivial, RR_store (p := ⟨_, _, none⟩) rfl _, ⟨k, hk1.setCell hlt4 _, by simpa using hk2⟩, grown_setCell hq2 hsz4 _, ⟨x, x1, x2, x3, x4, hs5, hx, hx'.2.1, hx'.2.2.1, hx'.2.2.2.1, hx'.2.2.2.2⟩, blk_other hq3 (by simp; omega) _⟩
        · have h := hf.var 3 (by kernel_rfl)
          exact wp_value (v := .pointer (some ⟨w4.heap.size, 1, none⟩)) (by simp [execOp, h, go_sem]) ⟨_, rfl, rfl, fun _ _ _ _ => rfl, by simpa [RI] using hI⟩
        · have h : a.tmps[54]?.getD undef = _ := hf.got 14 54 rfl (hd ⟨14, .data⟩ (by simp) rfl)
          obtain ⟨x, h', hx⟩ : ∃ x, a.tmps[47]?.getD undef = .int .i64 x ∧ Bd x := hf.got 6 47 rfl (hd ⟨6, .data⟩ (by simp) rfl)
          obtain ⟨⟨k, hk1, hk2⟩, hq2, ⟨x0, x1, x2, x3, x4, hb, hx'⟩, hq3⟩ := hI
          have hc := cells5 hb
          have hfz := free5 hb
          have hs5 := heap_setCell_same w w4.heap.size 1 _ _ (.int .i64 x) hb
          exact wp_skip (w' := w.setCell ⟨w4.heap.size, 1, none⟩ (.int .i64 x)) (by simp [execOp, h, h', hc, hfz, go_sem]) ⟨undef, rfl, trivial, RR_store (p := ⟨_, _, none⟩) rfl _, ⟨k, hk1.setCell hlt4 _, by simpa using hk2⟩, grown_setCell hq2 hsz4 _, ⟨x0, x, x2, x3, x4, hs5, hx'.1, hx, hx'.2.2.1, hx'.2.2.2.1, hx'.2.2.2.2⟩, blk_other hq3 (by simp; omega) _⟩
        · have h := hf.var 3 (by kernel_rfl)
          exact wp_value (v := .pointer (some ⟨w4.heap.size, 2, none⟩)) (by simp [execOp, h, go_sem]) ⟨_, rfl, rfl, fun _ _ _ _ => rfl, by simpa [RI] using hI⟩
        · have h : a.tmps[55]?.getD undef = _ := hf.got 16 55 rfl (hd ⟨16, .data⟩ (by simp) rfl)
          obtain ⟨x, h', hx⟩ : ∃ x, a.tmps[52]?.getD undef = .int .i64 x ∧ Bd x := hf.got 11 52 rfl (hd ⟨11, .data⟩ (by simp) rfl)
          obtain ⟨⟨k, hk1, hk2⟩, hq2, ⟨x0, x1, x2, x3, x4, hb, hx'⟩, hq3⟩ := hI
          have hc := cells5 hb
          have hfz := free5 hb
          have hs5 := heap_setCell_same w w4.heap.size 2 _ _ (.int .i64 x) hb
          exact wp_skip (w' := w.setCell ⟨w4.heap.size, 2, none⟩ (.int .i64 x)) (by simp [execOp, h, h', hc, hfz, go_sem]) ⟨undef, rfl, trivial, RR_store (p := ⟨_, _, none⟩) rfl _, ⟨k, hk1.setCell hlt4 _, by simpa using hk2⟩, grown_setCell hq2 hsz4 _, ⟨x0, x1, x, x3, x4, hs5, hx'.1, hx'.2.1, hx, hx'.2.2.2.1, hx'.2.2.2.2⟩, blk_other hq3 (by simp; omega) _⟩
      · intro a w8 hf hI
        obtain ⟨⟨k, hk1, hk2⟩, hq2, ⟨x0, x1, x2, x3, x4, hb, hx⟩, hq3⟩ := hI
        have hk3 : k ≤ K + 10 := by (revert hk2; (repeat' split) <;> omega)
        clear hk2
        obtain ⟨f, rfl, hfo, hfn⟩ := hf.frame 57 rfl rfl
        have e0 : f 0 = _ := hfo 0 (by kernel_rfl)
        have e2 : f 2 = _ := hfo 2 (by kernel_rfl)
        have e3 : f 3 = _ := hfo 3 (by kernel_rfl)
        simp at e0 e2 e3
        rw [show (List.range 57).map f = [f 0, f 1, f 2, f 3, f 4, f 5, f 6, f 7, f 8, f 9, f 10, f 11, f 12, f 13, f 14, f 15, f 16, f 17, f 18, f 19, f 20, f 21, f 22, f 23, f 24, f 25, f 26, f 27, f 28, f 29, f 30, f 31, f 32, f 33, f 34, f 35, f 36, f 37, f 38, f 39, f 40, f 41, f 42, f 43, f 44, f 45, f 46, f 47, f 48, f 49, f 50, f 51, f 52, f 53, f 54, f 55, f 56] from rfl]
        rw [e0, e2, e3]
        clear hfo hf e0 e2 e3
        clear hfn hb2 hb4 hc2 hf2 hc4 hf4 hgW hs
        have hc2 := cells5 hq3
        have hf2 := free5 hq3
        have hc4 := cells5 hb
        clear hq3 hb
        go_wp2_with fail
        refine bodyPost_ret (v := .agg #[.int .i64 x0, .int .i64 x1, .int .i64 x2, .int .i64 x3, .int .i64 x4]) (by simp [results, Try.results6, go_sem, hc2]) rfl ?_
        unfold Bd at hx
        refine ⟨_, _, _, _, _, rfl, by omega, ?_, ?_⟩
        · exact ((((((hk1.setCell hslt _).setCell hslt _).setCell hslt _).setCell hslt _).setCell hslt _)).mono (by omega)
        · exact grown_setCell (grown_setCell (grown_setCell (grown_setCell (grown_setCell hq2 (Nat.le_refl _) _) (Nat.le_refl _) _) (Nat.le_refl _) _) (Nat.le_refl _) _) (Nat.le_refl _) _
    · clear hr0 hr1 hr2
      go_wp2_with fail
      clear hc2 hf2 hc4 hf4
      have hsz6 := hgW.size
      have hlt6 : s < w6.heap.size := Nat.lt_of_lt_of_le hslt hsz6
      have hlt46 := lt_of_block hb4
      have hb6 := heap_alloc_new w6 (.cells #[.int .i64 2, .int .i64 2, .int .i64 (-1), .int .i64 1, .int .i64 1, .int .i64 0, .int .i64 10001, .int .i64 1, .int .i64 1, .int .i64 1001, .int .i64 4611686018427387904, .int .i64 1] 28)
      replace hs := hs.alloc (.cells #[.int .i64 2, .int .i64 2, .int .i64 (-1), .int .i64 1, .int .i64 1, .int .i64 0, .int .i64 10001, .int .i64 1, .int .i64 1, .int .i64 1001, .int .i64 4611686018427387904, .int .i64 1] 28)
      replace hgW := hgW.trans (World.grownBy_alloc w6 (.cells #[.int .i64 2, .int .i64 2, .int .i64 (-1), .int .i64 1, .int .i64 1, .int .i64 0, .int .i64 10001, .int .i64 1, .int .i64 1, .int .i64 1001, .int .i64 4611686018427387904, .int .i64 1] 28) (some s))
      replace hb2 := (heap_alloc_old w6 (.cells #[.int .i64 2, .int .i64 2, .int .i64 (-1), .int .i64 1, .int .i64 1, .int .i64 0, .int .i64 10001, .int .i64 1, .int .i64 1, .int .i64 1001, .int .i64 4611686018427387904, .int .i64 1] 28) (lt_of_block hb2)).trans hb2
      replace hb4 := (heap_alloc_old w6 (.cells #[.int .i64 2, .int .i64 2, .int .i64 (-1), .int .i64 1, .int .i64 1, .int .i64 0, .int .i64 10001, .int .i64 1, .int .i64 1, .int .i64 1001, .int .i64 4611686018427387904, .int .i64 1] 28) (lt_of_block hb4)).trans hb4
      refine (next_any s _ _ _ (by omega) (by omega) hs).mono ?_
      clear hs
      rintro e w7 ⟨r, rfl, hr0, hr1, hs, hg⟩
      replace hgW := hgW.trans hg
      replace hb2 := (hg.block _ (lt_of_block hb2) (by simp; omega)).trans hb2
      replace hb4 := (hg.block _ (lt_of_block hb4) (by simp; omega)).trans hb4
      replace hb6 := (hg.block _ (lt_of_block hb6) (by simp; omega)).trans hb6
      clear hg
      obtain ⟨R, rfl⟩ := Int.eq_ofNat_of_zero_le hr0
      have hR : R < 6 := by have := hr1 (by omega); omega
      clear hr0 hr1
      obtain ⟨nm', dn', hc0, hc1, hnd'⟩ : ∃ nm dn : Int, w7.cell? ⟨w6.heap.size, R * 2, none⟩ = some (.int .i64 nm) ∧ w7.cell? ⟨w6.heap.size, R * 2 + 1, none⟩ = some (.int .i64 dn) ∧ (-1 ≤ nm ∧ nm ≤ 4611686018427387904 ∧ 0 ≤ dn ∧ dn ≤ 10000) := by
        simp only [World.cell?, hb6]
        obtain rfl | rfl | rfl | rfl | rfl | rfl : R = 0 ∨ R = 1 ∨ R = 2 ∨ R = 3 ∨ R = 4 ∨ R = 5 := by omega
        all_goals exact ⟨_, _, rfl, rfl, by omega⟩
      clear hb6
      have hc2 := cells5 hb2
      have hf2 := free5 hb2
      have hc4 := cells5 hb4
      have hf4 := free5 hb4
      clear hb2 hb4
      go_wp2_with fail
      refine bodyPost_ret (v := .agg #[.int .i64 st, .int .i64 wd, .int .i64 ls, .int .i64 nm', .int .i64 dn']) (by simp [results, Try.results6, go_sem, hc2]) rfl ?_
      refine ⟨_, _, _, _, _, rfl, by omega, ?_, ?_⟩
      · exact ((((((((hs.setCell hlt4 _).setCell hlt4 _).setCell hslt _).setCell hslt _).setCell hslt _).setCell hslt _).setCell hslt _)).mono (by omega)
      · exact grown_setCell (grown_setCell (grown_setCell (grown_setCell (grown_setCell (grown_setCell (grown_setCell hgW hsz4 _) hsz4 _) (Nat.le_refl _) _) (Nat.le_refl _) _) (Nat.le_refl _) _) (Nat.le_refl _) _) (Nat.le_refl _) _
end Go.Proofs.Ytfocpjjcllpfbaa
