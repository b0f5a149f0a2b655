/- Walks: the events of a trace (package trace). -/
import Derived.Test.YtfocpjjcllpfbaaTrC
import Derived.Test.YtfocpjjcllpfbaaDetP
import Derived.Test.YtfocpjjcllpfbaaRegion
namespace Go.Proofs.Ytfocpjjcllpfbaa
open Go.RowKit

theorem prs_get : ∀ (l : List (Int × Int)) (k : Nat), k < l.length → (prs l)[k * 2]? = some (.int .i64 (l.getD k (0, 0)).1) ∧ (prs l)[k * 2 + 1]? = some (.int .i64 (l.getD k (0, 0)).2)
  | [], k, h => by simp at h
  | q :: r, 0, _ => by simp [prs]
  | q :: r, k + 1, h => by
    have := prs_get r k (by simpa using h)
    have e : prs (q :: r) = .int .i64 q.1 :: .int .i64 q.2 :: prs r := rfl
    rw [e, show (k + 1) * 2 = k * 2 + 1 + 1 by omega]
    simpa using this
theorem prs_len (l : List (Int × Int)) : (prs l).length = l.length * 2 := by induction l with
  | nil => rfl
  | cons q r ih => have e : prs (q :: r) = .int .i64 q.1 :: .int .i64 q.2 :: prs r := rfl; rw [e]; simp [ih]; omega
theorem At.pair {w : World} {a : Option Addr} {l : List (Int × Int)} (h : At w a (prs l)) {k : Nat} (hk : k < l.length) :
    ∃ b off, a = some ⟨b, off, none⟩ ∧ w.cell? ⟨b, off + k * 2, none⟩ = some (.int .i64 (l.getD k (0, 0)).1) ∧ w.cell? ⟨b, off + k * 2 + 1, none⟩ = some (.int .i64 (l.getD k (0, 0)).2) := by
  have hl := prs_len l
  rcases h with h | ⟨b, off, ha, hc⟩
  · rw [h] at hl; simp at hl; omega
  · have h1 := hc (k * 2) (by omega)
    have h2 := hc (k * 2 + 1) (by omega)
    rw [(prs_get l k hk).1] at h1
    rw [(prs_get l k hk).2] at h2
    exact ⟨b, off, ha, h1, by rw [Nat.add_assoc]; exact h2⟩

theorem elem_event : Elem Try.prog 39 54 2 16 := by
  obtain ⟨i, hi, hz, h1, h2⟩ := info_parts (show (Try.prog.info? 54).map (fun i => (i.zero, i.size, i.bytes)) = some (some (.agg #[.int .i64 0, .int .i64 0]), 2, 16) by kernel_rfl)
  exact ⟨Try.underlying39, i, _, hi, hz, h1, h2, rfl, by omega⟩

/-- an event at an index, of a fraction -/
def evF (x : Int × Int) (i W : Nat) (st : Int) : Int × Int := (((i : Int) + W) * st, (2 * x.1 + x.2) / (2 * x.2))

/-- where the variables of Detected lie -/
structure DLay (W : World) (Br Ba Bb Bo base : Nat) (aF : Option Addr) : Prop where
  r : W.heap.size ≤ Br ∧ Br < base
  a : W.heap.size ≤ Ba ∧ Ba < base
  b : W.heap.size ≤ Bb ∧ Bb < base
  o : W.heap.size ≤ Bo ∧ Bo < base
  ra : Br ≠ Ba ∧ Br ≠ Bb ∧ Br ≠ Bo ∧ Ba ≠ Bb ∧ Ba ≠ Bo ∧ Bb ≠ Bo
  f : ∀ p, aF = some p → p.block < base ∧ p.block ≠ Bb ∧ p.block ≠ Bo

/-- what they hold -/
structure DSt (W : World) (Br Ba Bb Bo base : Nat) (aF : Option Addr) (cF : Nat) (F : List (Int × Int)) (st wd ls nm dn : Int) (evs : List (Int × Int)) (best : Int) (w : World) : Prop where
  r : w.heap[Br]? = some (.cells #[.int .i64 st, .int .i64 wd, .int .i64 ls, .int .i64 nm, .int .i64 dn] 30 (0, 0))
  a : w.heap[Ba]? = some (.cells #[.slice aF F.length cF] 35 (0, 0))
  b : w.heap[Bb]? = some (.cells #[.int .i64 best] 3 (0, 0))
  o : ∃ ao co, w.heap[Bo]? = some (.cells #[.slice ao evs.length co] 39 (0, 0)) ∧ w.ownsRow base 54 2 (.slice ao evs.length co) evs.length (prs evs)
  at_ : At w aF (prs F)
  g : W.grownBy w none
  sz : base ≤ w.heap.size

theorem DSt.quiet {W : World} {Br Ba Bb Bo base : Nat} {aF : Option Addr} {cF : Nat} {F : List (Int × Int)} {st wd ls nm dn : Int} {evs : List (Int × Int)} {best : Int} {w w' : World}
    (h : DSt W Br Ba Bb Bo base aF cF F st wd ls nm dn evs best w) (hg : w.grownBy w' none) : DSt W Br Ba Bb Bo base aF cF F st wd ls nm dn evs best w' := by
  obtain ⟨ao, co, h1, h2⟩ := h.o
  exact ⟨blk_apart h.r hg (by simp), blk_apart h.a hg (by simp), blk_apart h.b hg (by simp), ⟨ao, co, blk_apart h1 hg (by simp), own_kept h2 hg (by simp)⟩, h.at_.grown hg (by simp), h.g.trans hg, Nat.le_trans h.sz hg.size⟩

theorem DSt.best {W : World} {Br Ba Bb Bo base : Nat} {aF : Option Addr} {cF : Nat} {F : List (Int × Int)} {st wd ls nm dn : Int} {evs : List (Int × Int)} {best : Int} {w : World}
    (h : DSt W Br Ba Bb Bo base aF cF F st wd ls nm dn evs best w) (hl : DLay W Br Ba Bb Bo base aF) (x : Int) : DSt W Br Ba Bb Bo base aF cF F st wd ls nm dn evs x (w.setCell ⟨Bb, 0, none⟩ (.int .i64 x)) := by
  obtain ⟨ao, co, h1, h2⟩ := h.o
  obtain ⟨n1, n2, n3, n4, n5, n6⟩ := hl.ra
  have hg : w.grownBy (w.setCell ⟨Bb, 0, none⟩ (.int .i64 x)) (some Bb) := ⟨rfl, rfl, rfl, by simp, fun j _ hj => heap_setCell_other w ⟨Bb, 0, none⟩ j _ (fun e => hj (by simp [e]))⟩
  refine ⟨(hg.block _ (lt_of_block h.r) (by simpa using n2)).trans h.r, (hg.block _ (lt_of_block h.a) (by simpa using n4)).trans h.a, one_setCell h.b,
    ⟨ao, co, (hg.block _ (lt_of_block h1) (by simpa using Ne.symm n6)).trans h1, own_kept h2 hg (fun b hb => by cases hb; exact .inl hl.b.2)⟩, h.at_.grown hg (fun p hp => by simpa using (hl.f p hp).2.1), grown_setCell h.g hl.b.1 _, by simpa using h.sz⟩

/-- what the operations of flush's statement leave -/
def FT (Br Bx base : Nat) (ao : Option Addr) (co : Nat) (evs : List (Int × Int)) (b : Nat) (st wd : Int) (x : Int × Int) (B30 : Nat) (q : Int × Int) (Bo : Nat) (j : Nat) (v : Value) (w : World) : Prop :=
  match j with
  | 0 => v = .slice ao evs.length co
  | 1 => v = .int .i64 b
  | 2 => v = .pointer (some ⟨Br, 1, none⟩)
  | 3 => v = .int .i64 wd
  | 4 => v = .int .i64 ((b : Int) + wd)
  | 5 => v = .pointer (some ⟨Br, 0, none⟩)
  | 6 => v = .int .i64 st
  | 7 => v = .int .i64 (((b : Int) + wd) * st)
  | 8 => v = .pointer (some ⟨Bx, 0, none⟩)
  | 9 => v = .int .i64 x.1
  | 10 => v = .int .i64 (2 * x.1)
  | 11 | 14 => v = .pointer (some ⟨Bx, 1, none⟩)
  | 12 | 15 => v = .int .i64 x.2
  | 13 => v = .int .i64 (2 * x.1 + x.2)
  | 16 => v = .int .i64 (2 * x.2)
  | 17 => v = .int .i64 ((2 * x.1 + x.2) / (2 * x.2))
  | 18 => v = .agg #[.int .i64 q.1, .int .i64 q.2]
  | 19 => v = .slice (some ⟨B30, 0, none⟩) 1 1
  | 20 => ∃ ao' co', v = .slice ao' (evs.length + 1) co' ∧ w.ownsRow base 54 2 (.slice ao' (evs.length + 1) co') (evs.length + 1) (prs (evs ++ [q]))
  | _ => True

theorem FT_indep {Br Bx base : Nat} {ao : Option Addr} {co : Nat} {evs : List (Int × Int)} {b : Nat} {st wd : Int} {x : Int × Int} {B30 : Nat} {q : Int × Int} {Bo j : Nat} {v : Value} {w w' : World} (hj : j ≠ 20)
    (h : FT Br Bx base ao co evs b st wd x B30 q Bo j v w) : FT Br Bx base ao co evs b st wd x B30 q Bo j v w' := by
  unfold FT at *
  split at h <;> first | exact h | (exfalso; exact hj rfl) | trivial

/-- the world while it runs -/
def FI (w1 : World) (q : Int × Int) (ao : Option Addr) (Bo base n : Nat) (evs : List (Int × Int)) (D : Nat → Bool) (w : World) : Prop :=
  (D 19 = false → ∃ m, w = w1.drewN m) ∧ (D 19 = true → D 20 = false → ∃ m, w = (w1.alloc (.cells #[.int .i64 q.1, .int .i64 q.2] 54)).drewN m) ∧ (D 20 = true → D 21 = false → w1.grownBy w (blk ao)) ∧
  (D 21 = true → ∃ w20 ao' co', w = w20.setCell ⟨Bo, 0, none⟩ (.slice ao' (n + 1) co') ∧ w20.ownsRow base 54 2 (.slice ao' (n + 1) co') (n + 1) (prs (evs ++ [q])) ∧ w1.grownBy w20 (blk ao))

theorem FI_heap {w1 : World} {q : Int × Int} {ao : Option Addr} {Bo base n : Nat} {evs : List (Int × Int)} {D : Nat → Bool} {w : World} (h : FI w1 q ao Bo base n evs D w) (h21 : D 21 = false) {k : Nat} {o : Obj} (hk : w1.heap[k]? = some o) (hne : blk ao ≠ some k) : w.heap[k]? = some o := by
  by_cases h19 : D 19 = true
  · by_cases h20 : D 20 = true
    · exact ((h.2.2.1 h20 h21).block k (lt_of_block hk) (fun e => hne e.symm)).trans hk
    · obtain ⟨m, rfl⟩ := h.2.1 h19 (by simpa using h20)
      exact (heap_alloc_old w1 _ (lt_of_block hk)).trans hk
  · obtain ⟨m, rfl⟩ := h.1 (by simpa using h19)
    exact hk

theorem FI_heap' {w1 w : World} {ao : Option Addr} (hg : w1.grownBy w (blk ao)) {k : Nat} {o : Obj} (hk : w1.heap[k]? = some o) (hne : blk ao ≠ some k) : w.heap[k]? = some o :=
  (hg.block k (lt_of_block hk) (fun e => hne e.symm)).trans hk

theorem FI_step {w1 : World} {q : Int × Int} {ao : Option Addr} {Bo base n : Nat} {evs : List (Int × Int)} {D : Nat → Bool} {w : World} (j : Nat) (h1 : j ≠ 19) (h2 : j ≠ 20) (h3 : j ≠ 21) (h : FI w1 q ao Bo base n evs D w) : FI w1 q ao Bo base n evs (fun i => i == j || D i) w := by
  have e19 : (fun i => i == j || D i) 19 = D 19 := by simp; omega
  have e20 : (fun i => i == j || D i) 20 = D 20 := by simp; omega
  have e21 : (fun i => i == j || D i) 21 = D 21 := by simp; omega
  unfold FI at *
  rw [e19, e20, e21]; exact h

set_option maxRecDepth 100000 in
set_option maxHeartbeats 2000000 in
theorem flush_pos {W : World} {Br Ba Bb Bo base : Nat} {aF : Option Addr} {cF : Nat} {F : List (Int × Int)} {st wd ls nm dn : Int} {evs : List (Int × Int)} (b : Nat) (w : World) (hl : DLay W Br Ba Bb Bo base aF)
    (h : DSt W Br Ba Bb Bo base aF cF F st wd ls nm dn evs b w) (hb : b < F.length) (hF : F.length ≤ 5001) (hx : -2100000000 ≤ (F.getD b (0, 0)).1 ∧ (F.getD b (0, 0)).1 ≤ 2100000000 ∧ 1 ≤ (F.getD b (0, 0)).2 ∧ (F.getD b (0, 0)).2 ≤ 100000)
    (hst : 1 ≤ st ∧ st ≤ 100) (hwd : 1 ≤ wd ∧ wd ≤ 100) (hev : evs.length ≤ 5001) :
    Calls Try.prog 40 #[.pointer (some ⟨Bb, 0, none⟩), .pointer (some ⟨Ba, 0, none⟩), .pointer (some ⟨Bo, 0, none⟩), .pointer (some ⟨Br, 0, none⟩)] w fun e w' => e = .returned (.tuple #[]) ∧
      DSt W Br Ba Bb Bo base aF cF F st wd ls nm dn (evs ++ [evF (F.getD b (0, 0)) b wd.toNat st]) (-1) w' := by
  obtain ⟨ao, co, ho0, hown⟩ := h.o
  obtain ⟨bF, oF, rfl, hp1, hp2⟩ := h.at_.pair hb
  have HD := Lib.hid h
  have HEV : Hid (evF (F.getD b (0, 0)) b wd.toNat st = (((b : Int) + wd) * st, (2 * (F.getD b (0, 0)).1 + (F.getD b (0, 0)).2) / (2 * (F.getD b (0, 0)).2))) := by show _ = _; unfold evF; rw [Int.toNat_of_nonneg (by omega)]
  generalize F.getD b (0, 0) = x at *
  obtain ⟨q, HQ⟩ : ∃ q, Hid (evF x b wd.toNat st = q) := ⟨_, rfl⟩
  rw [HQ.out] at HEV
  rw [HQ.out]
  have hq1 : Hid (((b : Int) + wd) * st = q.1) := by show _ = _; rw [HEV.out]
  have hq2 : Hid ((2 * x.1 + x.2) / (2 * x.2) = q.2) := by show _ = _; rw [HEV.out]
  have hm := mul_bd ((b : Int) + wd) st 5200 100 (by omega) (by omega) (by omega)
  have hcb := cells1 h.b
  have hca := cells1 h.a
  have hfb := free1 h.b
  have hsz := h.sz
  have hbB := hl.b.2
  have hn : ∀ k, blk ao = some k → base ≤ k := fun k hk => (own_blk hown k hk).1
  clear HEV
  obtain ⟨w1, hw1⟩ : ∃ w1, w1 = w.alloc (.cells #[.int .i64 x.1, .int .i64 x.2] 28) := ⟨_, rfl⟩
  have ho1 : w1.heap[Bo]? = some (.cells #[.slice ao evs.length co] 39 (0, 0)) := by rw [hw1]; exact (heap_alloc_old w _ (lt_of_block ho0)).trans ho0
  have hb1 : w1.heap[Bb]? = some (.cells #[.int .i64 b] 3 (0, 0)) := by rw [hw1]; exact (heap_alloc_old w _ (lt_of_block h.b)).trans h.b
  have hr1 : w1.heap[Br]? = some (.cells #[.int .i64 st, .int .i64 wd, .int .i64 ls, .int .i64 nm, .int .i64 dn] 30 (0, 0)) := by rw [hw1]; exact (heap_alloc_old w _ (lt_of_block h.r)).trans h.r
  have hx1 : w1.heap[w.heap.size]? = some (.cells #[.int .i64 x.1, .int .i64 x.2] 28 (0, 0)) := by rw [hw1]; exact heap_alloc_new w _
  have hbn : ∀ k, k < base → blk ao ≠ some k := fun k hk e => by have := hn k e; omega
  have hbn' : blk ao ≠ some w.heap.size := fun e => by have := (own_blk hown _ e).2; omega
  have hown1 : w1.ownsRow base 54 2 (.slice ao evs.length co) evs.length (prs evs) := by rw [hw1]; exact hown.alloc _
  have HW := Lib.hid hw1
  clear hw1 h ho0 hown
  have HH : Hid ((∀ k, k < base → blk ao ≠ some k) ∧ (blk ao ≠ some w.heap.size) ∧ (∀ k, blk ao = some k → base ≤ k) ∧ w1.heap[Bo]? = some (.cells #[.slice ao evs.length co] 39 (0, 0)) ∧ w1.heap[Bb]? = some (.cells #[.int .i64 b] 3 (0, 0)) ∧ w1.heap[Br]? = some (.cells #[.int .i64 st, .int .i64 wd, .int .i64 ls, .int .i64 nm, .int .i64 dn] 30 (0, 0)) ∧ w1.heap[w.heap.size]? = some (.cells #[.int .i64 x.1, .int .i64 x.2] 28 (0, 0))) := ⟨hbn, hbn', hn, ho1, hb1, hr1, hx1⟩
  clear hbn hbn' hn ho1 hb1 hr1 hx1
  go_enter Try.func40, Try.ntmps40
  go_wp2_with fail
  rw [← HW.out]
  obtain ⟨hbn, hbn', hn, ho1, hb1, hr1, hx1⟩ := HH.out
  refine wp_region_typed2 (by kernel_rfl) (FT Br w.heap.size base ao co evs b st wd x w1.heap.size q Bo) (FI w1 q ao Bo base evs.length evs) (by kernel_rfl) (by kernel_rfl) ?_ ?_ ?_
  · exact ⟨fun _ => ⟨1, rfl⟩, fun h => by simp at h, fun h => by simp at h, fun h => by simp at h⟩
  · intro j o D a w' hoj hnD hd hcl hf hI
    have hj : j < 22 := (Array.getElem?_eq_some_iff.1 hoj).1
    obtain rfl | rfl | rfl | rfl | rfl | rfl | rfl | rfl | rfl | rfl | rfl | rfl | rfl | rfl | rfl | rfl | rfl | rfl | rfl | rfl | rfl | rfl : j = 0 ∨ j = 1 ∨ j = 2 ∨ j = 3 ∨ j = 4 ∨ j = 5 ∨ j = 6 ∨ j = 7 ∨ j = 8 ∨ j = 9 ∨ j = 10 ∨ j = 11 ∨ j = 12 ∨ j = 13 ∨ j = 14 ∨ j = 15 ∨ j = 16 ∨ j = 17 ∨ j = 18 ∨ j = 19 ∨ j = 20 ∨ j = 21 := by omega
    all_goals (obtain rfl := Option.some.inj hoj; rw [if_pos (wanted_plain rfl _)])
    · have h21 : D 21 = false := by
        cases h : D 21 with
        | false => rfl
        | true => have := hcl 21 _ rfl h ⟨0, .phase⟩ (by simp) rfl; rw [this] at hnD; cases hnD
      have h2 := hf.var 2 (by kernel_rfl)
      simp at h2
      have hc := cells1 (FI_heap hI h21 ho1 (hbn _ hl.o.2))
      exact wp_value (v := .slice ao evs.length co) (by simp [execOp, go_sem, h2, hc]) ⟨_, rfl, rfl, fun _ _ _ h => h, FI_step 0 (by omega) (by omega) (by omega) hI⟩
    · have h21 : D 21 = false := by
        cases h : D 21 with
        | false => rfl
        | true => have := hcl 21 _ rfl h ⟨1, .phase⟩ (by simp) rfl; rw [this] at hnD; cases hnD
      have h0 := hf.var 0 (by kernel_rfl)
      simp at h0
      have hc := cells1 (FI_heap hI h21 hb1 (hbn _ hl.b.2))
      exact wp_value (v := .int .i64 b) (by simp [execOp, go_sem, h0, hc]) ⟨_, rfl, rfl, fun _ _ _ h => h, FI_step 1 (by omega) (by omega) (by omega) hI⟩
    · have h3 := hf.var 3 (by kernel_rfl)
      simp at h3
      exact wp_value (v := .pointer (some ⟨Br, 1, none⟩)) (by simp [execOp, go_sem, h3]) ⟨_, rfl, rfl, fun _ _ _ h => h, FI_step 2 (by omega) (by omega) (by omega) hI⟩
    · have h21 : D 21 = false := by
        cases h : D 21 with
        | false => rfl
        | true => have := hcl 21 _ rfl h ⟨3, .phase⟩ (by simp) rfl; rw [this] at hnD; cases hnD
      have h13 : a.tmps[13]?.getD undef = _ := hf.got 2 13 rfl (hd ⟨2, .data⟩ (by simp) rfl)
      have hc := (cells5 (FI_heap hI h21 hr1 (hbn _ hl.r.2))).2.1
      exact wp_value (v := .int .i64 wd) (by simp [execOp, go_sem, h13, hc]) ⟨_, rfl, rfl, fun _ _ _ h => h, FI_step 3 (by omega) (by omega) (by omega) hI⟩
    · have h12 : a.tmps[12]?.getD undef = _ := hf.got 1 12 rfl (hd ⟨1, .data⟩ (by simp) rfl)
      have h14 : a.tmps[14]?.getD undef = _ := hf.got 3 14 rfl (hd ⟨3, .data⟩ (by simp) rfl)
      exact wp_value (v := .int .i64 ((b : Int) + wd)) (by simp [execOp, go_sem, h12, h14]; exact IntWalk.i64_in _ ⟨by omega, by omega⟩) ⟨_, rfl, rfl, fun _ _ _ h => h, FI_step 4 (by omega) (by omega) (by omega) hI⟩
    · have h3 := hf.var 3 (by kernel_rfl)
      simp at h3
      exact wp_value (v := .pointer (some ⟨Br, 0, none⟩)) (by simp [execOp, go_sem, h3]) ⟨_, rfl, rfl, fun _ _ _ h => h, FI_step 5 (by omega) (by omega) (by omega) hI⟩
    · have h21 : D 21 = false := by
        cases h : D 21 with
        | false => rfl
        | true => have := hcl 21 _ rfl h ⟨6, .phase⟩ (by simp) rfl; rw [this] at hnD; cases hnD
      have h16 : a.tmps[16]?.getD undef = _ := hf.got 5 16 rfl (hd ⟨5, .data⟩ (by simp) rfl)
      have hc := (cells5 (FI_heap hI h21 hr1 (hbn _ hl.r.2))).1
      exact wp_value (v := .int .i64 st) (by simp [execOp, go_sem, h16, hc]) ⟨_, rfl, rfl, fun _ _ _ h => h, FI_step 6 (by omega) (by omega) (by omega) hI⟩
    · have h15 : a.tmps[15]?.getD undef = _ := hf.got 4 15 rfl (hd ⟨4, .data⟩ (by simp) rfl)
      have h17 : a.tmps[17]?.getD undef = _ := hf.got 6 17 rfl (hd ⟨6, .data⟩ (by simp) rfl)
      exact wp_value (v := .int .i64 (((b : Int) + wd) * st)) (by simp [execOp, go_sem, h15, h17]; exact IntWalk.i64_in _ ⟨by omega, by omega⟩) ⟨_, rfl, rfl, fun _ _ _ h => h, FI_step 7 (by omega) (by omega) (by omega) hI⟩
    · have h4 := hf.var 4 (by kernel_rfl)
      simp at h4
      exact wp_value (v := .pointer (some ⟨w.heap.size, 0, none⟩)) (by simp [execOp, go_sem, h4]) ⟨_, rfl, rfl, fun _ _ _ h => h, FI_step 8 (by omega) (by omega) (by omega) hI⟩
    · have h21 : D 21 = false := by
        cases h : D 21 with
        | false => rfl
        | true => have := hcl 21 _ rfl h ⟨9, .phase⟩ (by simp) rfl; rw [this] at hnD; cases hnD
      have h19 : a.tmps[19]?.getD undef = _ := hf.got 8 19 rfl (hd ⟨8, .data⟩ (by simp) rfl)
      have hc := (cells2 (FI_heap hI h21 hx1 hbn')).1
      exact wp_value (v := .int .i64 x.1) (by simp [execOp, go_sem, h19, hc]) ⟨_, rfl, rfl, fun _ _ _ h => h, FI_step 9 (by omega) (by omega) (by omega) hI⟩
    · have h20 : a.tmps[20]?.getD undef = _ := hf.got 9 20 rfl (hd ⟨9, .data⟩ (by simp) rfl)
      exact wp_value (v := .int .i64 (2 * x.1)) (by simp [execOp, go_sem, h20]; exact IntWalk.i64_in _ ⟨by omega, by omega⟩) ⟨_, rfl, rfl, fun _ _ _ h => h, FI_step 10 (by omega) (by omega) (by omega) hI⟩
    · have h4 := hf.var 4 (by kernel_rfl)
      simp at h4
      exact wp_value (v := .pointer (some ⟨w.heap.size, 1, none⟩)) (by simp [execOp, go_sem, h4]) ⟨_, rfl, rfl, fun _ _ _ h => h, FI_step 11 (by omega) (by omega) (by omega) hI⟩
    · have h21 : D 21 = false := by
        cases h : D 21 with
        | false => rfl
        | true => have := hcl 21 _ rfl h ⟨12, .phase⟩ (by simp) rfl; rw [this] at hnD; cases hnD
      have h22 : a.tmps[22]?.getD undef = _ := hf.got 11 22 rfl (hd ⟨11, .data⟩ (by simp) rfl)
      have hc := (cells2 (FI_heap hI h21 hx1 hbn')).2
      exact wp_value (v := .int .i64 x.2) (by simp [execOp, go_sem, h22, hc]) ⟨_, rfl, rfl, fun _ _ _ h => h, FI_step 12 (by omega) (by omega) (by omega) hI⟩
    · have h21 : a.tmps[21]?.getD undef = _ := hf.got 10 21 rfl (hd ⟨10, .data⟩ (by simp) rfl)
      have h23 : a.tmps[23]?.getD undef = _ := hf.got 12 23 rfl (hd ⟨12, .data⟩ (by simp) rfl)
      exact wp_value (v := .int .i64 (2 * x.1 + x.2)) (by simp [execOp, go_sem, h21, h23]; exact IntWalk.i64_in _ ⟨by omega, by omega⟩) ⟨_, rfl, rfl, fun _ _ _ h => h, FI_step 13 (by omega) (by omega) (by omega) hI⟩
    · have h4 := hf.var 4 (by kernel_rfl)
      simp at h4
      exact wp_value (v := .pointer (some ⟨w.heap.size, 1, none⟩)) (by simp [execOp, go_sem, h4]) ⟨_, rfl, rfl, fun _ _ _ h => h, FI_step 14 (by omega) (by omega) (by omega) hI⟩
    · have h21 : D 21 = false := by
        cases h : D 21 with
        | false => rfl
        | true => have := hcl 21 _ rfl h ⟨15, .phase⟩ (by simp) rfl; rw [this] at hnD; cases hnD
      have h25 : a.tmps[25]?.getD undef = _ := hf.got 14 25 rfl (hd ⟨14, .data⟩ (by simp) rfl)
      have hc := (cells2 (FI_heap hI h21 hx1 hbn')).2
      exact wp_value (v := .int .i64 x.2) (by simp [execOp, go_sem, h25, hc]) ⟨_, rfl, rfl, fun _ _ _ h => h, FI_step 15 (by omega) (by omega) (by omega) hI⟩
    · have h26 : a.tmps[26]?.getD undef = _ := hf.got 15 26 rfl (hd ⟨15, .data⟩ (by simp) rfl)
      exact wp_value (v := .int .i64 (2 * x.2)) (by simp [execOp, go_sem, h26]; exact IntWalk.i64_in _ ⟨by omega, by omega⟩) ⟨_, rfl, rfl, fun _ _ _ h => h, FI_step 16 (by omega) (by omega) (by omega) hI⟩
    · have h24 : a.tmps[24]?.getD undef = _ := hf.got 13 24 rfl (hd ⟨13, .data⟩ (by simp) rfl)
      have h27 : a.tmps[27]?.getD undef = _ := hf.got 16 27 rfl (hd ⟨16, .data⟩ (by simp) rfl)
      refine wp_call _ _ _ _ rfl Try.func41 (by kernel_rfl) (by kernel_rfl) _ (by simp [eval_tmp, h24, h27]) (down_any (2 * x.1 + x.2) (2 * x.2) w' (by omega) (by omega) (by omega) (by omega)) ?_
      rintro e w'' ⟨rfl, rfl⟩
      exact ⟨_, rfl, _, rfl, rfl, fun _ _ _ h => h, FI_step 17 (by omega) (by omega) (by omega) hI⟩
    · have h18 : a.tmps[18]?.getD undef = _ := hf.got 7 18 rfl (hd ⟨7, .data⟩ (by simp) rfl)
      have h28 : a.tmps[28]?.getD undef = _ := hf.got 17 28 rfl (hd ⟨17, .data⟩ (by simp) rfl)
      exact wp_value (v := .agg #[.int .i64 q.1, .int .i64 q.2]) (by simp [execOp, go_sem, h18, h28, hq1.out, hq2.out]) ⟨_, rfl, rfl, fun _ _ _ h => h, FI_step 18 (by omega) (by omega) (by omega) hI⟩
    · have h29 : a.tmps[29]?.getD undef = _ := hf.got 18 29 rfl (hd ⟨18, .data⟩ (by simp) rfl)
      obtain ⟨m, rfl⟩ := hI.1 hnD
      have h20 : D 20 = false := by
        cases h : D 20 with
        | false => rfl
        | true => have := hcl 20 _ rfl h ⟨19, .data⟩ (by simp) rfl; rw [this] at hnD; cases hnD
      have h21 : D 21 = false := by
        cases h : D 21 with
        | false => rfl
        | true => have := hcl 21 _ rfl h ⟨19, .phase⟩ (by simp) rfl; rw [this] at hnD; cases hnD
      exact wp_value (v := .slice (some ⟨w1.heap.size, 0, none⟩) 1 1) (w' := (w1.alloc (.cells #[.int .i64 q.1, .int .i64 q.2] 54)).drewN m) (by simp [execOp, go_sem, h29]; rfl) ⟨_, rfl, rfl, fun i u hi h => FT_indep (fun e => by rw [e, h20] at hi; cases hi) h, ⟨fun h => by simp at h, fun _ _ => ⟨m, rfl⟩, fun h => by simp [h20] at h, fun h => by simp [h21] at h⟩⟩
    · have h11 : a.tmps[11]?.getD undef = _ := hf.got 0 11 rfl (hd ⟨0, .data⟩ (by simp) rfl)
      have h30 : a.tmps[30]?.getD undef = _ := hf.got 19 30 rfl (hd ⟨19, .data⟩ (by simp) rfl)
      have h21 : D 21 = false := by
        cases h : D 21 with
        | false => rfl
        | true => have := hcl 21 _ rfl h ⟨20, .phase⟩ (by simp) rfl; rw [this] at hnD; cases hnD
      obtain ⟨m, rfl⟩ := hI.2.1 (hd ⟨19, .data⟩ (by simp) rfl) hnD
      have hbb := heap_alloc_new w1 (.cells #[.int .i64 q.1, .int .i64 q.2] 54)
      refine wp_push_at _ _ _ rfl base _ _ _ _ elem_event ao evs.length co _ (own_drewN (hown1.alloc _) m) w1.heap.size 1 1 (0, 0) [.int .i64 q.1, .int .i64 q.2] hbb (by simp [eval_tmp, h11]) (by simp [eval_tmp, h30]) rfl (by simp [Value.oneCell']) (by omega) (by unfold maxLen; omega) ?_ ?_
      · have := lt_of_block hx1; simp; omega
      · intro a' c' w' h1 h2 _
        refine ⟨_, rfl, ⟨a', c', rfl, by rw [prs_snoc]; exact h1⟩, fun i u hi h => FT_indep (fun e => by rw [e, hnD] at hi; cases hi) h, fun h => ?_, fun h1 h2 => ?_, fun _ _ => ?_, fun h => by simp [h21] at h⟩
        · have h19 : D 19 = true := hd ⟨19, .data⟩ (by simp) rfl
          simp [h19] at h
        · simp at h2
        · exact (World.grownBy_alloc w1 _ (blk ao)).trans (show (w1.alloc (.cells #[.int .i64 q.1, .int .i64 q.2] 54)).grownBy w' (blk ao) from ⟨h2.os, h2.tape, h2.output, h2.size, h2.block⟩)
    · have h2 := hf.var 2 (by kernel_rfl)
      simp at h2
      obtain ⟨ao', co', h31, hown'⟩ := hf.got 20 31 rfl (hd ⟨20, .data⟩ (by simp) rfl)
      have hho := FI_heap hI hnD ho1 (hbn _ hl.o.2)
      have hc := cells1 hho
      have hfz := free1 hho
      have hg := hI.2.2.1 (hd ⟨20, .data⟩ (by simp) rfl) hnD
      have hgs : w'.grownBy (w'.setCell ⟨Bo, 0, none⟩ (.slice ao' (evs.length + 1) co')) (some Bo) := ⟨rfl, rfl, rfl, by simp, fun j _ hj => heap_setCell_other w' ⟨Bo, 0, none⟩ j _ (fun e => hj (by simp [e]))⟩
      refine wp_skip (w' := w'.setCell ⟨Bo, 0, none⟩ (.slice ao' (evs.length + 1) co')) (by simp [execOp, go_sem, h2, h31, hc, hfz]) ⟨undef, rfl, trivial, fun i u hi h => ?_, fun h => ?_, fun _ h => ?_, fun _ h => by simp at h, fun _ => ⟨w', ao', co', rfl, hown', hg⟩⟩
      · by_cases hi20 : i = 20
        · subst hi20
          obtain ⟨a'', c'', hv, ho''⟩ := h
          exact ⟨a'', c'', hv, own_kept ho'' hgs (fun b hb => by cases hb; exact .inl hl.o.2)⟩
        · exact FT_indep hi20 h
      · have h19 : D 19 = true := hd ⟨19, .phase⟩ (by simp) rfl
        simp [h19] at h
      · have h20 : D 20 = true := hd ⟨20, .data⟩ (by simp) rfl
        simp [h20] at h
  · intro a w' hf hI
    obtain ⟨w20, ao', co', rfl, hown', hg⟩ := hI.2.2.2 (by simp)
    have hDS : DSt W Br Ba Bb Bo base (some ⟨bF, oF, none⟩) cF F st wd ls nm dn (evs ++ [q]) b (w20.setCell ⟨Bo, 0, none⟩ (.slice ao' (evs.length + 1) co')) := by
      have h0 := HD.out
      obtain ⟨n1, n2, n3, n4, n5, n6⟩ := hl.ra
      have hgw : w.grownBy w20 (blk ao) := by
        have : w.grownBy w1 (blk ao) := by rw [HW.out]; exact World.grownBy_alloc w _ _
        exact this.trans hg
      have hk : ∀ (k : Nat) (o : Obj), w.heap[k]? = some o → k < base → k ≠ Bo → (w20.setCell ⟨Bo, 0, none⟩ (.slice ao' (evs.length + 1) co')).heap[k]? = some o := fun k o h1 h2 h3 =>
        blk_other ((hgw.block k (lt_of_block h1) (fun e => hbn k h2 e.symm)).trans h1) h3 _
      have hgs : w20.grownBy (w20.setCell ⟨Bo, 0, none⟩ (.slice ao' (evs.length + 1) co')) (some Bo) := ⟨rfl, rfl, rfl, by simp, fun j _ hj => heap_setCell_other w20 ⟨Bo, 0, none⟩ j _ (fun e => hj (by simp [e]))⟩
      refine ⟨hk _ _ h0.r hl.r.2 n3, hk _ _ h0.a hl.a.2 n5, hk _ _ h0.b hl.b.2 n6, ⟨ao', co', ?_, ?_⟩, ?_, ?_, ?_⟩
      · rw [List.length_append, List.length_singleton]
        exact one_setCell (FI_heap' hg ho1 (hbn _ hl.o.2))
      · rw [List.length_append, List.length_singleton]; exact own_kept hown' hgs (fun b hb => by cases hb; exact .inl hl.o.2)
      · have h1 := h0.at_.grown hgw (fun p hp e => by have := (hl.f p hp).1; exact hbn _ this e.symm)
        exact h1.grown hgs (fun p hp => by simpa using (hl.f p hp).2.2)
      · exact grown_setCell (grown_own h0.g hgw (fun k hk => by have := hn k hk; have := hl.b; omega)) hl.o.1 _
      · have := h0.sz; have := hgw.size; simp; omega
    obtain ⟨f, rfl, hfo, hfn⟩ := hf.frame 32 rfl rfl
    have e0 : f 0 = _ := hfo 0 (by kernel_rfl)
    have e3 : f 3 = _ := hfo 3 (by kernel_rfl)
    simp at e0 e3
    rw [show (List.range 32).map f = [f 0, f 1, f 2, f 3, f 4, f 5, f 6, f 7, f 8, f 9, f 10, f 11, f 12, f 13, f 14, f 15, f 16, f 17, f 18, f 19, f 20, f 21, f 22, f 23, f 24, f 25, f 26, f 27, f 28, f 29, f 30, f 31] from rfl]
    rw [e0, e3]
    clear hfo hf e0 e3
    clear hfn hI
    have hcb' := cells1 hDS.b
    have hfb' := free1 hDS.b
    have HDS := Lib.hid (hDS.best hl (-1))
    clear hDS hbn hbn' hn ho1 hb1 hr1 hx1 hown1 hown' hg hcb hca hfb hp1 hp2
    go_wp2_with fail
    go_end0
    exact ⟨rfl, HDS.out⟩

set_option maxHeartbeats 800000 in
theorem flush_neg {W : World} {Br Ba Bb Bo base : Nat} {aF : Option Addr} {cF : Nat} {F : List (Int × Int)} {st wd ls nm dn : Int} {evs : List (Int × Int)} (w : World) (hl : DLay W Br Ba Bb Bo base aF)
    (h : DSt W Br Ba Bb Bo base aF cF F st wd ls nm dn evs (-1) w) :
    Calls Try.prog 40 #[.pointer (some ⟨Bb, 0, none⟩), .pointer (some ⟨Ba, 0, none⟩), .pointer (some ⟨Bo, 0, none⟩), .pointer (some ⟨Br, 0, none⟩)] w fun e w' => e = .returned (.tuple #[]) ∧
      DSt W Br Ba Bb Bo base aF cF F st wd ls nm dn evs (-1) w' := by
  have hcb := cells1 h.b
  have hfb := free1 h.b
  have HD := Lib.hid (h.best hl (-1))
  clear h
  go_enter Try.func40, Try.ntmps40
  go_wp2_with fail
  go_end0
  exact ⟨rfl, HD.out⟩
end Go.Proofs.Ytfocpjjcllpfbaa
