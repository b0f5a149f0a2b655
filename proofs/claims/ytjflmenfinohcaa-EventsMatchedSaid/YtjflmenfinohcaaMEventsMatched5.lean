/- Parts of the proof, in order. -/
import Derived.Test.YtjflmenfinohcaaMEventsMatched4
import Derived.Test.YtjflmenfinohcaaRegion

/- Walks: the events of a trace (package trace). -/
namespace Go.Proofs.Ytjflmenfinohcaa.Hd
set_option linter.unusedVariables false
set_option linter.unusedSimpArgs false
open Go.RowKit

theorem prs_get : ∀ (l : List (Int × Int)) (k : Nat), k < l.length → (prs l)[k * 2]? = some (.int .i64 (l.getD k (0, 0)).1) ∧ (prs l)[k * 2 + 1]? = some (.int .i64 (l.getD k (0, 0)).2)
  | [], k, h => by simp at h
  | q :: r, 0, _ => by simp [prs]
  | q :: r, k + 1, h => by
    have := prs_get r k (by simpa using h)
    have e : prs (q :: r) = .int .i64 q.1 :: .int .i64 q.2 :: prs r := rfl
    rw [e, show (k + 1) * 2 = k * 2 + 1 + 1 by omega]
    simpa using this
theorem prs_len (l : List (Int × Int)) : (prs l).length = l.length * 2 := by induction l with
  | nil => rfl
  | cons q r ih => have e : prs (q :: r) = .int .i64 q.1 :: .int .i64 q.2 :: prs r := rfl; rw [e]; simp [ih]; omega
theorem _root_.Go.Proofs.Ytjflmenfinohcaa.At.pair {w : World} {a : Option Addr} {l : List (Int × Int)} (h : At w a (prs l)) {k : Nat} (hk : k < l.length) :
    ∃ b off, a = some ⟨b, off, none⟩ ∧ w.cell? ⟨b, off + k * 2, none⟩ = some (.int .i64 (l.getD k (0, 0)).1) ∧ w.cell? ⟨b, off + k * 2 + 1, none⟩ = some (.int .i64 (l.getD k (0, 0)).2) := by
  have hl := prs_len l
  rcases h with h | ⟨b, off, ha, hc⟩
  · rw [h] at hl; simp at hl; omega
  · have h1 := hc (k * 2) (by omega)
    have h2 := hc (k * 2 + 1) (by omega)
    rw [(prs_get l k hk).1] at h1
    rw [(prs_get l k hk).2] at h2
    exact ⟨b, off, ha, h1, by rw [Nat.add_assoc]; exact h2⟩

theorem elem_event : Elem Try.prog 26 32 2 16 := by
  obtain ⟨i, hi, hz, h1, h2⟩ := info_parts (show (Try.prog.info? 32).map (fun i => (i.zero, i.size, i.bytes)) = some (some (.agg #[.int .i64 0, .int .i64 0]), 2, 16) by kernel_rfl)
  exact ⟨Try.underlying26, i, _, hi, hz, h1, h2, rfl, by omega⟩

/-- an event at an index, of a fraction -/
def evF (x : Int × Int) (i W : Nat) (st : Int) : Int × Int := (((i : Int) + W) * st, (2 * x.1 + x.2) / (2 * x.2))

/-- where the variables of Detected lie -/
structure DLay (W : World) (Br Ba Bb Bo base : Nat) (aF : Option Addr) : Prop where
  r : W.heap.size ≤ Br ∧ Br < base
  a : W.heap.size ≤ Ba ∧ Ba < base
  b : W.heap.size ≤ Bb ∧ Bb < base
  o : W.heap.size ≤ Bo ∧ Bo < base
  ra : Br ≠ Ba ∧ Br ≠ Bb ∧ Br ≠ Bo ∧ Ba ≠ Bb ∧ Ba ≠ Bo ∧ Bb ≠ Bo
  f : ∀ p, aF = some p → p.block < base ∧ p.block ≠ Bb ∧ p.block ≠ Bo

/-- what they hold -/
structure DSt (W : World) (Br Ba Bb Bo base : Nat) (aF : Option Addr) (cF : Nat) (F : List (Int × Int)) (st wd ls nm dn : Int) (evs : List (Int × Int)) (best : Int) (w : World) : Prop where
  r : w.heap[Br]? = some (.cells #[.int .i64 st, .int .i64 wd, .int .i64 ls, .int .i64 nm, .int .i64 dn] 72 (0, 0))
  a : w.heap[Ba]? = some (.cells #[.slice aF F.length cF] 85 (0, 0))
  b : w.heap[Bb]? = some (.cells #[.int .i64 best] 3 (0, 0))
  o : ∃ ao co, w.heap[Bo]? = some (.cells #[.slice ao evs.length co] 26 (0, 0)) ∧ w.ownsRow base 32 2 (.slice ao evs.length co) evs.length (prs evs)
  at_ : At w aF (prs F)
  g : W.grownBy w none
  sz : base ≤ w.heap.size

theorem DSt.quiet {W : World} {Br Ba Bb Bo base : Nat} {aF : Option Addr} {cF : Nat} {F : List (Int × Int)} {st wd ls nm dn : Int} {evs : List (Int × Int)} {best : Int} {w w' : World}
    (h : DSt W Br Ba Bb Bo base aF cF F st wd ls nm dn evs best w) (hg : w.grownBy w' none) : DSt W Br Ba Bb Bo base aF cF F st wd ls nm dn evs best w' := by
  obtain ⟨ao, co, h1, h2⟩ := h.o
  exact ⟨blk_apart h.r hg (by simp), blk_apart h.a hg (by simp), blk_apart h.b hg (by simp), ⟨ao, co, blk_apart h1 hg (by simp), own_kept h2 hg (by simp)⟩, h.at_.grown hg (by simp), h.g.trans hg, Nat.le_trans h.sz hg.size⟩

theorem DSt.best {W : World} {Br Ba Bb Bo base : Nat} {aF : Option Addr} {cF : Nat} {F : List (Int × Int)} {st wd ls nm dn : Int} {evs : List (Int × Int)} {best : Int} {w : World}
    (h : DSt W Br Ba Bb Bo base aF cF F st wd ls nm dn evs best w) (hl : DLay W Br Ba Bb Bo base aF) (x : Int) : DSt W Br Ba Bb Bo base aF cF F st wd ls nm dn evs x (w.setCell ⟨Bb, 0, none⟩ (.int .i64 x)) := by
  obtain ⟨ao, co, h1, h2⟩ := h.o
  obtain ⟨n1, n2, n3, n4, n5, n6⟩ := hl.ra
  have hg : w.grownBy (w.setCell ⟨Bb, 0, none⟩ (.int .i64 x)) (some Bb) := ⟨rfl, rfl, rfl, by simp, fun j _ hj => heap_setCell_other w ⟨Bb, 0, none⟩ j _ (fun e => hj (by simp [e]))⟩
  refine ⟨(hg.block _ (lt_of_block h.r) (by simpa using n2)).trans h.r, (hg.block _ (lt_of_block h.a) (by simpa using n4)).trans h.a, one_setCell h.b,
    ⟨ao, co, (hg.block _ (lt_of_block h1) (by simpa using Ne.symm n6)).trans h1, own_kept h2 hg (fun b hb => by cases hb; exact .inl hl.b.2)⟩, h.at_.grown hg (fun p hp => by simpa using (hl.f p hp).2.1), grown_setCell h.g hl.b.1 _, by simpa using h.sz⟩

/-- what the operations of flush's statement leave -/
def FT (Br Bx base : Nat) (ao : Option Addr) (co : Nat) (evs : List (Int × Int)) (b : Nat) (st wd : Int) (x : Int × Int) (B30 : Nat) (q : Int × Int) (Bo : Nat) (j : Nat) (v : Value) (w : World) : Prop :=
  match j with
  | 0 => v = .slice ao evs.length co
  | 1 => v = .int .i64 b
  | 2 => v = .pointer (some ⟨Br, 1, none⟩)
  | 3 => v = .int .i64 wd
  | 4 => v = .int .i64 ((b : Int) + wd)
  | 5 => v = .pointer (some ⟨Br, 0, none⟩)
  | 6 => v = .int .i64 st
  | 7 => v = .int .i64 (((b : Int) + wd) * st)
  | 8 => v = .pointer (some ⟨Bx, 0, none⟩)
  | 9 => v = .int .i64 x.1
  | 10 => v = .int .i64 (2 * x.1)
  | 11 | 14 => v = .pointer (some ⟨Bx, 1, none⟩)
  | 12 | 15 => v = .int .i64 x.2
  | 13 => v = .int .i64 (2 * x.1 + x.2)
  | 16 => v = .int .i64 (2 * x.2)
  | 17 => v = .int .i64 ((2 * x.1 + x.2) / (2 * x.2))
  | 18 => v = .agg #[.int .i64 q.1, .int .i64 q.2]
  | 19 => v = .slice (some ⟨B30, 0, none⟩) 1 1
  | 20 => ∃ ao' co', v = .slice ao' (evs.length + 1) co' ∧ w.ownsRow base 32 2 (.slice ao' (evs.length + 1) co') (evs.length + 1) (prs (evs ++ [q]))
  | _ => True

theorem FT_indep {Br Bx base : Nat} {ao : Option Addr} {co : Nat} {evs : List (Int × Int)} {b : Nat} {st wd : Int} {x : Int × Int} {B30 : Nat} {q : Int × Int} {Bo j : Nat} {v : Value} {w w' : World} (hj : j ≠ 20)
    (h : FT Br Bx base ao co evs b st wd x B30 q Bo j v w) : FT Br Bx base ao co evs b st wd x B30 q Bo j v w' := by
  unfold FT at *
  split at h <;> first | exact h | (exfalso; exact hj rfl) | trivial

/-- the world while it runs -/
def FI (w1 : World) (q : Int × Int) (ao : Option Addr) (Bo base n : Nat) (evs : List (Int × Int)) (D : Nat → Bool) (w : World) : Prop :=
  (D 19 = false → ∃ m, w = w1.drewN m) ∧ (D 19 = true → D 20 = false → ∃ m, w = (w1.alloc (.cells #[.int .i64 q.1, .int .i64 q.2] 32)).drewN m) ∧ (D 20 = true → D 21 = false → w1.grownBy w (blk ao)) ∧
  (D 21 = true → ∃ w20 ao' co', w = w20.setCell ⟨Bo, 0, none⟩ (.slice ao' (n + 1) co') ∧ w20.ownsRow base 32 2 (.slice ao' (n + 1) co') (n + 1) (prs (evs ++ [q])) ∧ w1.grownBy w20 (blk ao))

theorem FI_heap {w1 : World} {q : Int × Int} {ao : Option Addr} {Bo base n : Nat} {evs : List (Int × Int)} {D : Nat → Bool} {w : World} (h : FI w1 q ao Bo base n evs D w) (h21 : D 21 = false) {k : Nat} {o : Obj} (hk : w1.heap[k]? = some o) (hne : blk ao ≠ some k) : w.heap[k]? = some o := by
  by_cases h19 : D 19 = true
  · by_cases h20 : D 20 = true
    · exact ((h.2.2.1 h20 h21).block k (lt_of_block hk) (fun e => hne e.symm)).trans hk
    · obtain ⟨m, rfl⟩ := h.2.1 h19 (by simpa using h20)
      exact (heap_alloc_old w1 _ (lt_of_block hk)).trans hk
  · obtain ⟨m, rfl⟩ := h.1 (by simpa using h19)
    exact hk

theorem FI_heap' {w1 w : World} {ao : Option Addr} (hg : w1.grownBy w (blk ao)) {k : Nat} {o : Obj} (hk : w1.heap[k]? = some o) (hne : blk ao ≠ some k) : w.heap[k]? = some o :=
  (hg.block k (lt_of_block hk) (fun e => hne e.symm)).trans hk

theorem FI_step {w1 : World} {q : Int × Int} {ao : Option Addr} {Bo base n : Nat} {evs : List (Int × Int)} {D : Nat → Bool} {w : World} (j : Nat) (h1 : j ≠ 19) (h2 : j ≠ 20) (h3 : j ≠ 21) (h : FI w1 q ao Bo base n evs D w) : FI w1 q ao Bo base n evs (fun i => i == j || D i) w := by
  have e19 : (fun i => i == j || D i) 19 = D 19 := by simp; omega
  have e20 : (fun i => i == j || D i) 20 = D 20 := by simp; omega
  have e21 : (fun i => i == j || D i) 21 = D 21 := by simp; omega
  unfold FI at *
  rw [e19, e20, e21]; exact h

set_option maxRecDepth 100000 in
set_option maxHeartbeats 2000000 in
theorem flush_pos {W : World} {Br Ba Bb Bo base : Nat} {aF : Option Addr} {cF : Nat} {F : List (Int × Int)} {st wd ls nm dn : Int} {evs : List (Int × Int)} (b : Nat) (w : World) (hl : DLay W Br Ba Bb Bo base aF)
    (h : DSt W Br Ba Bb Bo base aF cF F st wd ls nm dn evs b w) (hb : b < F.length) (hF : F.length ≤ 5001) (hx : -2100000000 ≤ (F.getD b (0, 0)).1 ∧ (F.getD b (0, 0)).1 ≤ 2100000000 ∧ 1 ≤ (F.getD b (0, 0)).2 ∧ (F.getD b (0, 0)).2 ≤ 100000)
    (hst : 1 ≤ st ∧ st ≤ 100) (hwd : 1 ≤ wd ∧ wd ≤ 100) (hev : evs.length ≤ 5001) :
    Calls Try.prog 41 #[.pointer (some ⟨Bb, 0, none⟩), .pointer (some ⟨Ba, 0, none⟩), .pointer (some ⟨Bo, 0, none⟩), .pointer (some ⟨Br, 0, none⟩)] w fun e w' => e = .returned (.tuple #[]) ∧
      DSt W Br Ba Bb Bo base aF cF F st wd ls nm dn (evs ++ [evF (F.getD b (0, 0)) b wd.toNat st]) (-1) w' := by
  obtain ⟨ao, co, ho0, hown⟩ := h.o
  obtain ⟨bF, oF, rfl, hp1, hp2⟩ := h.at_.pair hb
  have HD := Lib.hid h
  have HEV : Hid (evF (F.getD b (0, 0)) b wd.toNat st = (((b : Int) + wd) * st, (2 * (F.getD b (0, 0)).1 + (F.getD b (0, 0)).2) / (2 * (F.getD b (0, 0)).2))) := by show _ = _; unfold evF; rw [Int.toNat_of_nonneg (by omega)]
  generalize F.getD b (0, 0) = x at *
  obtain ⟨q, HQ⟩ : ∃ q, Hid (evF x b wd.toNat st = q) := ⟨_, rfl⟩
  rw [HQ.out] at HEV
  rw [HQ.out]
  have hq1 : Hid (((b : Int) + wd) * st = q.1) := by show _ = _; rw [HEV.out]
  have hq2 : Hid ((2 * x.1 + x.2) / (2 * x.2) = q.2) := by show _ = _; rw [HEV.out]
  have hm := mul_bd ((b : Int) + wd) st 5200 100 (by omega) (by omega) (by omega)
  have hcb := cells1 h.b
  have hca := cells1 h.a
  have hfb := free1 h.b
  have hsz := h.sz
  have hbB := hl.b.2
  have hn : ∀ k, blk ao = some k → base ≤ k := fun k hk => (own_blk hown k hk).1
  clear HEV
  obtain ⟨w1, hw1⟩ : ∃ w1, w1 = w.alloc (.cells #[.int .i64 x.1, .int .i64 x.2] 70) := ⟨_, rfl⟩
  have ho1 : w1.heap[Bo]? = some (.cells #[.slice ao evs.length co] 26 (0, 0)) := by rw [hw1]; exact (heap_alloc_old w _ (lt_of_block ho0)).trans ho0
  have hb1 : w1.heap[Bb]? = some (.cells #[.int .i64 b] 3 (0, 0)) := by rw [hw1]; exact (heap_alloc_old w _ (lt_of_block h.b)).trans h.b
  have hr1 : w1.heap[Br]? = some (.cells #[.int .i64 st, .int .i64 wd, .int .i64 ls, .int .i64 nm, .int .i64 dn] 72 (0, 0)) := by rw [hw1]; exact (heap_alloc_old w _ (lt_of_block h.r)).trans h.r
  have hx1 : w1.heap[w.heap.size]? = some (.cells #[.int .i64 x.1, .int .i64 x.2] 70 (0, 0)) := by rw [hw1]; exact heap_alloc_new w _
  have hbn : ∀ k, k < base → blk ao ≠ some k := fun k hk e => by have := hn k e; omega
  have hbn' : blk ao ≠ some w.heap.size := fun e => by have := (own_blk hown _ e).2; omega
  have hown1 : w1.ownsRow base 32 2 (.slice ao evs.length co) evs.length (prs evs) := by rw [hw1]; exact hown.alloc _
  have HW := Lib.hid hw1
  clear hw1 h ho0 hown
  have HH : Hid ((∀ k, k < base → blk ao ≠ some k) ∧ (blk ao ≠ some w.heap.size) ∧ (∀ k, blk ao = some k → base ≤ k) ∧ w1.heap[Bo]? = some (.cells #[.slice ao evs.length co] 26 (0, 0)) ∧ w1.heap[Bb]? = some (.cells #[.int .i64 b] 3 (0, 0)) ∧ w1.heap[Br]? = some (.cells #[.int .i64 st, .int .i64 wd, .int .i64 ls, .int .i64 nm, .int .i64 dn] 72 (0, 0)) ∧ w1.heap[w.heap.size]? = some (.cells #[.int .i64 x.1, .int .i64 x.2] 70 (0, 0))) := ⟨hbn, hbn', hn, ho1, hb1, hr1, hx1⟩
  clear hbn hbn' hn ho1 hb1 hr1 hx1
  go_enter Try.func41, Try.ntmps41
  go_wp2_with fail
  rw [← HW.out]
  obtain ⟨hbn, hbn', hn, ho1, hb1, hr1, hx1⟩ := HH.out
  refine wp_region_typed2 (by kernel_rfl) (FT Br w.heap.size base ao co evs b st wd x w1.heap.size q Bo) (FI w1 q ao Bo base evs.length evs) (by kernel_rfl) (by kernel_rfl) ?_ ?_ ?_
  · exact ⟨fun _ => ⟨1, rfl⟩, fun h => by simp at h, fun h => by simp at h, fun h => by simp at h⟩
  · intro j o D a w' hoj hnD hd hcl hf hI
    have hj : j < 22 := (Array.getElem?_eq_some_iff.1 hoj).1
    obtain rfl | rfl | rfl | rfl | rfl | rfl | rfl | rfl | rfl | rfl | rfl | rfl | rfl | rfl | rfl | rfl | rfl | rfl | rfl | rfl | rfl | rfl : j = 0 ∨ j = 1 ∨ j = 2 ∨ j = 3 ∨ j = 4 ∨ j = 5 ∨ j = 6 ∨ j = 7 ∨ j = 8 ∨ j = 9 ∨ j = 10 ∨ j = 11 ∨ j = 12 ∨ j = 13 ∨ j = 14 ∨ j = 15 ∨ j = 16 ∨ j = 17 ∨ j = 18 ∨ j = 19 ∨ j = 20 ∨ j = 21 := by omega
    all_goals (obtain rfl := Option.some.inj hoj; rw [if_pos (wanted_plain rfl _)])
    · have h21 : D 21 = false := by
        cases h : D 21 with
        | false => rfl
        | true => have := hcl 21 _ rfl h ⟨0, .phase⟩ (by simp) rfl; rw [this] at hnD; cases hnD
      have h2 := hf.var 2 (by kernel_rfl)
      simp at h2
      have hc := cells1 (FI_heap hI h21 ho1 (hbn _ hl.o.2))
      exact wp_value (v := .slice ao evs.length co) (by simp [execOp, go_sem, h2, hc]) ⟨_, rfl, rfl, fun _ _ _ h => h, FI_step 0 (by omega) (by omega) (by omega) hI⟩
    · have h21 : D 21 = false := by
        cases h : D 21 with
        | false => rfl
        | true => have := hcl 21 _ rfl h ⟨1, .phase⟩ (by simp) rfl; rw [this] at hnD; cases hnD
      have h0 := hf.var 0 (by kernel_rfl)
      simp at h0
      have hc := cells1 (FI_heap hI h21 hb1 (hbn _ hl.b.2))
      exact wp_value (v := .int .i64 b) (by simp [execOp, go_sem, h0, hc]) ⟨_, rfl, rfl, fun _ _ _ h => h, FI_step 1 (by omega) (by omega) (by omega) hI⟩
    · have h3 := hf.var 3 (by kernel_rfl)
      simp at h3
      exact wp_value (v := .pointer (some ⟨Br, 1, none⟩)) (by simp [execOp, go_sem, h3]) ⟨_, rfl, rfl, fun _ _ _ h => h, FI_step 2 (by omega) (by omega) (by omega) hI⟩
    · have h21 : D 21 = false := by
        cases h : D 21 with
        | false => rfl
        | true => have := hcl 21 _ rfl h ⟨3, .phase⟩ (by simp) rfl; rw [this] at hnD; cases hnD
      have h13 : a.tmps[13]?.getD undef = _ := hf.got 2 13 rfl (hd ⟨2, .data⟩ (by simp) rfl)
      have hc := (cells5 (FI_heap hI h21 hr1 (hbn _ hl.r.2))).2.1
      exact wp_value (v := .int .i64 wd) (by simp [execOp, go_sem, h13, hc]) ⟨_, rfl, rfl, fun _ _ _ h => h, FI_step 3 (by omega) (by omega) (by omega) hI⟩
    · have h12 : a.tmps[12]?.getD undef = _ := hf.got 1 12 rfl (hd ⟨1, .data⟩ (by simp) rfl)
      have h14 : a.tmps[14]?.getD undef = _ := hf.got 3 14 rfl (hd ⟨3, .data⟩ (by simp) rfl)
      exact wp_value (v := .int .i64 ((b : Int) + wd)) (by simp [execOp, go_sem, h12, h14]; exact IntWalk.i64_in _ ⟨by omega, by omega⟩) ⟨_, rfl, rfl, fun _ _ _ h => h, FI_step 4 (by omega) (by omega) (by omega) hI⟩
    · have h3 := hf.var 3 (by kernel_rfl)
      simp at h3
      exact wp_value (v := .pointer (some ⟨Br, 0, none⟩)) (by simp [execOp, go_sem, h3]) ⟨_, rfl, rfl, fun _ _ _ h => h, FI_step 5 (by omega) (by omega) (by omega) hI⟩
    · have h21 : D 21 = false := by
        cases h : D 21 with
        | false => rfl
        | true => have := hcl 21 _ rfl h ⟨6, .phase⟩ (by simp) rfl; rw [this] at hnD; cases hnD
      have h16 : a.tmps[16]?.getD undef = _ := hf.got 5 16 rfl (hd ⟨5, .data⟩ (by simp) rfl)
      have hc := (cells5 (FI_heap hI h21 hr1 (hbn _ hl.r.2))).1
      exact wp_value (v := .int .i64 st) (by simp [execOp, go_sem, h16, hc]) ⟨_, rfl, rfl, fun _ _ _ h => h, FI_step 6 (by omega) (by omega) (by omega) hI⟩
    · have h15 : a.tmps[15]?.getD undef = _ := hf.got 4 15 rfl (hd ⟨4, .data⟩ (by simp) rfl)
      have h17 : a.tmps[17]?.getD undef = _ := hf.got 6 17 rfl (hd ⟨6, .data⟩ (by simp) rfl)
      exact wp_value (v := .int .i64 (((b : Int) + wd) * st)) (by simp [execOp, go_sem, h15, h17]; exact IntWalk.i64_in _ ⟨by omega, by omega⟩) ⟨_, rfl, rfl, fun _ _ _ h => h, FI_step 7 (by omega) (by omega) (by omega) hI⟩
    · have h4 := hf.var 4 (by kernel_rfl)
      simp at h4
      exact wp_value (v := .pointer (some ⟨w.heap.size, 0, none⟩)) (by simp [execOp, go_sem, h4]) ⟨_, rfl, rfl, fun _ _ _ h => h, FI_step 8 (by omega) (by omega) (by omega) hI⟩
    · have h21 : D 21 = false := by
        cases h : D 21 with
        | false => rfl
        | true => have := hcl 21 _ rfl h ⟨9, .phase⟩ (by simp) rfl; rw [this] at hnD; cases hnD
      have h19 : a.tmps[19]?.getD undef = _ := hf.got 8 19 rfl (hd ⟨8, .data⟩ (by simp) rfl)
      have hc := (cells2 (FI_heap hI h21 hx1 hbn')).1
      exact wp_value (v := .int .i64 x.1) (by simp [execOp, go_sem, h19, hc]) ⟨_, rfl, rfl, fun _ _ _ h => h, FI_step 9 (by omega) (by omega) (by omega) hI⟩
    · have h20 : a.tmps[20]?.getD undef = _ := hf.got 9 20 rfl (hd ⟨9, .data⟩ (by simp) rfl)
      exact wp_value (v := .int .i64 (2 * x.1)) (by simp [execOp, go_sem, h20]; exact IntWalk.i64_in _ ⟨by omega, by omega⟩) ⟨_, rfl, rfl, fun _ _ _ h => h, FI_step 10 (by omega) (by omega) (by omega) hI⟩
    · have h4 := hf.var 4 (by kernel_rfl)
      simp at h4
      exact wp_value (v := .pointer (some ⟨w.heap.size, 1, none⟩)) (by simp [execOp, go_sem, h4]) ⟨_, rfl, rfl, fun _ _ _ h => h, FI_step 11 (by omega) (by omega) (by omega) hI⟩
    · have h21 : D 21 = false := by
        cases h : D 21 with
        | false => rfl
        | true => have := hcl 21 _ rfl h ⟨12, .phase⟩ (by simp) rfl; rw [this] at hnD; cases hnD
      have h22 : a.tmps[22]?.getD undef = _ := hf.got 11 22 rfl (hd ⟨11, .data⟩ (by simp) rfl)
      have hc := (cells2 (FI_heap hI h21 hx1 hbn')).2
      exact wp_value (v := .int .i64 x.2) (by simp [execOp, go_sem, h22, hc]) ⟨_, rfl, rfl, fun _ _ _ h => h, FI_step 12 (by omega) (by omega) (by omega) hI⟩
    · have h21 : a.tmps[21]?.getD undef = _ := hf.got 10 21 rfl (hd ⟨10, .data⟩ (by simp) rfl)
      have h23 : a.tmps[23]?.getD undef = _ := hf.got 12 23 rfl (hd ⟨12, .data⟩ (by simp) rfl)
      exact wp_value (v := .int .i64 (2 * x.1 + x.2)) (by simp [execOp, go_sem, h21, h23]; exact IntWalk.i64_in _ ⟨by omega, by omega⟩) ⟨_, rfl, rfl, fun _ _ _ h => h, FI_step 13 (by omega) (by omega) (by omega) hI⟩
    · have h4 := hf.var 4 (by kernel_rfl)
      simp at h4
      exact wp_value (v := .pointer (some ⟨w.heap.size, 1, none⟩)) (by simp [execOp, go_sem, h4]) ⟨_, rfl, rfl, fun _ _ _ h => h, FI_step 14 (by omega) (by omega) (by omega) hI⟩
    · have h21 : D 21 = false := by
        cases h : D 21 with
        | false => rfl
        | true => have := hcl 21 _ rfl h ⟨15, .phase⟩ (by simp) rfl; rw [this] at hnD; cases hnD
      have h25 : a.tmps[25]?.getD undef = _ := hf.got 14 25 rfl (hd ⟨14, .data⟩ (by simp) rfl)
      have hc := (cells2 (FI_heap hI h21 hx1 hbn')).2
      exact wp_value (v := .int .i64 x.2) (by simp [execOp, go_sem, h25, hc]) ⟨_, rfl, rfl, fun _ _ _ h => h, FI_step 15 (by omega) (by omega) (by omega) hI⟩
    · have h26 : a.tmps[26]?.getD undef = _ := hf.got 15 26 rfl (hd ⟨15, .data⟩ (by simp) rfl)
      exact wp_value (v := .int .i64 (2 * x.2)) (by simp [execOp, go_sem, h26]; exact IntWalk.i64_in _ ⟨by omega, by omega⟩) ⟨_, rfl, rfl, fun _ _ _ h => h, FI_step 16 (by omega) (by omega) (by omega) hI⟩
    · have h24 : a.tmps[24]?.getD undef = _ := hf.got 13 24 rfl (hd ⟨13, .data⟩ (by simp) rfl)
      have h27 : a.tmps[27]?.getD undef = _ := hf.got 16 27 rfl (hd ⟨16, .data⟩ (by simp) rfl)
      refine wp_call _ _ _ _ rfl Try.func42 (by kernel_rfl) (by kernel_rfl) _ (by simp [eval_tmp, h24, h27]) (down_any (2 * x.1 + x.2) (2 * x.2) w' (by omega) (by omega) (by omega) (by omega)) ?_
      rintro e w'' ⟨rfl, rfl⟩
      exact ⟨_, rfl, _, rfl, rfl, fun _ _ _ h => h, FI_step 17 (by omega) (by omega) (by omega) hI⟩
    · have h18 : a.tmps[18]?.getD undef = _ := hf.got 7 18 rfl (hd ⟨7, .data⟩ (by simp) rfl)
      have h28 : a.tmps[28]?.getD undef = _ := hf.got 17 28 rfl (hd ⟨17, .data⟩ (by simp) rfl)
      exact wp_value (v := .agg #[.int .i64 q.1, .int .i64 q.2]) (by simp [execOp, go_sem, h18, h28, hq1.out, hq2.out]) ⟨_, rfl, rfl, fun _ _ _ h => h, FI_step 18 (by omega) (by omega) (by omega) hI⟩
    · have h29 : a.tmps[29]?.getD undef = _ := hf.got 18 29 rfl (hd ⟨18, .data⟩ (by simp) rfl)
      obtain ⟨m, rfl⟩ := hI.1 hnD
      have h20 : D 20 = false := by
        cases h : D 20 with
        | false => rfl
        | true => have := hcl 20 _ rfl h ⟨19, .data⟩ (by simp) rfl; rw [this] at hnD; cases hnD
      have h21 : D 21 = false := by
        cases h : D 21 with
        | false => rfl
        | true => have := hcl 21 _ rfl h ⟨19, .phase⟩ (by simp) rfl; rw [this] at hnD; cases hnD
      exact wp_value (v := .slice (some ⟨w1.heap.size, 0, none⟩) 1 1) (w' := (w1.alloc (.cells #[.int .i64 q.1, .int .i64 q.2] 32)).drewN m) (by simp [execOp, go_sem, h29]; rfl) ⟨_, rfl, rfl, fun i u hi h => FT_indep (fun e => by rw [e, h20] at hi; cases hi) h, ⟨fun h => by simp at h, fun _ _ => ⟨m, rfl⟩, fun h => by simp [h20] at h, fun h => by simp [h21] at h⟩⟩
    · have h11 : a.tmps[11]?.getD undef = _ := hf.got 0 11 rfl (hd ⟨0, .data⟩ (by simp) rfl)
      have h30 : a.tmps[30]?.getD undef = _ := hf.got 19 30 rfl (hd ⟨19, .data⟩ (by simp) rfl)
      have h21 : D 21 = false := by
        cases h : D 21 with
        | false => rfl
        | true => have := hcl 21 _ rfl h ⟨20, .phase⟩ (by simp) rfl; rw [this] at hnD; cases hnD
      obtain ⟨m, rfl⟩ := hI.2.1 (hd ⟨19, .data⟩ (by simp) rfl) hnD
      have hbb := heap_alloc_new w1 (.cells #[.int .i64 q.1, .int .i64 q.2] 32)
      refine wp_push_at _ _ _ rfl base _ _ _ _ elem_event ao evs.length co _ (own_drewN (hown1.alloc _) m) w1.heap.size 1 1 (0, 0) [.int .i64 q.1, .int .i64 q.2] hbb (by simp [eval_tmp, h11]) (by simp [eval_tmp, h30]) rfl (by simp [Value.oneCell']) (by omega) (by unfold maxLen; omega) ?_ ?_
      · have := lt_of_block hx1; simp; omega
      · intro a' c' w' h1 h2 _
        refine ⟨_, rfl, ⟨a', c', rfl, by rw [prs_snoc]; exact h1⟩, fun i u hi h => FT_indep (fun e => by rw [e, hnD] at hi; cases hi) h, fun h => ?_, fun h1 h2 => ?_, fun _ _ => ?_, fun h => by simp [h21] at h⟩
        · have h19 : D 19 = true := hd ⟨19, .data⟩ (by simp) rfl
          simp [h19] at h
        · simp at h2
        · exact (World.grownBy_alloc w1 _ (blk ao)).trans (show (w1.alloc (.cells #[.int .i64 q.1, .int .i64 q.2] 32)).grownBy w' (blk ao) from ⟨h2.os, h2.tape, h2.output, h2.size, h2.block⟩)
    · have h2 := hf.var 2 (by kernel_rfl)
      simp at h2
      obtain ⟨ao', co', h31, hown'⟩ := hf.got 20 31 rfl (hd ⟨20, .data⟩ (by simp) rfl)
      have hho := FI_heap hI hnD ho1 (hbn _ hl.o.2)
      have hc := cells1 hho
      have hfz := free1 hho
      have hg := hI.2.2.1 (hd ⟨20, .data⟩ (by simp) rfl) hnD
      have hgs : w'.grownBy (w'.setCell ⟨Bo, 0, none⟩ (.slice ao' (evs.length + 1) co')) (some Bo) := ⟨rfl, rfl, rfl, by simp, fun j _ hj => heap_setCell_other w' ⟨Bo, 0, none⟩ j _ (fun e => hj (by simp [e]))⟩
      refine wp_skip (w' := w'.setCell ⟨Bo, 0, none⟩ (.slice ao' (evs.length + 1) co')) (by simp [execOp, go_sem, h2, h31, hc, hfz]) ⟨undef, rfl, trivial, fun i u hi h => ?_, fun h => ?_, fun _ h => ?_, fun _ h => by simp at h, fun _ => ⟨w', ao', co', rfl, hown', hg⟩⟩
      · by_cases hi20 : i = 20
        · subst hi20
          obtain ⟨a'', c'', hv, ho''⟩ := h
          exact ⟨a'', c'', hv, own_kept ho'' hgs (fun b hb => by cases hb; exact .inl hl.o.2)⟩
        · exact FT_indep hi20 h
      · have h19 : D 19 = true := hd ⟨19, .phase⟩ (by simp) rfl
        simp [h19] at h
      · have h20 : D 20 = true := hd ⟨20, .data⟩ (by simp) rfl
        simp [h20] at h
  · intro a w' hf hI
    obtain ⟨w20, ao', co', rfl, hown', hg⟩ := hI.2.2.2 (by simp)
    have hDS : DSt W Br Ba Bb Bo base (some ⟨bF, oF, none⟩) cF F st wd ls nm dn (evs ++ [q]) b (w20.setCell ⟨Bo, 0, none⟩ (.slice ao' (evs.length + 1) co')) := by
      have h0 := HD.out
      obtain ⟨n1, n2, n3, n4, n5, n6⟩ := hl.ra
      have hgw : w.grownBy w20 (blk ao) := by
        have : w.grownBy w1 (blk ao) := by rw [HW.out]; exact World.grownBy_alloc w _ _
        exact this.trans hg
      have hk : ∀ (k : Nat) (o : Obj), w.heap[k]? = some o → k < base → k ≠ Bo → (w20.setCell ⟨Bo, 0, none⟩ (.slice ao' (evs.length + 1) co')).heap[k]? = some o := fun k o h1 h2 h3 =>
        blk_other ((hgw.block k (lt_of_block h1) (fun e => hbn k h2 e.symm)).trans h1) h3 _
      have hgs : w20.grownBy (w20.setCell ⟨Bo, 0, none⟩ (.slice ao' (evs.length + 1) co')) (some Bo) := ⟨rfl, rfl, rfl, by simp, fun j _ hj => heap_setCell_other w20 ⟨Bo, 0, none⟩ j _ (fun e => hj (by simp [e]))⟩
      refine ⟨hk _ _ h0.r hl.r.2 n3, hk _ _ h0.a hl.a.2 n5, hk _ _ h0.b hl.b.2 n6, ⟨ao', co', ?_, ?_⟩, ?_, ?_, ?_⟩
      · rw [List.length_append, List.length_singleton]
        exact one_setCell (FI_heap' hg ho1 (hbn _ hl.o.2))
      · rw [List.length_append, List.length_singleton]; exact own_kept hown' hgs (fun b hb => by cases hb; exact .inl hl.o.2)
      · have h1 := h0.at_.grown hgw (fun p hp e => by have := (hl.f p hp).1; exact hbn _ this e.symm)
        exact h1.grown hgs (fun p hp => by simpa using (hl.f p hp).2.2)
      · exact grown_setCell (grown_own h0.g hgw (fun k hk => by have := hn k hk; have := hl.b; omega)) hl.o.1 _
      · have := h0.sz; have := hgw.size; simp; omega
    obtain ⟨f, rfl, hfo, hfn⟩ := hf.frame 32 rfl rfl
    have e0 : f 0 = _ := hfo 0 (by kernel_rfl)
    have e3 : f 3 = _ := hfo 3 (by kernel_rfl)
    simp at e0 e3
    rw [show (List.range 32).map f = [f 0, f 1, f 2, f 3, f 4, f 5, f 6, f 7, f 8, f 9, f 10, f 11, f 12, f 13, f 14, f 15, f 16, f 17, f 18, f 19, f 20, f 21, f 22, f 23, f 24, f 25, f 26, f 27, f 28, f 29, f 30, f 31] from rfl]
    rw [e0, e3]
    clear hfo hf e0 e3
    clear hfn hI
    have hcb' := cells1 hDS.b
    have hfb' := free1 hDS.b
    have HDS := Lib.hid (hDS.best hl (-1))
    clear hDS hbn hbn' hn ho1 hb1 hr1 hx1 hown1 hown' hg hcb hca hfb hp1 hp2
    go_wp2_with fail
    go_end0
    exact ⟨rfl, HDS.out⟩

set_option maxHeartbeats 800000 in
theorem flush_neg {W : World} {Br Ba Bb Bo base : Nat} {aF : Option Addr} {cF : Nat} {F : List (Int × Int)} {st wd ls nm dn : Int} {evs : List (Int × Int)} (w : World) (hl : DLay W Br Ba Bb Bo base aF)
    (h : DSt W Br Ba Bb Bo base aF cF F st wd ls nm dn evs (-1) w) :
    Calls Try.prog 41 #[.pointer (some ⟨Bb, 0, none⟩), .pointer (some ⟨Ba, 0, none⟩), .pointer (some ⟨Bo, 0, none⟩), .pointer (some ⟨Br, 0, none⟩)] w fun e w' => e = .returned (.tuple #[]) ∧
      DSt W Br Ba Bb Bo base aF cF F st wd ls nm dn evs (-1) w' := by
  have hcb := cells1 h.b
  have hfb := free1 h.b
  have HD := Lib.hid (h.best hl (-1))
  clear h
  go_enter Try.func41, Try.ntmps41
  go_wp2_with fail
  go_end0
  exact ⟨rfl, HD.out⟩
end Go.Proofs.Ytjflmenfinohcaa.Hd

/- Plain facts on fractions in lowest terms; and the walk of Detected. -/
namespace Go.Proofs.Ytjflmenfinohcaa.Hd
set_option linter.unusedVariables false
set_option linter.unusedSimpArgs false
open Go.RowKit

theorem low_spec (x : Int) (u : Nat) (hu : 1 ≤ u) : ∃ g : Nat, 1 ≤ g ∧ x = g * (low x u).1 ∧ (u : Int) = g * (low x u).2 ∧ 1 ≤ (low x u).2 := by
  have hg0 : (Nat.gcd x.natAbs u : Int) ∣ x := Int.ofNat_dvd_left.2 (Nat.gcd_dvd_left _ _)
  have hg1 : (Nat.gcd x.natAbs u : Int) ∣ (u : Int) := Int.natCast_dvd_natCast.2 (Nat.gcd_dvd_right _ _)
  exact ⟨Nat.gcd x.natAbs u, gcd_pos _ _ hu, (Int.mul_ediv_cancel' hg0).symm, (Int.mul_ediv_cancel' hg1).symm, (low_bd x u hu).2.1⟩
theorem low_lt (x ls : Int) (u : Nat) (hu : 1 ≤ u) : (low x u).1 < ls * (low x u).2 ↔ x < ls * u := by
  obtain ⟨g, hg, h1, h2, _⟩ := low_spec x u hu
  have e : ls * (u : Int) = g * (ls * (low x u).2) := by rw [h2, Int.mul_left_comm]
  have e' : x < ls * u ↔ (g : Int) * (low x u).1 < g * (ls * (low x u).2) := by rw [← h1, ← e]
  rw [e']
  exact (Int.mul_lt_mul_left (by omega)).symm
theorem low_cmp (x y : Int) (u : Nat) (hu : 1 ≤ u) : (low y u).1 * (low x u).2 < (low x u).1 * (low y u).2 ↔ y < x := by
  obtain ⟨g, hg, h1, h2, h3⟩ := low_spec x u hu
  obtain ⟨k, hk, k1, k2, k3⟩ := low_spec y u hu
  have hu' : (0 : Int) < u := by omega
  have e1 : y * (u : Int) = ((k : Int) * g) * ((low y u).1 * (low x u).2) := by
    calc y * (u : Int) = (k * (low y u).1) * (g * (low x u).2) := by rw [← k1, ← h2]
      _ = _ := by simp only [Int.mul_assoc, Int.mul_comm, Int.mul_left_comm]
  have e2 : x * (u : Int) = ((k : Int) * g) * ((low x u).1 * (low y u).2) := by
    calc x * (u : Int) = (g * (low x u).1) * (k * (low y u).2) := by rw [← h1, ← k2]
      _ = _ := by simp only [Int.mul_assoc, Int.mul_comm, Int.mul_left_comm]
  have hkg : (0 : Int) < (k : Int) * g := Int.mul_pos (by omega) (by omega)
  have e3 : y < x ↔ y * (u : Int) < x * u := (Int.mul_lt_mul_right hu').symm
  rw [e3, e1, e2]
  exact (Int.mul_lt_mul_left hkg).symm
theorem low_round (x : Int) (u : Nat) (hu : 1 ≤ u) : (2 * (low x u).1 + (low x u).2) / (2 * (low x u).2) = (2 * x + u) / (2 * u) := by
  obtain ⟨g, hg, h1, h2, h3⟩ := low_spec x u hu
  have e1 : 2 * x + (u : Int) = g * (2 * (low x u).1 + (low x u).2) := by
    rw [Int.mul_add, ← h2, Int.mul_left_comm, ← h1]
  have e2 : 2 * (u : Int) = g * (2 * (low x u).2) := by rw [Int.mul_left_comm, ← h2]
  rw [e1, e2, Int.mul_ediv_mul_of_pos _ _ (by omega)]
theorem cmp3_pos (x y : Int) : 0 < cmp3 x y ↔ y < x := by unfold cmp3; (repeat' split) <;> omega

theorem compareI_any (a c b d : Int) (w : World) (ha : -9223372036854775807 ≤ a ∧ a ≤ 9223372036854775807) (hc : -9223372036854775807 ≤ c ∧ c ≤ 9223372036854775807) (hb : 1 ≤ b ∧ b ≤ 9223372036854775807) (hd : 1 ≤ d ∧ d ≤ 9223372036854775807) :
    Calls Try.prog 43 #[.agg #[.int .i64 a, .int .i64 b], .agg #[.int .i64 c, .int .i64 d]] w fun e w' => e = .returned (.int .i64 (cmp3 (a * d) (c * b))) ∧ w.grownBy w' none := by
  obtain ⟨B, rfl⟩ := Int.eq_ofNat_of_zero_le (show 0 ≤ b by omega)
  obtain ⟨D, rfl⟩ := Int.eq_ofNat_of_zero_le (show 0 ≤ d by omega)
  exact compare_any a c B D w ha hc (by omega) (by omega)

/-- an event at an index, of a raw excess -/
def evR (R : List Int) (W D : Nat) (st : Int) (i : Nat) : Int × Int := (((i : Int) + W) * st, (2 * R.getD i 0 + (W * D : Nat)) / (2 * (W * D : Nat)))
def evsOf (p : List Int) (W D : Nat) (nm ls st : Int) : List (Int × Int) := (bestL (exR p W D nm) (ls * (W * D : Nat))).map (evR (exR p W D nm) W D st)
theorem exL_get (p : List Int) (W D : Nat) (nm : Int) (k : Nat) (h : k < exc p W) : (exL p W D nm).getD k (0, 0) = low ((exR p W D nm).getD k 0) (W * D) := by simp [exL, exR, exf, h]
theorem evF_evR (p : List Int) (W D : Nat) (nm st : Int) (k : Nat) (h : k < exc p W) (hu : 1 ≤ W * D) : evF ((exL p W D nm).getD k (0, 0)) k W st = evR (exR p W D nm) W D st k := by
  rw [exL_get p W D nm k h]; unfold evF evR; rw [low_round _ _ hu]

/-- the machine's state, as the variables hold it -/
def bestV (s : Option Nat × List Nat) : Int := match s.1 with | none => -1 | some b => b
def DRel (W : World) (Br Ba Bb Bo base : Nat) (aF : Option Addr) (cF : Nat) (p : List Int) (Wd D : Nat) (st ls nm : Int) (v25 : Value) (wr : World) : Prop :=
  ∃ k : Nat, k ≤ exc p Wd ∧ v25 = .int .i64 k ∧ DSt W Br Ba Bb Bo base aF cF (exL p Wd D nm) st Wd ls nm D ((pst (exR p Wd D nm) (ls * (Wd * D : Nat)) k).2.map (evR (exR p Wd D nm) Wd D st)) (bestV (pst (exR p Wd D nm) (ls * (Wd * D : Nat)) k)) wr

theorem exL_bd (p : List Int) (W D : Nat) (nm : Int) (ho : p.all okR = true) (hW : 1 ≤ W ∧ W ≤ 100) (hD : 1 ≤ D ∧ D ≤ 1000) (hnm : 0 ≤ nm ∧ nm ≤ 10000) (b : Nat) (hb : b < exc p W) :
    -2100000000 ≤ ((exL p W D nm).getD b (0, 0)).1 ∧ ((exL p W D nm).getD b (0, 0)).1 ≤ 2100000000 ∧ 1 ≤ ((exL p W D nm).getD b (0, 0)).2 ∧ ((exL p W D nm).getD b (0, 0)).2 ≤ 100000 := by
  have hu : 1 ≤ W * D := Nat.mul_pos hW.1 hD.1
  have hu2 : W * D ≤ 100000 := Nat.mul_le_mul hW.2 hD.2
  rw [exL_get p W D nm b hb]
  have h1 := low_bd ((exR p W D nm).getD b 0) (W * D) hu
  have h2 : (exR p W D nm).getD b 0 = exn p W D nm (W + b) := by simp [exR, hb]
  obtain ⟨hB1, hB2, hB3⟩ := exn_bd p ho W D nm (W + b) hW.2 hD.2 hnm (by omega) (by unfold exc at hb; omega)
  rw [h2] at h1 ⊢
  unfold exn at h1 ⊢
  omega

theorem pst_low (R : List Int) (T : Int) (k : Nat) (h : R.getD k 0 < T) : pst R T (k + 1) = (none, flushO (pst R T k)) := by rw [pst, if_pos h]
theorem pst_none (R : List Int) (T : Int) (k : Nat) (h : ¬ R.getD k 0 < T) (hs : (pst R T k).1 = none) : pst R T (k + 1) = (some k, (pst R T k).2) := by rw [pst, if_neg h, hs]
theorem pst_up (R : List Int) (T : Int) (k b : Nat) (h : ¬ R.getD k 0 < T) (hs : (pst R T k).1 = some b) (hc : R.getD b 0 < R.getD k 0) : pst R T (k + 1) = (some k, (pst R T k).2) := by rw [pst, if_neg h, hs]; simp only; rw [if_pos hc]
theorem pst_same (R : List Int) (T : Int) (k b : Nat) (h : ¬ R.getD k 0 < T) (hs : (pst R T k).1 = some b) (hc : ¬ R.getD b 0 < R.getD k 0) : pst R T (k + 1) = pst R T k := by rw [pst, if_neg h, hs]; simp only; rw [if_neg hc]
theorem pst_len2 (R : List Int) (T : Int) (k : Nat) : (pst R T k).2.length ≤ k := by
  have := pst_len R T k
  unfold flushO at this; split at this
  · simp at this; omega
  · exact this

theorem _root_.Go.Proofs.Ytjflmenfinohcaa.At.pair' {w : World} {b off : Nat} {l : List (Int × Int)} (h : At w (some ⟨b, off, none⟩) (prs l)) {k : Nat} (hk : k < l.length) :
    w.cell? ⟨b, off + k * 2, none⟩ = some (.int .i64 (l.getD k (0, 0)).1) ∧ w.cell? ⟨b, off + k * 2 + 1, none⟩ = some (.int .i64 (l.getD k (0, 0)).2) := by
  obtain ⟨b', off', e, h1, h2⟩ := h.pair hk
  cases e
  exact ⟨h1, h2⟩

/-- flush, whatever the state -/
theorem flush_any {W : World} {Br Ba Bb Bo base : Nat} {aF : Option Addr} {cF : Nat} {p : List Int} {Wd D : Nat} {st ls nm : Int} (s : Option Nat × List Nat) (w : World) (hl : DLay W Br Ba Bb Bo base aF) (ho : p.all okR = true) (hlen : p.length ≤ 5000)
    (hW : 1 ≤ Wd ∧ Wd ≤ 100) (hD : 1 ≤ D ∧ D ≤ 1000) (hnm : 0 ≤ nm ∧ nm ≤ 10000) (hst : 1 ≤ st ∧ st ≤ 100) (hs : ∀ b, s.1 = some b → b < exc p Wd) (hs2 : s.2.length ≤ 5001)
    (h : DSt W Br Ba Bb Bo base aF cF (exL p Wd D nm) st Wd ls nm D (s.2.map (evR (exR p Wd D nm) Wd D st)) (bestV s) w) :
    Calls Try.prog 41 #[.pointer (some ⟨Bb, 0, none⟩), .pointer (some ⟨Ba, 0, none⟩), .pointer (some ⟨Bo, 0, none⟩), .pointer (some ⟨Br, 0, none⟩)] w fun e w' => e = .returned (.tuple #[]) ∧
      DSt W Br Ba Bb Bo base aF cF (exL p Wd D nm) st Wd ls nm D ((flushO s).map (evR (exR p Wd D nm) Wd D st)) (-1) w' := by
  cases hb : s.1 with
  | none =>
    have e : bestV s = -1 := by simp [bestV, hb]
    have e2 : flushO s = s.2 := by simp [flushO, hb]
    rw [e] at h; rw [e2]
    exact flush_neg w hl h
  | some b =>
    have e : bestV s = b := by simp [bestV, hb]
    have e2 : flushO s = s.2 ++ [b] := by simp [flushO, hb]
    have hbl := hs b hb
    have hFl : (exL p Wd D nm).length = exc p Wd := by simp [exL]
    have hu : 1 ≤ Wd * D := Nat.mul_pos hW.1 hD.1
    have hu2 : Wd * D ≤ 100000 := Nat.mul_le_mul hW.2 hD.2
    rw [e] at h; rw [e2, List.map_append, List.map_singleton, ← evF_evR p Wd D nm st b hbl hu]
    have hx : -2100000000 ≤ ((exL p Wd D nm).getD b (0, 0)).1 ∧ ((exL p Wd D nm).getD b (0, 0)).1 ≤ 2100000000 ∧ 1 ≤ ((exL p Wd D nm).getD b (0, 0)).2 ∧ ((exL p Wd D nm).getD b (0, 0)).2 ≤ 100000 := by
      rw [exL_get p Wd D nm b hbl]
      have h1 := low_bd ((exR p Wd D nm).getD b 0) (Wd * D) hu
      have h2 : (exR p Wd D nm).getD b 0 = exn p Wd D nm (Wd + b) := by simp [exR, hbl]
      obtain ⟨hB1, hB2, hB3⟩ := exn_bd p ho Wd D nm (Wd + b) hW.2 hD.2 hnm (by omega) (by unfold exc at hbl; omega)
      rw [h2] at h1 ⊢
      unfold exn at h1 ⊢
      omega
    have := flush_pos b w hl h (by rw [hFl]; exact hbl) (by rw [hFl]; unfold exc; omega) hx hst (by omega) (by simpa using hs2)
    simpa using this

set_option maxHeartbeats 800000 in
theorem Detected_bad (a : Option Addr) (n cap : Nat) (p : List Int) (st wd ls nm dn : Int) (w : World) (hn : n = p.length) (hm : n ≤ maxLen) (h : At w a (ints p)) (hb : nm ≤ 9223372036854775807 ∧ dn ≤ 9223372036854775807) (hf : faultOf p st wd ls nm dn ≠ 0) :
    Calls Try.prog 30 #[.slice a n cap, .agg #[.int .i64 st, .int .i64 wd, .int .i64 ls, .int .i64 nm, .int .i64 dn]] w fun e w' => e = .returned (.tuple #[.slice none 0 0, .int .i64 (faultOf p st wd ls nm dn)]) ∧ w.grownBy w' none := by
  have hcc := cells5 (heap_alloc_new w (.cells #[.int .i64 st, .int .i64 wd, .int .i64 ls, .int .i64 nm, .int .i64 dn] 72))
  have HX := Lib.hid (fault_any a n cap p st wd ls nm dn (w.alloc (.cells #[.int .i64 st, .int .i64 wd, .int .i64 ls, .int .i64 nm, .int .i64 dn] 72)) hn hm (h.alloc _) hb)
  generalize faultOf p st wd ls nm dn = f at *
  have hf' : (f != 0) = true := by simpa using hf
  clear hf h hn
  go_enter Try.func30, Try.ntmps30
  go_wp2_with fail
  refine HX.out.mono ?_
  clear HX hcc
  rintro e w2 ⟨rfl, hg⟩
  go_wp2_with fail
  go_ret2
  exact ⟨rfl, (World.grownBy_alloc w _ none).trans hg⟩

/-- what Detected leaves -/
def DetPost (w : World) (E : List (Int × Int)) (e : Ending) (w' : World) : Prop :=
  w.grownBy w' none ∧ if 100 < E.length then e = .returned (.tuple #[.slice none 0 0, .int .i64 2]) else ∃ a' c', e = .returned (.tuple #[.slice a' E.length c', .int .i64 0]) ∧ w'.ownsRow w.heap.size 32 2 (.slice a' E.length c') E.length (prs E)

set_option maxRecDepth 100000 in
set_option maxHeartbeats 2000000 in
theorem Detected_good (a : Option Addr) (n cap : Nat) (p : List Int) (st ls nm : Int) (W D : Nat) (w : World) (hn : n = p.length) (hcap : n ≤ cap) (hc2 : cap ≤ maxLen) (hm : n ≤ 5000) (ho : p.all okR = true) (h : At w a (ints p))
    (hst : 1 ≤ st ∧ st ≤ 100) (hls : 1 ≤ ls ∧ ls ≤ 10000) (hW : 1 ≤ W ∧ W ≤ 100) (hD : 1 ≤ D ∧ D ≤ 1000) (hnm : 0 ≤ nm ∧ nm ≤ 10000) (hf : faultOf p st W ls nm D = 0) :
    Calls Try.prog 30 #[.slice a n cap, .agg #[.int .i64 st, .int .i64 W, .int .i64 ls, .int .i64 nm, .int .i64 D]] w (DetPost w (evsOf p W D nm ls st)) := by
  have h0 := heap_alloc_new w (.cells #[.int .i64 st, .int .i64 W, .int .i64 ls, .int .i64 nm, .int .i64 D] 72)
  have hcc := cells5 h0
  have HX := Lib.hid (fault_any a n cap p st W ls nm D (w.alloc (.cells #[.int .i64 st, .int .i64 W, .int .i64 ls, .int .i64 nm, .int .i64 D] 72)) hn (by unfold maxLen at *; omega) (h.alloc _) (by omega))
  rw [hf] at HX
  have H0 := Lib.hid h0
  clear h0
  subst hn
  have hm' := hm
  go_enter Try.func30, Try.ntmps30
  go_wp2_with fail
  refine HX.out.mono ?_
  clear HX hcc
  rintro e w2 ⟨rfl, hg⟩
  have hb := (hg.block _ (lt_of_block H0.out) (by simp)).trans H0.out
  have hg0 : w.grownBy w2 none := (World.grownBy_alloc w _ none).trans hg
  have hcc := cells5 (blk_apart hb (World.grownBy_alloc w2 (.cells #[.slice none 0 0] 26) none) (by simp))
  have hat := (h.grown hg0 (by simp)).alloc (.cells #[.slice none 0 0] 26)
  clear H0 hg
  go_wp2_with fail
  refine (excess_any a _ cap p st ls nm W D _ rfl hcap hc2 hm ho hat hW hD hnm).mono ?_
  rintro e w3 ⟨aF, cF, rfl, hownF, hg3⟩
  have hsz2 : w.heap.size < w2.heap.size := lt_of_block hb
  have hBo := (hg3.block _ (lt_of_block (heap_alloc_new w2 (.cells #[.slice none 0 0] 26))) (by simp)).trans (heap_alloc_new w2 (.cells #[.slice none 0 0] 26))
  have hBr := blk_apart (blk_apart hb (World.grownBy_alloc w2 (.cells #[.slice none 0 0] 26) none) (by simp)) hg3 (by simp)
  have hsz3 := lt_of_block hBo
  have hgW3 : w.grownBy w3 none := (hg0.trans (World.grownBy_alloc w2 _ none)).trans hg3
  have hFl : (exL p W D nm).length = exc p W := by simp [exL]
  have hRl : (exR p W D nm).length = exc p W := by simp [exR]
  have hexc : exc p W ≤ 5001 := by unfold exc; omega
  have hlay : DLay w w.heap.size w3.heap.size (w3.heap.size + 1) w2.heap.size (w3.heap.size + 2) aF :=
    ⟨by omega, by omega, by omega, by omega, by omega, fun q hq => by have := own_lt hownF q hq; simp at this; omega⟩
  obtain ⟨w5, hw5⟩ : ∃ w5, w5 = (w3.alloc (.cells #[.slice aF (exL p W D nm).length cF] 85)).alloc (.cells #[.int .i64 (-1)] 3) := ⟨_, rfl⟩
  have hD5 : DSt w w.heap.size w3.heap.size (w3.heap.size + 1) w2.heap.size (w3.heap.size + 2) aF cF (exL p W D nm) st W ls nm D [] (-1) w5 := by
    have hg35 : w3.grownBy w5 none := by rw [hw5]; exact grown_alloc_r (World.grownBy_alloc w3 _ none) _
    refine ⟨blk_apart hBr hg35 (by simp), ?_, ?_, ⟨none, 0, blk_apart hBo hg35 (by simp), World.ownsRow_nil _ _ _ _⟩, (own_at hownF).grown hg35 (by simp), hgW3.trans hg35, by rw [hw5]; simp⟩
    · rw [hw5]; exact (heap_alloc_old _ _ (by simp)).trans (heap_alloc_new w3 _)
    · rw [hw5]; have := heap_alloc_new (w3.alloc (.cells #[.slice aF (exL p W D nm).length cF] 85)) (.cells #[.int .i64 (-1)] 3); simpa using this
  have HW5 := Lib.hid hw5
  have HD5 := Lib.hid hD5
  have HR0 : Hid ((pst (exR p W D nm) (ls * (W * D : Nat)) 0) = (none, [])) := rfl
  have HF := Lib.hid hFl
  have HRl := Lib.hid hRl
  have hFb : (exL p W D nm).length ≤ 5001 := by rw [hFl]; exact hexc
  have hlt3 : w2.heap.size < w3.heap.size := hsz3
  clear hcc hw5 hD5 hBo hBr hb hat hownF hg3 hFl hRl hsz3
  go_wp2_with fail
  rw [← HW5.out]
  have hca := cells1 HD5.out.a
  go_wp2_with fail
  go_loopw [25] (DRel w w.heap.size w3.heap.size (w3.heap.size + 1) w2.heap.size (w3.heap.size + 2) aF cF p W D st ls nm) (fun i _ => (exL p W D nm).length - (intOf i).toNat)
  case atStart => exact ⟨0, by omega, rfl, HD5.out⟩
  case round =>
    clear hca HD5
    obtain ⟨k, hk, rfl, hst'⟩ := hrel
    have hcc := cells5 hst'.r
    have hcb := cells1 hst'.b
    have hfb := free1 hst'.b
    have hca := cells1 hst'.a
    have hszr := hst'.sz
    have hne1 : w.heap.size < wr.heap.size := by omega
    have hne2 : w2.heap.size < wr.heap.size := by omega
    have hne3 : w3.heap.size < wr.heap.size := by omega
    have hne4 : w3.heap.size + 1 < wr.heap.size := by omega
    have hu : 1 ≤ W * D := Nat.mul_pos hW.1 hD.1
    have hlen2 := pst_len2 (exR p W D nm) (ls * (W * D : Nat)) k
    have hbst : ∀ b, (pst (exR p W D nm) (ls * (W * D : Nat)) k).1 = some b → b < k := pst_lt _ _ k
    by_cases hlt : k < (exL p W D nm).length
    · have hlt' : k < exc p W := by rw [← HF.out]; exact hlt
      obtain ⟨bF, oF, rfl, hp1, hp2⟩ := hst'.at_.pair hlt
      have hxb := exL_bd p W D nm ho hW hD hnm k hlt'
      have HX1 : Hid (((exL p W D nm).getD k (0, 0)).1 < ls * ((exL p W D nm).getD k (0, 0)).2 ↔ (exR p W D nm).getD k 0 < ls * (W * D : Nat)) := by
        show _ ↔ _; rw [exL_get p W D nm k hlt']; exact low_lt _ _ _ hu
      have HST := Lib.hid hst'
      have HBS := Lib.hid hbst
      obtain ⟨x, HXQ⟩ : ∃ x, Hid ((exL p W D nm).getD k (0, 0) = x) := ⟨_, rfl⟩
      rw [HXQ.out] at hp1 hp2 hxb HX1
      have hm := mul_bd ls x.2 10000 100000 (by omega) (by omega) (by omega)
      clear hst' hbst
      by_cases hc : x.1 < ls * x.2
      · have hP := pst_low _ _ _ (HX1.out.1 hc)
        have HP := Lib.hid hP
        clear hP
        go_wp2_with fail
        refine (flush_any (pst (exR p W D nm) (ls * (W * D : Nat)) k) _ hlay ho hm' hW hD hnm hst (fun b hb => by have := HBS.out b hb; omega) (by omega) (HST.out.quiet (World.grownBy_alloc _ _ _))).mono ?_
        rintro e w6 ⟨rfl, hst6⟩
        have H6 := Lib.hid hst6
        clear hst6
        go_wp2_with fail
        exact ⟨⟨k + 1, by omega, by go_num, by rw [HP.out]; exact H6.out⟩, by simp [intOf]; omega⟩
      · have hnl : ¬ (exR p W D nm).getD k 0 < ls * (W * D : Nat) := fun h => hc (HX1.out.2 h)
        have HNL := Lib.hid hnl
        clear hnl
        cases hbs : (pst (exR p W D nm) (ls * (W * D : Nat)) k).1 with
        | none =>
          have e1 : bestV (pst (exR p W D nm) (ls * (W * D : Nat)) k) = -1 := by unfold bestV; rw [hbs]
          rw [e1] at hcb
          have HP := Lib.hid (pst_none _ _ _ HNL.out hbs)
          clear e1 hbs
          go_wp2_with fail
          go_quiet (fail)
          go_wp2_with fail
          refine ⟨⟨k + 1, by omega, by go_num, ?_⟩, by simp [intOf]; omega⟩
          rw [HP.out]
          exact ((HST.out.quiet (World.grownBy_alloc _ _ _)).quiet (grown_drewN (grown_refl _ _) _)).best hlay k
        | some b =>
          have e1 : bestV (pst (exR p W D nm) (ls * (W * D : Nat)) k) = b := by unfold bestV; rw [hbs]
          rw [e1] at hcb
          have hbk := HBS.out b hbs
          have HE1 := Lib.hid e1
          have HB := Lib.hid hbs
          obtain ⟨bF', oF', hab, hy1, hy2⟩ := HST.out.at_.pair (k := b) (by omega)
          cases hab
          have hyb := exL_bd p W D nm ho hW hD hnm b (by omega)
          have HX2 : Hid (((exL p W D nm).getD b (0, 0)).1 * ((exL p W D nm).getD k (0, 0)).2 < ((exL p W D nm).getD k (0, 0)).1 * ((exL p W D nm).getD b (0, 0)).2 ↔ (exR p W D nm).getD b 0 < (exR p W D nm).getD k 0) := by
            show _ ↔ _; rw [exL_get p W D nm k hlt', exL_get p W D nm b (by omega)]; exact low_cmp _ _ _ hu
          obtain ⟨y, HYQ⟩ : ∃ y, Hid ((exL p W D nm).getD b (0, 0) = y) := ⟨_, rfl⟩
          rw [HXQ.out, HYQ.out] at HX2
          rw [HYQ.out] at hy1 hy2 hyb
          have hbF := (hlay.f _ rfl).1
          simp only at hbF
          have hbFl : bF < wr.heap.size := by omega
          have h0b : (0 : Int) ≤ (b : Int) := by omega
          have hbi : (b : Int) < ((exL p W D nm).length : Int) := by omega
          have hbl : b < (exL p W D nm).length := by omega
          clear e1 hbs
          have S1 := heap_alloc_new wr (.cells #[.int .i64 x.1, .int .i64 x.2] 70)
          have HS1 := Lib.hid S1
          clear S1
          by_cases hup : (exR p W D nm).getD b 0 < (exR p W D nm).getD k 0
          all_goals
            have HUP := Lib.hid hup
            have hcm := HX2.out
            have hcm2 := cmp3_pos (x.1 * y.2) (y.1 * x.2)
            have HCM : Hid ((0 < cmp3 (x.1 * y.2) (y.1 * x.2)) ↔ (exR p W D nm).getD b 0 < (exR p W D nm).getD k 0) := hcm2.trans hcm
            clear hcm hcm2 hup
            go_wp2_with fail
            go_region_held3 (fun w' => w'.cell? ⟨w3.heap.size + 1, 0, none⟩ = some (.int .i64 b) ∧ w'.cell? ⟨w3.heap.size, 0, none⟩ = some (.slice (some ⟨bF, oF, none⟩) (exL p W D nm).length cF) ∧ w'.cell? ⟨wr.heap.size, 0, none⟩ = some (.int .i64 x.1) ∧ w'.cell? ⟨wr.heap.size, 1, none⟩ = some (.int .i64 x.2) ∧ w'.cell? ⟨bF, oF + b * 2, none⟩ = some (.int .i64 y.1) ∧ w'.cell? ⟨bF, oF + b * 2 + 1, none⟩ = some (.int .i64 y.2)) (go_keep) (first | (go_at_call 43; go_must (refine (compareI_any x.1 y.1 x.2 y.2 _ (by omega) (by omega) (by omega) (by omega)).mono ?_); rintro e w7 ⟨rfl, hg7⟩; have hst7 := (HST.out.quiet (World.grownBy_alloc wr (.cells #[.int .i64 x.1, .int .i64 x.2] 70) none)).quiet (show World.grownBy _ w7 none from ⟨hg7.os, hg7.tape, hg7.output, hg7.size, hg7.block⟩); have k1 := cells1 hst7.b; have k2 := cells1 hst7.a; have k3 := cells2 ((hg7.block _ (lt_of_block HS1.out) (by simp)).trans HS1.out); have k4 := hst7.at_.pair' (k := b) hbl; rw [HE1.out] at k1; rw [HYQ.out] at k4; have H7 := Lib.hid hst7; clear hst7))
            have hfz7 := free1 H7.out.b
          · have hpos : 0 < cmp3 (x.1 * y.2) (y.1 * x.2) := HCM.out.2 HUP.out
            have HP := Lib.hid (pst_up _ _ _ _ (Int.not_lt.2 HNL.out) HB.out HUP.out)
            go_wp2_with fail
            refine ⟨⟨k + 1, by omega, by go_num, ?_⟩, by simp [intOf]; omega⟩
            rw [HP.out]
            exact H7.out.best hlay k
          · have hpos : ¬ 0 < cmp3 (x.1 * y.2) (y.1 * x.2) := fun h => Int.not_lt.2 HUP.out (HCM.out.1 h)
            have hpos' : decide (0 < cmp3 (x.1 * y.2) (y.1 * x.2)) = false := decide_eq_false hpos
            have HP := Lib.hid (pst_same _ _ _ _ (Int.not_lt.2 HNL.out) HB.out (Int.not_lt.2 HUP.out))
            go_wp2_with fail
            refine ⟨⟨k + 1, by omega, by go_num, ?_⟩, by simp [intOf]; omega⟩
            rw [HP.out]
            exact H7.out
    · have hk2 : k = exc p W := by have := HF.out; omega
      have HE : Hid ((flushO (pst (exR p W D nm) (ls * (W * D : Nat)) k)).map (evR (exR p W D nm) W D st) = evsOf p W D nm ls st) := by
        show _ = _; rw [hk2, ← HRl.out, flush_pst]; rfl
      have HST := Lib.hid hst'
      have HBS := Lib.hid hbst
      clear hst' hbst
      go_wp2_with fail
      refine (flush_any (pst (exR p W D nm) (ls * (W * D : Nat)) k) _ hlay ho hm' hW hD hnm hst (fun b hb => by have := HBS.out b hb; omega) (by omega) HST.out).mono ?_
      rw [HE.out]
      rintro e w6 ⟨rfl, hst6⟩
      generalize evsOf p W D nm ls st = E at *
      obtain ⟨ao, co, hBo6, hown6⟩ := hst6.o
      have hco := cells1 hBo6
      have hg6 := hst6.g
      by_cases hE : 100 < E.length
      · clear hst6 hcc hcb hfb hca
        go_wp2_with fail
        go_ret2
        exact ⟨hg6, by rw [if_pos hE]; rfl⟩
      · clear hst6 hcc hcb hfb hca
        go_wp2_with fail
        go_ret2
        exact ⟨hg6, by rw [if_neg hE]; exact ⟨ao, co, rfl, own_base hown6 (by have := hgW3.size; omega)⟩⟩
end Go.Proofs.Ytjflmenfinohcaa.Hd

/- Walks: what is wrong with events, in package trace and in the reference. -/
namespace Go.Proofs.Ytjflmenfinohcaa.Hd
set_option linter.unusedVariables false
set_option linter.unusedSimpArgs false
open Go.RowKit

theorem cell_lt {w : World} {x : Addr} {v : Value} (h : w.cell? x = some v) : x.block < w.heap.size := by
  unfold World.cell? at h
  split at h
  · rename_i c t q hx
    exact lt_of_block hx
  · cases h

/-- what is wrong with event k -/
def evAt (l : List (Int × Int)) (k : Nat) : Int := if !(inB (l.getD k (0, 0)).1 0 1000000 && okR (l.getD k (0, 0)).2) then 1 else if 0 < k ∧ (l.getD k (0, 0)).1 < (l.getD (k - 1) (0, 0)).1 then 7 else 0
def evErrs (l : List (Int × Int)) : List Int := (List.range l.length).map (evAt l)
def evFault (l : List (Int × Int)) : Int := if 100 < l.length then 2 else firstErr (evErrs l)
def EvRel (l : List (Int × Int)) (w : World) (v10 : Value) (wr : World) : Prop := ∃ k : Nat, k ≤ l.length ∧ Hid (firstErr ((evErrs l).drop k) = firstErr (evErrs l)) ∧ v10 = .int .i64 k ∧ w.grownBy wr none

set_option maxHeartbeats 1000000 in
theorem EventsFault_any (a : Option Addr) (n cap : Nat) (l : List (Int × Int)) (w : World) (hn : n = l.length) (hm : n ≤ maxLen) (h : At w a (prs l)) :
    Calls Try.prog 11 #[.slice a n cap] w fun e w' => e = .returned (.int .i64 (evFault l)) ∧ w.grownBy w' none := by
  subst hn
  unfold maxLen at hm
  by_cases hl : 100 < l.length
  · have H : Hid (evFault l = 2) := by show evFault l = 2; rw [evFault, if_pos hl]
    go_enter Try.func11, Try.ntmps11
    go_wp2
    go_ret
    exact ⟨ret_int H.out.symm, grown_refl _ _⟩
  · have H : Hid (evFault l = firstErr (evErrs l)) := by show evFault l = _; rw [evFault, if_neg hl]
    go_enter Try.func11, Try.ntmps11
    go_wp2_with fail
    go_loopw [10] (EvRel l w) (fun i _ => l.length - (intOf i).toNat)
    case atStart => exact ⟨0, Nat.zero_le _, rfl, rfl, grown_refl _ _⟩
    case round =>
      obtain ⟨k, hk, hf, rfl, hg⟩ := hrel
      by_cases hlt : k < l.length
      · have hat := h.grown hg (by simp)
        obtain ⟨b, off, rfl, h1, h2⟩ := hat.pair hlt
        have hbl := cell_lt h1
        have HS := Lib.hid (firstErr_drop (evErrs l) k (by simp [evErrs]; exact hlt))
        have HA : Hid ((evErrs l).getD k 0 = evAt l k) := by show _ = _; simp [evErrs, hlt]
        have HE : Hid (evAt l k = if !(inB (l.getD k (0, 0)).1 0 1000000 && okR (l.getD k (0, 0)).2) then 1 else if 0 < k ∧ (l.getD k (0, 0)).1 < (l.getD (k - 1) (0, 0)).1 then 7 else 0) := rfl
        have h3 : 0 < k → wr.cell? ⟨b, off + (k - 1) * 2, none⟩ = some (.int .i64 (l.getD (k - 1) (0, 0)).1) := fun hk0 => (At.pair' hat (k := k - 1) (by omega)).1
        generalize l.getD k (0, 0) = q at *
        generalize (l.getD (k - 1) (0, 0)).1 = p at *
        have hgR := grown_alloc_r hg (.cells #[.int .i64 q.1, .int .i64 q.2] 32)
        have hki : (k : Int) < (l.length : Int) := by omega
        have hq0 := heap_alloc_new wr (.cells #[.int .i64 q.1, .int .i64 q.2] 32)
        clear hat h
        cases hA : inB q.1 0 1000000
        · go_wp2_with fail
          refine (in_any _ _ _ _).mono ?_
          rintro e w1 ⟨rfl, rfl⟩
          go_wp2_with fail
          go_ret
          exact ⟨ret_int (by rw [H.out, ← hf.out, HS.out, HA.out, HE.out]; simp [hA]), hgR⟩
        · cases hB : okR q.2
          · have hB' : inB q.2 (-10000) 10000 = false := hB
            go_wp2_with fail
            refine (in_any _ _ _ _).mono ?_
            rintro e w1 ⟨rfl, rfl⟩
            go_wp2_with fail
            refine (in_any _ _ _ _).mono ?_
            rintro e w1 ⟨rfl, rfl⟩
            go_wp2_with fail
            go_ret
            exact ⟨ret_int (by rw [H.out, ← hf.out, HS.out, HA.out, HE.out]; simp [hA, hB]), hgR⟩
          · have hB' : inB q.2 (-10000) 10000 = true := hB
            rcases Nat.eq_zero_or_pos k with h0 | h0
            · subst h0
              simp only [Nat.zero_mul, Nat.add_zero] at h1 h2
              clear h3
              go_wp2_with fail
              refine (in_any _ _ _ _).mono ?_
              rintro e w1 ⟨rfl, rfl⟩
              go_wp2_with fail
              refine (in_any _ _ _ _).mono ?_
              rintro e w1 ⟨rfl, rfl⟩
              go_wp2_with fail
              go_quiet (fail)
              go_wp2_with fail
              exact ⟨⟨1, by omega, (by show _ = _; have := HS.out; rw [HA.out, HE.out] at this; simp [hA, hB] at this; first | exact this.symm | simpa using this.symm), by go_num, grown_drewN hgR _⟩, by simp [intOf]; omega⟩
            · have h3' := h3 h0
              clear h3
              by_cases hp : q.1 < p
              · go_wp2_with fail
                refine (in_any _ _ _ _).mono ?_
                rintro e w1 ⟨rfl, rfl⟩
                go_wp2_with fail
                refine (in_any _ _ _ _).mono ?_
                rintro e w1 ⟨rfl, rfl⟩
                go_wp2_with fail
                go_quiet (fail)
                go_wp2_with fail
                go_ret
                exact ⟨ret_int (by rw [H.out, ← hf.out, HS.out, HA.out, HE.out]; simp [hA, hB, h0, hp]), grown_drewN hgR _⟩
              · go_wp2_with fail
                refine (in_any _ _ _ _).mono ?_
                rintro e w1 ⟨rfl, rfl⟩
                go_wp2_with fail
                refine (in_any _ _ _ _).mono ?_
                rintro e w1 ⟨rfl, rfl⟩
                go_wp2_with fail
                go_quiet (fail)
                go_wp2_with fail
                exact ⟨⟨k + 1, by omega, (by show _ = _; have := HS.out; rw [HA.out, HE.out] at this; simp [hA, hB, h0, hp] at this; rw [← hf.out, ← this]), by go_num, grown_drewN hgR _⟩, by simp [intOf]; omega⟩
      · go_wp2_with fail
        go_ret
        exact ⟨ret_int (by rw [H.out, ← hf.out, List.drop_of_length_le (by simp [evErrs]; omega)]; rfl), hg⟩

set_option maxHeartbeats 1000000 in
theorem eventsFault_any (a : Option Addr) (n cap : Nat) (l : List (Int × Int)) (w : World) (hn : n = l.length) (hm : n ≤ maxLen) (h : At w a (prs l)) :
    Calls Try.prog 33 #[.slice a n cap] w fun e w' => e = .returned (.int .i64 (evFault l)) ∧ w.grownBy w' none := by
  subst hn
  unfold maxLen at hm
  by_cases hl : 100 < l.length
  · have H : Hid (evFault l = 2) := by show evFault l = 2; rw [evFault, if_pos hl]
    go_enter Try.func33, Try.ntmps33
    go_wp2
    go_ret
    exact ⟨ret_int H.out.symm, grown_refl _ _⟩
  · have H : Hid (evFault l = firstErr (evErrs l)) := by show evFault l = _; rw [evFault, if_neg hl]
    go_enter Try.func33, Try.ntmps33
    go_wp2_with fail
    go_loopw [10] (EvRel l w) (fun i _ => l.length - (intOf i).toNat)
    case atStart => exact ⟨0, Nat.zero_le _, rfl, rfl, grown_refl _ _⟩
    case round =>
      obtain ⟨k, hk, hf, rfl, hg⟩ := hrel
      by_cases hlt : k < l.length
      · have hat := h.grown hg (by simp)
        obtain ⟨b, off, rfl, h1, h2⟩ := hat.pair hlt
        have hbl := cell_lt h1
        have HS := Lib.hid (firstErr_drop (evErrs l) k (by simp [evErrs]; exact hlt))
        have HA : Hid ((evErrs l).getD k 0 = evAt l k) := by show _ = _; simp [evErrs, hlt]
        have HE : Hid (evAt l k = if !(inB (l.getD k (0, 0)).1 0 1000000 && okR (l.getD k (0, 0)).2) then 1 else if 0 < k ∧ (l.getD k (0, 0)).1 < (l.getD (k - 1) (0, 0)).1 then 7 else 0) := rfl
        have h3 : 0 < k → wr.cell? ⟨b, off + (k - 1) * 2, none⟩ = some (.int .i64 (l.getD (k - 1) (0, 0)).1) := fun hk0 => (At.pair' hat (k := k - 1) (by omega)).1
        generalize l.getD k (0, 0) = q at *
        generalize (l.getD (k - 1) (0, 0)).1 = p at *
        have hgR := grown_alloc_r hg (.cells #[.int .i64 q.1, .int .i64 q.2] 32)
        have hki : (k : Int) < (l.length : Int) := by omega
        have hq0 := heap_alloc_new wr (.cells #[.int .i64 q.1, .int .i64 q.2] 32)
        clear hat h
        cases hA : inB q.1 0 1000000
        · go_wp2_with fail
          refine (out_any _ _ _ _).mono ?_
          rintro e w1 ⟨rfl, rfl⟩
          go_wp2_with fail
          go_ret
          exact ⟨ret_int (by rw [H.out, ← hf.out, HS.out, HA.out, HE.out]; simp [hA]), hgR⟩
        · cases hB : okR q.2
          · go_wp2_with fail
            refine (out_any _ _ _ _).mono ?_
            rintro e w1 ⟨rfl, rfl⟩
            go_wp2_with fail
            refine (isreading_any _ _).mono ?_
            rintro e w1 ⟨rfl, rfl⟩
            go_wp2_with fail
            go_ret
            exact ⟨ret_int (by rw [H.out, ← hf.out, HS.out, HA.out, HE.out]; simp [hA, hB]), hgR⟩
          · rcases Nat.eq_zero_or_pos k with h0 | h0
            · subst h0
              simp only [Nat.zero_mul, Nat.add_zero] at h1 h2
              clear h3
              go_wp2_with fail
              refine (out_any _ _ _ _).mono ?_
              rintro e w1 ⟨rfl, rfl⟩
              go_wp2_with fail
              refine (isreading_any _ _).mono ?_
              rintro e w1 ⟨rfl, rfl⟩
              go_wp2_with fail
              go_quiet (fail)
              go_wp2_with fail
              exact ⟨⟨1, by omega, (by show _ = _; have := HS.out; rw [HA.out, HE.out] at this; simp [hA, hB] at this; first | exact this.symm | simpa using this.symm), by go_num, grown_drewN hgR _⟩, by simp [intOf]; omega⟩
            · have h3' := h3 h0
              clear h3
              by_cases hp : q.1 < p
              · go_wp2_with fail
                refine (out_any _ _ _ _).mono ?_
                rintro e w1 ⟨rfl, rfl⟩
                go_wp2_with fail
                refine (isreading_any _ _).mono ?_
                rintro e w1 ⟨rfl, rfl⟩
                go_wp2_with fail
                go_quiet (fail)
                go_wp2_with fail
                go_ret
                exact ⟨ret_int (by rw [H.out, ← hf.out, HS.out, HA.out, HE.out]; simp [hA, hB, h0, hp]), grown_drewN hgR _⟩
              · go_wp2_with fail
                refine (out_any _ _ _ _).mono ?_
                rintro e w1 ⟨rfl, rfl⟩
                go_wp2_with fail
                refine (isreading_any _ _).mono ?_
                rintro e w1 ⟨rfl, rfl⟩
                go_wp2_with fail
                go_quiet (fail)
                go_wp2_with fail
                exact ⟨⟨k + 1, by omega, (by show _ = _; have := HS.out; rw [HA.out, HE.out] at this; simp [hA, hB, h0, hp] at this; rw [← hf.out, ← this]), by go_num, grown_drewN hgR _⟩, by simp [intOf]; omega⟩
      · go_wp2_with fail
        go_ret
        exact ⟨ret_int (by rw [H.out, ← hf.out, List.drop_of_length_le (by simp [evErrs]; omega)]; rfl), hg⟩
end Go.Proofs.Ytjflmenfinohcaa.Hd

/- Walks: the generator of events; slices.Clone of events. -/
namespace Go.Proofs.Ytjflmenfinohcaa.Hd
set_option linter.unusedVariables false
set_option linter.unusedSimpArgs false
open Go.RowKit

end Go.Proofs.Ytjflmenfinohcaa.Hd
