/- Parts of the proof, in order. -/
import Derived.Test.YtjflmenfinohcaaMEventsMatched7
import Derived.Test.YtjflmenfinohcaaGrid

/- Walk: the table of scores (package trace). -/
namespace Go.Proofs.Ytjflmenfinohcaa.Hd
set_option linter.unusedVariables false
set_option linter.unusedSimpArgs false
open Go.RowKit

theorem info_score : ∃ i z, Try.prog.info? 80 = some i ∧ i.zero = some z ∧ i.size = 2 ∧ i.bytes = 16 ∧ z.cells = #[.int .i64 0, .int .i64 0] := by
  obtain ⟨i, hi, hz, h1, h2⟩ := info_parts (show (Try.prog.info? 80).map (fun i => (i.zero, i.size, i.bytes)) = some (some (.agg #[.int .i64 0, .int .i64 0]), 2, 16) by kernel_rfl)
  exact ⟨i, _, hi, hz, h1, h2, rfl⟩
theorem info_scores : (Try.prog.info? 81).map (fun i => (i.zero, i.size, i.bytes)) = some (some (.slice none 0 0), 1, 24) := by kernel_rfl

def vI (s : Int × Int) : Value × Value := (.int .i64 s.1, .int .i64 s.2)
/-- what is done when row i is done from c on -/
def DoneT (A B : List (Int × Int)) (near : Int) (V : Nat → Nat → Value × Value) (i c : Nat) : Prop :=
  ∀ i' k', i' ≤ A.length → k' ≤ B.length → (i < i' ∨ (i = i' ∧ c ≤ k') ∨ i' = A.length ∨ k' = B.length) → V i' k' = vI (scI A B near i' k')

theorem DoneT.start (A B : List (Int × Int)) (near : Int) : DoneT A B near (fun _ _ => vI (0, 0)) A.length 0 := by
  intro i' k' hi hk h
  by_cases e : i' = A.length
  · subst e; rw [scI_end1]
  · obtain rfl : k' = B.length := by omega
    rw [scI_end2]
theorem DoneT.row {A B : List (Int × Int)} {near : Int} {V : Nat → Nat → Value × Value} {i : Nat} (h : DoneT A B near V (i + 1) 0) : DoneT A B near V i B.length := fun i' k' hi hk h1 => h i' k' hi hk (by omega)
theorem DoneT.put {A B : List (Int × Int)} {near : Int} {V : Nat → Nat → Value × Value} {i c : Nat} (h : DoneT A B near V i (c + 1)) (hi0 : i < A.length) (hc0 : c < B.length) : DoneT A B near (fun i' k' => if i' = i ∧ k' = c then vI (scI A B near i c) else V i' k') i c := by
  intro i' k' hi hk h1
  by_cases e : i' = i ∧ k' = c
  · obtain ⟨rfl, rfl⟩ := e; simp
  · simp only [if_neg e]; exact h i' k' hi hk (by omega)

section
variable (w : World) (a b : Option Addr) (ca cb : Nat) (A B : List (Int × Int)) (near : Int)
def mcells (g : Nat) : Array Value := #[.slice a A.length ca, .slice b B.length cb, .int .i64 near, .slice (some ⟨g, 0, none⟩) (A.length + 1) (A.length + 1)]
/-- what stays during the loops -/
def NMW (W : World) (wr : World) : Prop :=
  W.grownBy wr none ∧ wr.heap[W.heap.size]? = some (.cells #[.slice none 0 0, .slice none 0 0, .int .i64 0, .slice none 0 0] 75 (0, 0)) ∧
    wr.heap[W.heap.size + 2]? = some (.cells (mcells a b ca cb A B near (W.heap.size + 1)) 75 (0, 0))
def NM1 (v26 : Value) (wr : World) : Prop :=
  ∃ (i : Nat) (R : Nat → Nat), i ≤ A.length + 1 ∧ v26 = .int .i64 i ∧ NMW a b ca cb A B near w wr ∧
    Hid (Grid wr 81 80 (w.heap.size + 3) (w.heap.size + 1) R (A.length + 1) (B.length + 1) (fun j => decide (j < i)) (fun _ _ => vI (0, 0)))
def NMG (R : Nat → Nat) (i c : Nat) (wr : World) : Prop :=
  NMW a b ca cb A B near w wr ∧ ∃ V, Hid (Grid wr 81 80 (w.heap.size + 3) (w.heap.size + 1) R (A.length + 1) (B.length + 1) (fun _ => true) V) ∧ Hid (DoneT A B near V i c)
def NM2 (R : Nat → Nat) (v9 : Value) (wr : World) : Prop :=
  ∃ (z : Int) (i : Nat), v9 = .int .i64 z ∧ Hid (z = (i : Int) - 1) ∧ i ≤ A.length ∧ NMG w a b ca cb A B near R i 0 wr
def NM3 (R : Nat → Nat) (i : Nat) (v10 : Value) (wr : World) : Prop :=
  ∃ (z : Int) (c : Nat), v10 = .int .i64 z ∧ Hid (z = (c : Int) - 1) ∧ c ≤ B.length ∧ NMG w a b ca cb A B near R i c wr
end

/-- the table is made -/
def NewPost (a b : Option Addr) (ca cb : Nat) (A B : List (Int × Int)) (near : Int) (w : World) (e : Ending) (w' : World) : Prop :=
  ∃ g R, e = .returned (.agg #[.slice a A.length ca, .slice b B.length cb, .int .i64 near, .slice (some ⟨g, 0, none⟩) (A.length + 1) (A.length + 1)]) ∧ MRd w' g R A.length B.length (scI A B near) ∧ w.grownBy w' none

set_option maxRecDepth 100000 in
set_option maxHeartbeats 8000000 in
theorem newmatcher_any (a b : Option Addr) (ca cb : Nat) (A B : List (Int × Int)) (near : Int) (w : World)
    (hA : At w a (prs A)) (hB : At w b (prs B)) (hla : A.length ≤ 100) (hlb : B.length ≤ 100)
    (hAx : ∀ i, i < A.length → 0 ≤ atI A i ∧ atI A i ≤ 1000000) (hBx : ∀ i, i < B.length → 0 ≤ atI B i ∧ atI B i ≤ 1000000) :
    Calls Try.prog 34 #[.slice a A.length ca, .slice b B.length cb, .int .i64 near] w (NewPost a b ca cb A B near w) := by
  have HAx := Lib.hid hAx
  have HBx := Lib.hid hBx
  have Hf := Lib.hid (scI_bd A B near hla hAx hBx)
  clear hAx hBx
  have hmk1 := run_make_row' (P := Try.prog) 73 81 (.slice none 0 0) 24 Try.underlying73 info_scores rfl .i64 .i64 (A.length + 1) (by omega) (by omega)
  have hmk2 := run_make_pair (P := Try.prog) 81 80 (.int .i64 0) (.int .i64 0) 16 Try.underlying81 info_score (B.length + 1) (by omega) (by omega)
  rw [show ((A.length + 1 : Nat) : Int) = (A.length : Int) + 1 by omega] at hmk1
  rw [show ((B.length + 1 : Nat) : Int) = (B.length : Int) + 1 by omega] at hmk2
  go_enter Try.func34, Try.ntmps34
  go_wp2_with fail
  refine wp_gen (F := fun W => NMW a b ca cb A B near w W ∧ Grid W 81 80 (w.heap.size + 3) (w.heap.size + 1) (fun _ => 0) (A.length + 1) (B.length + 1) (fun _ => false) (fun _ _ => vI (0, 0))) ⟨⟨(by repeat (first | with_reducible exact grown_refl _ _ | with_reducible assumption | with_reducible apply grown_alloc_r | with_reducible apply grown_drew_r | with_reducible apply grown_drewN | with_reducible refine World.grownBy.trans ?_ (by with_reducible assumption))), (by simp only [hp_alloc, hp_drewN, hp_drew, Array.getElem?_push, Array.size_push]; (repeat' split) <;> first | rfl | assumption | omega | exact absurd trivial (by assumption)), (by simp only [hp_alloc, hp_drewN, hp_drew, Array.getElem?_push, Array.size_push]; (repeat' split) <;> first | rfl | assumption | omega | exact absurd trivial (by assumption))⟩, by have h := (Grid.start (w.alloc (.cells #[.slice none 0 0, .slice none 0 0, .int .i64 0, .slice none 0 0] 75)) 81 80 (w.heap.size + 3) (A.length + 1) (B.length + 1) (by simp) (fun _ => 0) (fun _ _ => vI (0, 0))).alloc (.cells (mcells a b ca cb A B near (w.heap.size + 1)) 75); rw [show (w.alloc (.cells #[.slice none 0 0, .slice none 0 0, .int .i64 0, .slice none 0 0] 75)).heap.size = w.heap.size + 1 by simp] at h; exact h⟩ ?_
  rintro W0 ⟨hw0, hG0⟩
  have HG0 := Lib.hid hG0
  have hc7 := cells4 hw0.2.2
  clear hmk1 hG0
  go_loopw [26] (NM1 w a b ca cb A B near) (fun i _ => A.length + 1 - (intOf i).toNat)
  case atStart => exact ⟨0, _, by omega, rfl, hw0, by simpa using HG0⟩
  case round =>
    clear hw0 HG0 hc7
    obtain ⟨i, R, hi, rfl, hw, hG⟩ := hrel
    have hc7 := cells4 hw.2.2
    have l7 := lt_of_block hw.2.2
    by_cases hlt : i < A.length + 1
    · have hn := hG.out.nil hlt (by simp)
      have hfr := hG.out.free i
      have hz1 : (0 : Int) ≤ (i : Int) := by omega
      have hz2 : (i : Int) < (A.length : Int) + 1 := by omega
      have hl8 : w.heap.size + 1 < wr.heap.size := by omega
      have hwr : IntKind.i64.wrap ((B.length : Int) + 1) = (B.length : Int) + 1 := IntWalk.i64_in _ (by omega)
      go_wp2_with fail
      have HN := Lib.hid ((hG.out.mk (by omega) hlt (.int .i64 0) (.int .i64 0)).congr (made' := fun j => decide (j < i + 1)) (V' := fun _ _ => vI (0, 0)) (fun j hj => by rw [Bool.eq_iff_iff]; simp; omega) (fun j k hj hm hk => by split <;> rfl))
      clear hG
      go_region_held3 (fun w' => w'.cell? ⟨w.heap.size + 2, 3, none⟩ = some (.slice (some ⟨w.heap.size + 1, 0, none⟩) (A.length + 1) (A.length + 1))) (go_keep) (fail)
      go_wp2_with fail
      rw [set_past (by omega)]
      have hw1 := hw.1
      have hw2 := hw.2.1
      have hw3 := hw.2.2
      refine ⟨⟨i + 1, _, by omega, by go_num, ⟨grown_drew_r (grown_set (grown_alloc_r hw1 _) (by omega) _ _), ?_, ?_⟩, HN.out⟩, by simp [intOf]; omega⟩
      · exact hp_set_ne (w := wr.alloc _) (heap_alloc_old wr _ (lt_of_block hw2) |>.trans hw2) _ _ (by omega)
      · exact hp_set_ne (w := wr.alloc _) (heap_alloc_old wr _ (lt_of_block hw3) |>.trans hw3) _ _ (by omega)
    · have hi3 : i = A.length + 1 := by omega
      obtain ⟨hw0, HG0⟩ : NMW a b ca cb A B near w wr ∧ Hid (Grid wr 81 80 (w.heap.size + 3) (w.heap.size + 1) R (A.length + 1) (B.length + 1) (fun _ => true) (fun _ _ => vI (0, 0))) := ⟨hw, Lib.hid (hG.out.congr (fun j hj => by simp; omega) (fun _ _ _ _ _ => rfl))⟩
      clear hG hi3
      obtain ⟨wo, rfl⟩ : ∃ wo : World, wo = wr := ⟨_, rfl⟩
      obtain ⟨i9, rfl⟩ : ∃ i9 : Nat, i9 = i := ⟨_, rfl⟩
      clear hmk2
      go_wp2_with fail
      go_loopw [9] (NM2 w a b ca cb A B near R) (fun i _ => (intOf i + 1).toNat)
      case atStart => exact ⟨_, A.length, rfl, rfl, Nat.le_refl _, hw0, _, HG0, DoneT.start A B near⟩
      case round =>
        clear hw0 HG0 hc7 l7 hw hi
        obtain ⟨z, i, rfl, hz, hi, hw, V, hG, hD⟩ := hrel
        have hc7 := cells4 hw.2.2
        have l7 := lt_of_block hw.2.2
        rcases i with _ | i
        · obtain rfl : z = -1 := by have := hz.out; omega
          have c6 := cells4 hw.2.1
          have f6 := free4 hw.2.1
          go_wp2_with fail
          refine bp_gen (F := fun W' => w.grownBy W' none ∧ Grid W' 81 80 (w.heap.size + 3) (w.heap.size + 1) R (A.length + 1) (B.length + 1) (fun _ => true) V ∧ W'.heap[w.heap.size]? = some (.cells (mcells a b ca cb A B near (w.heap.size + 1)) 75 (0, 0))) ⟨grown_set (grown_set (grown_set (grown_set hw.1 (Nat.le_refl _) _ _) (Nat.le_refl _) _ _) (Nat.le_refl _) _ _) (Nat.le_refl _) _ _, (((hG.out.setOther (by omega) (by omega) _ _).setOther (by omega) (by omega) _ _).setOther (by omega) (by omega) _ _).setOther (by omega) (by omega) _ _, hp_set (hp_set (hp_set (hp_set hw.2.1 0 _) 1 _) 2 _) 3 _⟩ ?_
          rintro W' ⟨hg', hG', hb6⟩
          have hc := cells4 hb6
          refine bodyPost_ret (v := .agg #[.slice a A.length ca, .slice b B.length cb, .int .i64 near, .slice (some ⟨w.heap.size + 1, 0, none⟩) (A.length + 1) (A.length + 1)]) (by simp [results, Try.results34, go_sem, hc]) rfl ⟨w.heap.size + 1, R, rfl, ?_, hg'⟩
          intro i hi
          refine ⟨hG'.outer (by omega) rfl, fun k hk => ?_⟩
          have h1 := hG'.cells (i := i) (k := k) (by omega) rfl (by omega)
          rw [hD.out i k hi hk (by omega)] at h1
          exact h1
        · obtain rfl : z = (i : Int) := by have := hz.out; omega
          clear hz
          obtain ⟨wq, rfl⟩ : ∃ wo : World, wo = wr := ⟨_, rfl⟩
          have hzi : (0 : Int) ≤ (i : Int) := by omega
          go_wp2_with fail
          go_loopw [10] (NM3 w a b ca cb A B near R i) (fun i _ => (intOf i + 1).toNat)
          case atStart => exact ⟨_, B.length, rfl, rfl, Nat.le_refl _, hw, V, hG, hD.out.row⟩
          case round =>
            clear hw hG hD hc7 l7
            obtain ⟨z, c, rfl, hz, hc, hw, V, hG, hD⟩ := hrel
            have hc7 := cells4 hw.2.2
            have l7 := lt_of_block hw.2.2
            rcases c with _ | k
            · obtain rfl : z = -1 := by have := hz.out; omega
              go_wp2_with fail
              exact ⟨⟨_, i, rfl, Lib.hid rfl, by omega, hw, V, hG, hD⟩, by simp [intOf]⟩
            · obtain rfl : z = (k : Int) := by have := hz.out; omega
              clear hz
              have hib : (i : Int) + 1 < (A.length : Int) + 1 := by omega
              have hib2 : (i : Int) < (A.length : Int) + 1 := by omega
              have hkb : (k : Int) + 1 < (B.length : Int) + 1 := by omega
              have hkb2 : (k : Int) < (B.length : Int) + 1 := by omega
              have hik : (0 : Int) ≤ (k : Int) := by omega
              have o1 := hG.out.outer (i := i + 1) (by omega) rfl
              have o2 := hG.out.outer (i := i) (by omega) rfl
              obtain ⟨q1, q2⟩ := hG.out.cells (i := i + 1) (k := k) (by omega) rfl (by omega)
              obtain ⟨q3, q4⟩ := hG.out.cells (i := i) (k := k + 1) (by omega) rfl (by omega)
              rw [hD.out (i + 1) k (by omega) (by omega) (by omega)] at q1 q2
              rw [hD.out i (k + 1) (by omega) (by omega) (by omega)] at q3 q4
              have hl8 : w.heap.size + 1 < wr.heap.size := by omega
              have l1 := hG.out.rlt (i := i + 1) (by omega) rfl
              have l2 := hG.out.rlt (i := i) (by omega) rfl
              have hX : Hid (stepI A B near i k = if bscI (scI A B near i (k + 1)) (scI A B near (i + 1) k) then scI A B near i (k + 1) else scI A B near (i + 1) k) := rfl
              change _ = some (Value.int .i64 (scI A B near (i + 1) k).1) at q1
              change _ = some (Value.int .i64 (scI A B near (i + 1) k).2) at q2
              change _ = some (Value.int .i64 (scI A B near i (k + 1)).1) at q3
              change _ = some (Value.int .i64 (scI A B near i (k + 1)).2) at q4
              obtain ⟨ab, ao, rfl, ha1, ha2⟩ := (hA.up hw.1).pair (k := i) (by omega)
              obtain ⟨bb, bo, rfl, hb1, hb2⟩ := (hB.up hw.1).pair (k := k) (by omega)
              have hbs : bscI (scI A B near i (k + 1)) (scI A B near (i + 1) k) = bscI ((scI A B near i (k + 1)).1, (scI A B near i (k + 1)).2) ((scI A B near (i + 1) k).1, (scI A B near (i + 1) k).2) := rfl
              rw [hbs] at hX
              clear hbs
              go_wp2_with fail
              refine (sbetter_any _ _ _ _ _).mono ?_
              rintro e w1 ⟨rfl, hg1⟩
              have hb11 : w1.heap[wr.heap.size]? = some (.cells #[.int .i64 (scI A B near (i + 1) k).1, .int .i64 (scI A B near (i + 1) k).2] 80 (0, 0)) := blk_up (by simp only [hp_alloc, hp_drewN, hp_drew, Array.getElem?_push, Array.size_push]; (repeat' split) <;> first | rfl | assumption | omega | exact absurd trivial (by assumption)) hg1
              have hb12 : w1.heap[wr.heap.size + 1]? = some (.cells #[.int .i64 (scI A B near i (k + 1)).1, .int .i64 (scI A B near i (k + 1)).2] 80 (0, 0)) := blk_up (by simp only [hp_alloc, hp_drewN, hp_drew, Array.getElem?_push, Array.size_push]; (repeat' split) <;> first | rfl | assumption | omega | exact absurd trivial (by assumption)) hg1
              have hgr : wr.grownBy w1 none := (by repeat (first | with_reducible exact grown_refl _ _ | with_reducible assumption | with_reducible apply grown_alloc_r | with_reducible apply grown_drew_r | with_reducible apply grown_drewN | with_reducible refine World.grownBy.trans ?_ (by with_reducible assumption)))
              have hb7 := blk_up hw.2.2 hgr
              have c7 := cells4 hb7
              have c11 := cells2 hb11
              have c12 := cells2 hb12
              have f11 := free2 hb11
              have l11 := lt_of_block hb12
              clear q1 q2 q3 q4 o1 o2 hc7 ha2 hb2 hg1
              cases hB1 : bscI ((scI A B near i (k + 1)).1, (scI A B near i (k + 1)).2) ((scI A B near (i + 1) k).1, (scI A B near (i + 1) k).2)
              · have hS : stepI A B near i k = scI A B near (i + 1) k := by rw [hX.out, hB1]; rfl
                go_wp2_with fail
                refine calls_gen (F := fun W => wr.grownBy W none ∧ W.heap[wr.heap.size]? = some (.cells #[.int .i64 (stepI A B near i k).1, .int .i64 (stepI A B near i k).2] 80 (0, 0))) ⟨hgr, by rw [hS]; exact hb11⟩ ?_
                rintro W ⟨hgW, hbW⟩
                clear c7 c11 c12 f11 l11 hb11 hb12 hgr hb7 hX hB1 hS
                have hgA : w.grownBy W none := hw.1.trans hgW
                have hb7 := blk_up hw.2.2 hgW
                have c7 := cells4 hb7
                have hGW := Lib.hid (hG.out.up hgW)
                have l11 := lt_of_block hbW
                have x1 := HAx.out i (by omega)
                have x2 := HBx.out k (by omega)
                have x3 := Hf.out (i + 1) (k + 1)
                have o3 := hGW.out.outer (i := i + 1) (by omega) rfl
                obtain ⟨q5, q6⟩ := hGW.out.cells (i := i + 1) (k := k + 1) (by omega) rfl (by omega)
                rw [hD.out (i + 1) (k + 1) (by omega) (by omega) (by omega)] at q5 q6
                have hc1 : Hid (cndI A B near i k = ((scI A B near (i + 1) (k + 1)).1 + 1, (scI A B near (i + 1) (k + 1)).2 + dist (atI A i) (atI B k))) := rfl
                have hn1 : Hid (nearB A B near i k = decide (dist (atI A i) (atI B k) ≤ near)) := rfl
                have hs1 := Lib.hid (scI_in A B near i k (by omega) (by omega))
                have HW := Lib.hid (mwith_any ab ao bb bo (w.heap.size + 1) 0 (R (i + 1)) 0 A.length ca B.length cb (A.length + 1) (A.length + 1) (B.length + 1) (B.length + 1) i k (atI A i) (atI B k) near (scI A B near (i + 1) (k + 1)).1 (scI A B near (i + 1) (k + 1)).2 W (by omega) (by omega) (by omega) (by omega) (by omega) (by omega) (by omega) (by omega) x1.1 x1.2 x2.1 x2.2 x3.1 x3.2.1 x3.2.2.1 x3.2.2.2 (cell_up ha1 hgW) (cell_up hb1 hgW) (by rw [Nat.zero_add]; exact o3) (by rw [Nat.zero_add]; exact q5) (by rw [Nat.zero_add]; exact q6))
                clear q5 q6 o3 x1 x2 x3
                generalize dist (atI A i) (atI B k) = d at *
                generalize (scI A B near (i + 1) (k + 1)).1 = p at *
                generalize (scI A B near (i + 1) (k + 1)).2 = q at *
                generalize hxe : stepI A B near i k = X at *
                clear hxe
                refine HW.out.mono ?_
                clear HW
                rintro e w3 ⟨rfl, hg3⟩
                have hb11 := blk_up hbW hg3
                have hb7' := blk_up hb7 hg3
                have c11 := cells2 hb11
                have f11 := free2 hb11
                have l3 := lt_of_block hb11
                have hg3r : wr.grownBy w3 none := hgW.trans hg3
                clear c7 hg3
                by_cases hd : d ≤ near
                · go_wp2_with fail
                  refine (sbetter_any _ _ _ _ _).mono ?_
                  rintro e w4 ⟨rfl, hg4⟩
                  have hb13 : w4.heap[w3.heap.size]? = some (.cells #[.int .i64 (p + 1), .int .i64 (q + d)] 80 (0, 0)) := blk_up (by simp only [hp_alloc, hp_drewN, hp_drew, Array.getElem?_push, Array.size_push]; (repeat' split) <;> first | rfl | assumption | omega | exact absurd trivial (by assumption)) hg4
                  have hb11' := blk_up (heap_alloc_old w3 _ l3 |>.trans hb11) hg4
                  have hb7'' := blk_up (heap_alloc_old w3 _ (lt_of_block hb7') |>.trans hb7') hg4
                  have c11 := cells2 hb11'
                  have f11 := free2 hb11'
                  have c13 := cells2 hb13
                  have l13 := lt_of_block hb13
                  have l3' := lt_of_block hb11'
                  have hg4r : wr.grownBy w4 none := (by repeat (first | with_reducible exact grown_refl _ _ | with_reducible assumption | with_reducible apply grown_alloc_r | with_reducible apply grown_drew_r | with_reducible apply grown_drewN | with_reducible refine World.grownBy.trans ?_ (by with_reducible assumption)))
                  clear hg4 hg3r
                  cases hB2 : bscI (p + 1, q + d) (X.1, X.2)
                  · have hfin : Hid (scI A B near i k = X) := by show _ = _; rw [hs1.out, hc1.out, if_neg (by intro hh; rw [show bscI (p + 1, q + d) X = false from hB2] at hh; exact absurd hh.2 (by simp))]
                    go_wp2_with fail
                    refine wp_gen (F := fun W5 => wr.grownBy W5 none ∧ W5.heap[wr.heap.size]? = some (.cells #[.int .i64 (scI A B near i k).1, .int .i64 (scI A B near i k).2] 80 (0, 0))) ⟨hg4r, by rw [hfin.out]; exact hb11'⟩ ?_
                    rintro W5 ⟨hg5, hb5⟩
                    clear c11 f11 hfin c13 hg4r hb11' hb7'' hb13 l13 l3' hb7' hb11
                    have c7 := cells4 (blk_up hw.2.2 hg5)
                    have c5 := cells2 hb5
                    have hG5 := hG.out.up hg5
                    have o5 := hG5.outer (i := i) (by omega) rfl
                    have q5 := hG5.cells (i := i) (k := k) (by omega) rfl (by omega)
                    have f5 := hG5.rfree (i := i) (by omega) rfl
                    have hRlo := (hG5.2.2.1 i (by omega) rfl).2.1
                    have hRhi := hG.out.rlt (i := i) (by omega) rfl
                    have n1 : ¬ R i = w.heap.size + 2 := by omega
                    have n2 : ¬ R i = w.heap.size + 1 := by omega
                    have n3 : ¬ R i = wr.heap.size := by omega
                    have n1' : ¬ w.heap.size + 2 = R i := by omega
                    have n2' : ¬ w.heap.size + 1 = R i := by omega
                    have n3' : ¬ wr.heap.size = R i := by omega
                    have l5 := lt_of_block hb5
                    have HN := Lib.hid (hG5.put (i := i) (k := k) (by omega) rfl (.int .i64 (scI A B near i k).1) (.int .i64 (scI A B near i k).2))
                    have hh1 := Lib.hid (grown_set (grown_set (hw.1.trans hg5) (b := R i) (by omega) (k * 2) (.int .i64 (scI A B near i k).1)) (b := R i) (by omega) (k * 2 + 1) (.int .i64 (scI A B near i k).2))
                    have hh2 := Lib.hid (hp_set_ne (hp_set_ne (blk_up hw.2.1 hg5) (k * 2) (.int .i64 (scI A B near i k).1) (c := R i) (by omega)) (k * 2 + 1) (.int .i64 (scI A B near i k).2) (c := R i) (by omega))
                    have hh3 := Lib.hid (hp_set_ne (hp_set_ne (blk_up hw.2.2 hg5) (k * 2) (.int .i64 (scI A B near i k).1) (c := R i) (by omega)) (k * 2 + 1) (.int .i64 (scI A B near i k).2) (c := R i) (by omega))
                    have hD5 := Lib.hid (hD.out.put (by omega) (by omega))
                    clear hG5 hG hD hb5 hg5
                    go_region_held3 (fun w' => w'.cell? ⟨w.heap.size + 2, 3, none⟩ = some (.slice (some ⟨w.heap.size + 1, 0, none⟩) (A.length + 1) (A.length + 1)) ∧ w'.cell? ⟨w.heap.size + 1, i, none⟩ = some (.slice (some ⟨R i, 0, none⟩) (B.length + 1) (B.length + 1)) ∧ w'.cell? ⟨wr.heap.size, 0, none⟩ = some (.int .i64 (scI A B near i k).1) ∧ w'.cell? ⟨wr.heap.size, 1, none⟩ = some (.int .i64 (scI A B near i k).2)) (go_keep) (fail)
                    go_wp2_with fail
                    exact ⟨⟨_, k, rfl, Lib.hid rfl, by omega, ⟨grown_drew_r hh1.out, hh2.out, hh3.out⟩, _, HN.out, hD5.out⟩, by simp [intOf]⟩
                  · have hfin : Hid (scI A B near i k = (p + 1, q + d)) := by show _ = _; rw [hs1.out, hc1.out, if_pos ⟨by rw [hn1.out]; simpa using hd, hB2⟩]
                    go_wp2_with fail
                    refine wp_gen (F := fun W5 => wr.grownBy W5 none ∧ W5.heap[wr.heap.size]? = some (.cells #[.int .i64 (scI A B near i k).1, .int .i64 (scI A B near i k).2] 80 (0, 0))) ⟨grown_set (grown_set hg4r (Nat.le_refl _) _ _) (Nat.le_refl _) _ _, by rw [hfin.out]; exact hp_set (hp_set hb11' 0 _) 1 _⟩ ?_
                    rintro W5 ⟨hg5, hb5⟩
                    clear c11 f11 hfin c13 hg4r hb11' hb7'' hb13 l13 l3' hb7' hb11
                    have c7 := cells4 (blk_up hw.2.2 hg5)
                    have c5 := cells2 hb5
                    have hG5 := hG.out.up hg5
                    have o5 := hG5.outer (i := i) (by omega) rfl
                    have q5 := hG5.cells (i := i) (k := k) (by omega) rfl (by omega)
                    have f5 := hG5.rfree (i := i) (by omega) rfl
                    have hRlo := (hG5.2.2.1 i (by omega) rfl).2.1
                    have hRhi := hG.out.rlt (i := i) (by omega) rfl
                    have n1 : ¬ R i = w.heap.size + 2 := by omega
                    have n2 : ¬ R i = w.heap.size + 1 := by omega
                    have n3 : ¬ R i = wr.heap.size := by omega
                    have n1' : ¬ w.heap.size + 2 = R i := by omega
                    have n2' : ¬ w.heap.size + 1 = R i := by omega
                    have n3' : ¬ wr.heap.size = R i := by omega
                    have l5 := lt_of_block hb5
                    have HN := Lib.hid (hG5.put (i := i) (k := k) (by omega) rfl (.int .i64 (scI A B near i k).1) (.int .i64 (scI A B near i k).2))
                    have hh1 := Lib.hid (grown_set (grown_set (hw.1.trans hg5) (b := R i) (by omega) (k * 2) (.int .i64 (scI A B near i k).1)) (b := R i) (by omega) (k * 2 + 1) (.int .i64 (scI A B near i k).2))
                    have hh2 := Lib.hid (hp_set_ne (hp_set_ne (blk_up hw.2.1 hg5) (k * 2) (.int .i64 (scI A B near i k).1) (c := R i) (by omega)) (k * 2 + 1) (.int .i64 (scI A B near i k).2) (c := R i) (by omega))
                    have hh3 := Lib.hid (hp_set_ne (hp_set_ne (blk_up hw.2.2 hg5) (k * 2) (.int .i64 (scI A B near i k).1) (c := R i) (by omega)) (k * 2 + 1) (.int .i64 (scI A B near i k).2) (c := R i) (by omega))
                    have hD5 := Lib.hid (hD.out.put (by omega) (by omega))
                    clear hG5 hG hD hb5 hg5
                    go_region_held3 (fun w' => w'.cell? ⟨w.heap.size + 2, 3, none⟩ = some (.slice (some ⟨w.heap.size + 1, 0, none⟩) (A.length + 1) (A.length + 1)) ∧ w'.cell? ⟨w.heap.size + 1, i, none⟩ = some (.slice (some ⟨R i, 0, none⟩) (B.length + 1) (B.length + 1)) ∧ w'.cell? ⟨wr.heap.size, 0, none⟩ = some (.int .i64 (scI A B near i k).1) ∧ w'.cell? ⟨wr.heap.size, 1, none⟩ = some (.int .i64 (scI A B near i k).2)) (go_keep) (fail)
                    go_wp2_with fail
                    exact ⟨⟨_, k, rfl, Lib.hid rfl, by omega, ⟨grown_drew_r hh1.out, hh2.out, hh3.out⟩, _, HN.out, hD5.out⟩, by simp [intOf]⟩
                · have hdb : decide (d ≤ near) = false := by simpa using hd
                  have hfin : Hid (scI A B near i k = X) := by show _ = _; rw [hs1.out, hn1.out, hdb, if_neg (by simp)]
                  go_wp2_with fail
                  refine wp_gen (F := fun W5 => wr.grownBy W5 none ∧ W5.heap[wr.heap.size]? = some (.cells #[.int .i64 (scI A B near i k).1, .int .i64 (scI A B near i k).2] 80 (0, 0))) ⟨(by repeat (first | with_reducible exact grown_refl _ _ | with_reducible assumption | with_reducible apply grown_alloc_r | with_reducible apply grown_drew_r | with_reducible apply grown_drewN | with_reducible refine World.grownBy.trans ?_ (by with_reducible assumption))), by rw [hfin.out]; exact heap_alloc_old w3 _ l3 |>.trans hb11⟩ ?_
                  rintro W5 ⟨hg5, hb5⟩
                  clear c11 f11 hfin hg3r hb7' hb11
                  have c7 := cells4 (blk_up hw.2.2 hg5)
                  have c5 := cells2 hb5
                  have hG5 := hG.out.up hg5
                  have o5 := hG5.outer (i := i) (by omega) rfl
                  have q5 := hG5.cells (i := i) (k := k) (by omega) rfl (by omega)
                  have f5 := hG5.rfree (i := i) (by omega) rfl
                  have hRlo := (hG5.2.2.1 i (by omega) rfl).2.1
                  have hRhi := hG.out.rlt (i := i) (by omega) rfl
                  have n1 : ¬ R i = w.heap.size + 2 := by omega
                  have n2 : ¬ R i = w.heap.size + 1 := by omega
                  have n3 : ¬ R i = wr.heap.size := by omega
                  have n1' : ¬ w.heap.size + 2 = R i := by omega
                  have n2' : ¬ w.heap.size + 1 = R i := by omega
                  have n3' : ¬ wr.heap.size = R i := by omega
                  have l5 := lt_of_block hb5
                  have HN := Lib.hid (hG5.put (i := i) (k := k) (by omega) rfl (.int .i64 (scI A B near i k).1) (.int .i64 (scI A B near i k).2))
                  have hh1 := Lib.hid (grown_set (grown_set (hw.1.trans hg5) (b := R i) (by omega) (k * 2) (.int .i64 (scI A B near i k).1)) (b := R i) (by omega) (k * 2 + 1) (.int .i64 (scI A B near i k).2))
                  have hh2 := Lib.hid (hp_set_ne (hp_set_ne (blk_up hw.2.1 hg5) (k * 2) (.int .i64 (scI A B near i k).1) (c := R i) (by omega)) (k * 2 + 1) (.int .i64 (scI A B near i k).2) (c := R i) (by omega))
                  have hh3 := Lib.hid (hp_set_ne (hp_set_ne (blk_up hw.2.2 hg5) (k * 2) (.int .i64 (scI A B near i k).1) (c := R i) (by omega)) (k * 2 + 1) (.int .i64 (scI A B near i k).2) (c := R i) (by omega))
                  have hD5 := Lib.hid (hD.out.put (by omega) (by omega))
                  clear hG5 hG hD hb5 hg5
                  go_region_held3 (fun w' => w'.cell? ⟨w.heap.size + 2, 3, none⟩ = some (.slice (some ⟨w.heap.size + 1, 0, none⟩) (A.length + 1) (A.length + 1)) ∧ w'.cell? ⟨w.heap.size + 1, i, none⟩ = some (.slice (some ⟨R i, 0, none⟩) (B.length + 1) (B.length + 1)) ∧ w'.cell? ⟨wr.heap.size, 0, none⟩ = some (.int .i64 (scI A B near i k).1) ∧ w'.cell? ⟨wr.heap.size, 1, none⟩ = some (.int .i64 (scI A B near i k).2)) (go_keep) (fail)
                  go_wp2_with fail
                  exact ⟨⟨_, k, rfl, Lib.hid rfl, by omega, ⟨grown_drew_r hh1.out, hh2.out, hh3.out⟩, _, HN.out, hD5.out⟩, by simp [intOf]⟩
              · have hS : stepI A B near i k = scI A B near i (k + 1) := by rw [hX.out, hB1]; rfl
                go_wp2_with fail
                refine calls_gen (F := fun W => wr.grownBy W none ∧ W.heap[wr.heap.size]? = some (.cells #[.int .i64 (stepI A B near i k).1, .int .i64 (stepI A B near i k).2] 80 (0, 0))) ⟨grown_set (grown_set hgr (Nat.le_refl _) _ _) (Nat.le_refl _) _ _, by rw [hS]; exact hp_set (hp_set hb11 0 _) 1 _⟩ ?_
                rintro W ⟨hgW, hbW⟩
                clear c7 c11 c12 f11 l11 hb11 hb12 hgr hb7 hX hB1 hS
                have hgA : w.grownBy W none := hw.1.trans hgW
                have hb7 := blk_up hw.2.2 hgW
                have c7 := cells4 hb7
                have hGW := Lib.hid (hG.out.up hgW)
                have l11 := lt_of_block hbW
                have x1 := HAx.out i (by omega)
                have x2 := HBx.out k (by omega)
                have x3 := Hf.out (i + 1) (k + 1)
                have o3 := hGW.out.outer (i := i + 1) (by omega) rfl
                obtain ⟨q5, q6⟩ := hGW.out.cells (i := i + 1) (k := k + 1) (by omega) rfl (by omega)
                rw [hD.out (i + 1) (k + 1) (by omega) (by omega) (by omega)] at q5 q6
                have hc1 : Hid (cndI A B near i k = ((scI A B near (i + 1) (k + 1)).1 + 1, (scI A B near (i + 1) (k + 1)).2 + dist (atI A i) (atI B k))) := rfl
                have hn1 : Hid (nearB A B near i k = decide (dist (atI A i) (atI B k) ≤ near)) := rfl
                have hs1 := Lib.hid (scI_in A B near i k (by omega) (by omega))
                have HW := Lib.hid (mwith_any ab ao bb bo (w.heap.size + 1) 0 (R (i + 1)) 0 A.length ca B.length cb (A.length + 1) (A.length + 1) (B.length + 1) (B.length + 1) i k (atI A i) (atI B k) near (scI A B near (i + 1) (k + 1)).1 (scI A B near (i + 1) (k + 1)).2 W (by omega) (by omega) (by omega) (by omega) (by omega) (by omega) (by omega) (by omega) x1.1 x1.2 x2.1 x2.2 x3.1 x3.2.1 x3.2.2.1 x3.2.2.2 (cell_up ha1 hgW) (cell_up hb1 hgW) (by rw [Nat.zero_add]; exact o3) (by rw [Nat.zero_add]; exact q5) (by rw [Nat.zero_add]; exact q6))
                clear q5 q6 o3 x1 x2 x3
                generalize dist (atI A i) (atI B k) = d at *
                generalize (scI A B near (i + 1) (k + 1)).1 = p at *
                generalize (scI A B near (i + 1) (k + 1)).2 = q at *
                generalize hxe : stepI A B near i k = X at *
                clear hxe
                refine HW.out.mono ?_
                clear HW
                rintro e w3 ⟨rfl, hg3⟩
                have hb11 := blk_up hbW hg3
                have hb7' := blk_up hb7 hg3
                have c11 := cells2 hb11
                have f11 := free2 hb11
                have l3 := lt_of_block hb11
                have hg3r : wr.grownBy w3 none := hgW.trans hg3
                clear c7 hg3
                by_cases hd : d ≤ near
                · go_wp2_with fail
                  refine (sbetter_any _ _ _ _ _).mono ?_
                  rintro e w4 ⟨rfl, hg4⟩
                  have hb13 : w4.heap[w3.heap.size]? = some (.cells #[.int .i64 (p + 1), .int .i64 (q + d)] 80 (0, 0)) := blk_up (by simp only [hp_alloc, hp_drewN, hp_drew, Array.getElem?_push, Array.size_push]; (repeat' split) <;> first | rfl | assumption | omega | exact absurd trivial (by assumption)) hg4
                  have hb11' := blk_up (heap_alloc_old w3 _ l3 |>.trans hb11) hg4
                  have hb7'' := blk_up (heap_alloc_old w3 _ (lt_of_block hb7') |>.trans hb7') hg4
                  have c11 := cells2 hb11'
                  have f11 := free2 hb11'
                  have c13 := cells2 hb13
                  have l13 := lt_of_block hb13
                  have l3' := lt_of_block hb11'
                  have hg4r : wr.grownBy w4 none := (by repeat (first | with_reducible exact grown_refl _ _ | with_reducible assumption | with_reducible apply grown_alloc_r | with_reducible apply grown_drew_r | with_reducible apply grown_drewN | with_reducible refine World.grownBy.trans ?_ (by with_reducible assumption)))
                  clear hg4 hg3r
                  cases hB2 : bscI (p + 1, q + d) (X.1, X.2)
                  · have hfin : Hid (scI A B near i k = X) := by show _ = _; rw [hs1.out, hc1.out, if_neg (by intro hh; rw [show bscI (p + 1, q + d) X = false from hB2] at hh; exact absurd hh.2 (by simp))]
                    go_wp2_with fail
                    refine wp_gen (F := fun W5 => wr.grownBy W5 none ∧ W5.heap[wr.heap.size]? = some (.cells #[.int .i64 (scI A B near i k).1, .int .i64 (scI A B near i k).2] 80 (0, 0))) ⟨hg4r, by rw [hfin.out]; exact hb11'⟩ ?_
                    rintro W5 ⟨hg5, hb5⟩
                    clear c11 f11 hfin c13 hg4r hb11' hb7'' hb13 l13 l3' hb7' hb11
                    have c7 := cells4 (blk_up hw.2.2 hg5)
                    have c5 := cells2 hb5
                    have hG5 := hG.out.up hg5
                    have o5 := hG5.outer (i := i) (by omega) rfl
                    have q5 := hG5.cells (i := i) (k := k) (by omega) rfl (by omega)
                    have f5 := hG5.rfree (i := i) (by omega) rfl
                    have hRlo := (hG5.2.2.1 i (by omega) rfl).2.1
                    have hRhi := hG.out.rlt (i := i) (by omega) rfl
                    have n1 : ¬ R i = w.heap.size + 2 := by omega
                    have n2 : ¬ R i = w.heap.size + 1 := by omega
                    have n3 : ¬ R i = wr.heap.size := by omega
                    have n1' : ¬ w.heap.size + 2 = R i := by omega
                    have n2' : ¬ w.heap.size + 1 = R i := by omega
                    have n3' : ¬ wr.heap.size = R i := by omega
                    have l5 := lt_of_block hb5
                    have HN := Lib.hid (hG5.put (i := i) (k := k) (by omega) rfl (.int .i64 (scI A B near i k).1) (.int .i64 (scI A B near i k).2))
                    have hh1 := Lib.hid (grown_set (grown_set (hw.1.trans hg5) (b := R i) (by omega) (k * 2) (.int .i64 (scI A B near i k).1)) (b := R i) (by omega) (k * 2 + 1) (.int .i64 (scI A B near i k).2))
                    have hh2 := Lib.hid (hp_set_ne (hp_set_ne (blk_up hw.2.1 hg5) (k * 2) (.int .i64 (scI A B near i k).1) (c := R i) (by omega)) (k * 2 + 1) (.int .i64 (scI A B near i k).2) (c := R i) (by omega))
                    have hh3 := Lib.hid (hp_set_ne (hp_set_ne (blk_up hw.2.2 hg5) (k * 2) (.int .i64 (scI A B near i k).1) (c := R i) (by omega)) (k * 2 + 1) (.int .i64 (scI A B near i k).2) (c := R i) (by omega))
                    have hD5 := Lib.hid (hD.out.put (by omega) (by omega))
                    clear hG5 hG hD hb5 hg5
                    go_region_held3 (fun w' => w'.cell? ⟨w.heap.size + 2, 3, none⟩ = some (.slice (some ⟨w.heap.size + 1, 0, none⟩) (A.length + 1) (A.length + 1)) ∧ w'.cell? ⟨w.heap.size + 1, i, none⟩ = some (.slice (some ⟨R i, 0, none⟩) (B.length + 1) (B.length + 1)) ∧ w'.cell? ⟨wr.heap.size, 0, none⟩ = some (.int .i64 (scI A B near i k).1) ∧ w'.cell? ⟨wr.heap.size, 1, none⟩ = some (.int .i64 (scI A B near i k).2)) (go_keep) (fail)
                    go_wp2_with fail
                    exact ⟨⟨_, k, rfl, Lib.hid rfl, by omega, ⟨grown_drew_r hh1.out, hh2.out, hh3.out⟩, _, HN.out, hD5.out⟩, by simp [intOf]⟩
                  · have hfin : Hid (scI A B near i k = (p + 1, q + d)) := by show _ = _; rw [hs1.out, hc1.out, if_pos ⟨by rw [hn1.out]; simpa using hd, hB2⟩]
                    go_wp2_with fail
                    refine wp_gen (F := fun W5 => wr.grownBy W5 none ∧ W5.heap[wr.heap.size]? = some (.cells #[.int .i64 (scI A B near i k).1, .int .i64 (scI A B near i k).2] 80 (0, 0))) ⟨grown_set (grown_set hg4r (Nat.le_refl _) _ _) (Nat.le_refl _) _ _, by rw [hfin.out]; exact hp_set (hp_set hb11' 0 _) 1 _⟩ ?_
                    rintro W5 ⟨hg5, hb5⟩
                    clear c11 f11 hfin c13 hg4r hb11' hb7'' hb13 l13 l3' hb7' hb11
                    have c7 := cells4 (blk_up hw.2.2 hg5)
                    have c5 := cells2 hb5
                    have hG5 := hG.out.up hg5
                    have o5 := hG5.outer (i := i) (by omega) rfl
                    have q5 := hG5.cells (i := i) (k := k) (by omega) rfl (by omega)
                    have f5 := hG5.rfree (i := i) (by omega) rfl
                    have hRlo := (hG5.2.2.1 i (by omega) rfl).2.1
                    have hRhi := hG.out.rlt (i := i) (by omega) rfl
                    have n1 : ¬ R i = w.heap.size + 2 := by omega
                    have n2 : ¬ R i = w.heap.size + 1 := by omega
                    have n3 : ¬ R i = wr.heap.size := by omega
                    have n1' : ¬ w.heap.size + 2 = R i := by omega
                    have n2' : ¬ w.heap.size + 1 = R i := by omega
                    have n3' : ¬ wr.heap.size = R i := by omega
                    have l5 := lt_of_block hb5
                    have HN := Lib.hid (hG5.put (i := i) (k := k) (by omega) rfl (.int .i64 (scI A B near i k).1) (.int .i64 (scI A B near i k).2))
                    have hh1 := Lib.hid (grown_set (grown_set (hw.1.trans hg5) (b := R i) (by omega) (k * 2) (.int .i64 (scI A B near i k).1)) (b := R i) (by omega) (k * 2 + 1) (.int .i64 (scI A B near i k).2))
                    have hh2 := Lib.hid (hp_set_ne (hp_set_ne (blk_up hw.2.1 hg5) (k * 2) (.int .i64 (scI A B near i k).1) (c := R i) (by omega)) (k * 2 + 1) (.int .i64 (scI A B near i k).2) (c := R i) (by omega))
                    have hh3 := Lib.hid (hp_set_ne (hp_set_ne (blk_up hw.2.2 hg5) (k * 2) (.int .i64 (scI A B near i k).1) (c := R i) (by omega)) (k * 2 + 1) (.int .i64 (scI A B near i k).2) (c := R i) (by omega))
                    have hD5 := Lib.hid (hD.out.put (by omega) (by omega))
                    clear hG5 hG hD hb5 hg5
                    go_region_held3 (fun w' => w'.cell? ⟨w.heap.size + 2, 3, none⟩ = some (.slice (some ⟨w.heap.size + 1, 0, none⟩) (A.length + 1) (A.length + 1)) ∧ w'.cell? ⟨w.heap.size + 1, i, none⟩ = some (.slice (some ⟨R i, 0, none⟩) (B.length + 1) (B.length + 1)) ∧ w'.cell? ⟨wr.heap.size, 0, none⟩ = some (.int .i64 (scI A B near i k).1) ∧ w'.cell? ⟨wr.heap.size, 1, none⟩ = some (.int .i64 (scI A B near i k).2)) (go_keep) (fail)
                    go_wp2_with fail
                    exact ⟨⟨_, k, rfl, Lib.hid rfl, by omega, ⟨grown_drew_r hh1.out, hh2.out, hh3.out⟩, _, HN.out, hD5.out⟩, by simp [intOf]⟩
                · have hdb : decide (d ≤ near) = false := by simpa using hd
                  have hfin : Hid (scI A B near i k = X) := by show _ = _; rw [hs1.out, hn1.out, hdb, if_neg (by simp)]
                  go_wp2_with fail
                  refine wp_gen (F := fun W5 => wr.grownBy W5 none ∧ W5.heap[wr.heap.size]? = some (.cells #[.int .i64 (scI A B near i k).1, .int .i64 (scI A B near i k).2] 80 (0, 0))) ⟨(by repeat (first | with_reducible exact grown_refl _ _ | with_reducible assumption | with_reducible apply grown_alloc_r | with_reducible apply grown_drew_r | with_reducible apply grown_drewN | with_reducible refine World.grownBy.trans ?_ (by with_reducible assumption))), by rw [hfin.out]; exact heap_alloc_old w3 _ l3 |>.trans hb11⟩ ?_
                  rintro W5 ⟨hg5, hb5⟩
                  clear c11 f11 hfin hg3r hb7' hb11
                  have c7 := cells4 (blk_up hw.2.2 hg5)
                  have c5 := cells2 hb5
                  have hG5 := hG.out.up hg5
                  have o5 := hG5.outer (i := i) (by omega) rfl
                  have q5 := hG5.cells (i := i) (k := k) (by omega) rfl (by omega)
                  have f5 := hG5.rfree (i := i) (by omega) rfl
                  have hRlo := (hG5.2.2.1 i (by omega) rfl).2.1
                  have hRhi := hG.out.rlt (i := i) (by omega) rfl
                  have n1 : ¬ R i = w.heap.size + 2 := by omega
                  have n2 : ¬ R i = w.heap.size + 1 := by omega
                  have n3 : ¬ R i = wr.heap.size := by omega
                  have n1' : ¬ w.heap.size + 2 = R i := by omega
                  have n2' : ¬ w.heap.size + 1 = R i := by omega
                  have n3' : ¬ wr.heap.size = R i := by omega
                  have l5 := lt_of_block hb5
                  have HN := Lib.hid (hG5.put (i := i) (k := k) (by omega) rfl (.int .i64 (scI A B near i k).1) (.int .i64 (scI A B near i k).2))
                  have hh1 := Lib.hid (grown_set (grown_set (hw.1.trans hg5) (b := R i) (by omega) (k * 2) (.int .i64 (scI A B near i k).1)) (b := R i) (by omega) (k * 2 + 1) (.int .i64 (scI A B near i k).2))
                  have hh2 := Lib.hid (hp_set_ne (hp_set_ne (blk_up hw.2.1 hg5) (k * 2) (.int .i64 (scI A B near i k).1) (c := R i) (by omega)) (k * 2 + 1) (.int .i64 (scI A B near i k).2) (c := R i) (by omega))
                  have hh3 := Lib.hid (hp_set_ne (hp_set_ne (blk_up hw.2.2 hg5) (k * 2) (.int .i64 (scI A B near i k).1) (c := R i) (by omega)) (k * 2 + 1) (.int .i64 (scI A B near i k).2) (c := R i) (by omega))
                  have hD5 := Lib.hid (hD.out.put (by omega) (by omega))
                  clear hG5 hG hD hb5 hg5
                  go_region_held3 (fun w' => w'.cell? ⟨w.heap.size + 2, 3, none⟩ = some (.slice (some ⟨w.heap.size + 1, 0, none⟩) (A.length + 1) (A.length + 1)) ∧ w'.cell? ⟨w.heap.size + 1, i, none⟩ = some (.slice (some ⟨R i, 0, none⟩) (B.length + 1) (B.length + 1)) ∧ w'.cell? ⟨wr.heap.size, 0, none⟩ = some (.int .i64 (scI A B near i k).1) ∧ w'.cell? ⟨wr.heap.size, 1, none⟩ = some (.int .i64 (scI A B near i k).2)) (go_keep) (fail)
                  go_wp2_with fail
                  exact ⟨⟨_, k, rfl, Lib.hid rfl, by omega, ⟨grown_drew_r hh1.out, hh2.out, hh3.out⟩, _, HN.out, hD5.out⟩, by simp [intOf]⟩
end Go.Proofs.Ytjflmenfinohcaa.Hd

/- Walks: the best matching, Match, and what is wrong with its arguments (package trace). -/
namespace Go.Proofs.Ytjflmenfinohcaa.Hd
set_option linter.unusedVariables false
set_option linter.unusedSimpArgs false
open Go.RowKit

def mpI (L : List (Nat × Nat)) : List (Int × Int) := L.map fun p => ((p.1 : Int), (p.2 : Int))
theorem mpI_len (L : List (Nat × Nat)) : (mpI L).length = L.length := by simp [mpI]

theorem hit_eq (A B : List (Int × Int)) (near : Int) (i k a c : Nat) : hitB A B (scI A B near) near (scI A B near i k) a c = Mat.hits (nearB A B near) (farI A B) A.length B.length i k a c := by
  unfold hitB Mat.hits
  congr 1
  rw [Mat.sco_cand]
  have h : ∀ (x y : Mat.Pr) (d : Int), (decide ((x.1.length : Int) + 1 = (y.1.length : Int)) && decide (x.2 + d = y.2)) = decide (((Mat.sco x).1 + 1, (Mat.sco x).2 + d) = Mat.sco y) := by
    intro x y d
    rw [Bool.eq_iff_iff]
    simp only [Mat.sco, Prod.mk.injEq, Bool.and_eq_true, decide_eq_true_eq]
    omega
  exact h (bestM A B near (a + 1) (c + 1)) (bestM A B near i k) (farI A B a c)

theorem elem_matched : Elem Try.prog 33 48 2 16 := by
  obtain ⟨i, hi, hz, h1, h2⟩ := info_parts (show (Try.prog.info? 48).map (fun i => (i.zero, i.size, i.bytes)) = some (some (.agg #[.int .i64 0, .int .i64 0]), 2, 16) by kernel_rfl)
  exact ⟨Try.underlying33, i, _, hi, hz, h1, h2, rfl, by omega⟩

def MgRel (A B : List (Int × Int)) (near : Int) (W0 : World) (v9 v10 v11 : Value) (wr : World) : Prop :=
  ∃ (a : Option Addr) (c : Nat) (L : List (Nat × Nat)) (i k : Nat), v9 = .slice a L.length c ∧ v10 = .int .i64 i ∧ v11 = .int .i64 k ∧ i ≤ A.length ∧ k ≤ B.length ∧ L.length ≤ 100 ∧
    Hid ((bestM A B near 0 0).1 = L ++ (bestM A B near i k).1) ∧ Hid (wr.ownsRow W0.heap.size 48 2 (.slice a L.length c) L.length (prs (mpI L))) ∧ W0.grownBy wr none

def MatchingPost (A B : List (Int × Int)) (near : Int) (w : World) (e : Ending) (w' : World) : Prop :=
  ∃ a c, e = .returned (.tuple #[.slice a (bestM A B near 0 0).1.length c, .int .i64 (bestM A B near 0 0).2]) ∧
    w'.ownsRow w.heap.size 48 2 (.slice a (bestM A B near 0 0).1.length c) (bestM A B near 0 0).1.length (prs (mpI (bestM A B near 0 0).1)) ∧ w.grownBy w' none

theorem bestM_len (A B : List (Int × Int)) (near : Int) (hla : A.length ≤ 100) (hAx : ∀ i, i < A.length → 0 ≤ atI A i ∧ atI A i ≤ 1000000) (hBx : ∀ i, i < B.length → 0 ≤ atI B i ∧ atI B i ≤ 1000000) : (bestM A B near 0 0).1.length ≤ 100 := by
  obtain ⟨h1, h2, h3⟩ := best_bd (nearB A B near) (farI A B) A.length B.length 1000000 (fun i k hi hk => by
    have := hAx i hi; have := hBx k hk; unfold farI dist; omega) _ 0 0 rfl
  unfold bestM
  omega

set_option maxRecDepth 100000 in
set_option maxHeartbeats 4000000 in
theorem matching_any (a b : Option Addr) (ca cb : Nat) (A B : List (Int × Int)) (near : Int) (w : World)
    (hA : At w a (prs A)) (hB : At w b (prs B)) (hla : A.length ≤ 100) (hlb : B.length ≤ 100)
    (hAx : ∀ i, i < A.length → 0 ≤ atI A i ∧ atI A i ≤ 1000000) (hBx : ∀ i, i < B.length → 0 ≤ atI B i ∧ atI B i ≤ 1000000) :
    Calls Try.prog 21 #[.slice a A.length ca, .slice b B.length cb, .int .i64 near] w (MatchingPost A B near w) := by
  have HL := Lib.hid (bestM_len A B near hla hAx hBx)
  have HNM := Lib.hid (newmatcher_any a b ca cb A B near w hA hB hla hlb hAx hBx)
  have HF : Hid (∀ (gb gc : Nat) (R : Nat → Nat) (i0 k0 : Nat) (W : World), w.grownBy W none → MRd W gb R A.length B.length (scI A B near) → i0 ≤ A.length → k0 ≤ B.length →
      Calls Try.prog 35 #[.agg #[.slice a A.length ca, .slice b B.length cb, .int .i64 near, .slice (some ⟨gb, 0, none⟩) (A.length + 1) gc], .int .i64 i0, .int .i64 k0] W (FirstPost A B (scI A B near) near (scI A B near i0 k0) i0 k0 W)) :=
    fun gb gc R i0 k0 W hg hM h1 h2 => mfirst_any a b ca cb gb gc R A B (scI A B near) near i0 k0 W (hA.up hg) (hB.up hg) hM h1 h2 (by omega) (by omega) hAx hBx (scI_bd A B near hla hAx hBx)
  clear hAx hBx
  go_enter Try.func21, Try.ntmps21
  go_wp2_with fail
  refine HNM.out.mono ?_
  clear HNM
  rintro e w1 ⟨g, R, rfl, hM, hg1⟩
  go_wp2_with fail
  refine wp_gen (F := fun W => w1.grownBy W none ∧ W.heap[w1.heap.size]? = some (.cells (mcells a b ca cb A B near g) 75 (0, 0))) ⟨(by repeat (first | with_reducible exact grown_refl _ _ | with_reducible assumption | with_reducible apply grown_alloc_r | with_reducible apply grown_drew_r | with_reducible apply grown_drewN | with_reducible refine World.grownBy.trans ?_ (by with_reducible assumption))), (by simp only [hp_alloc, hp_drewN, hp_drew, Array.getElem?_push, Array.size_push]; (repeat' split) <;> first | rfl | assumption | omega | exact absurd trivial (by assumption))⟩ ?_
  rintro W0 ⟨hgW, hb8⟩
  have HM := Lib.hid (hM.up hgW)
  have hgA := hg1.trans hgW
  have l8 := lt_of_block hb8
  clear hM hgW hg1
  go_loopw [9, 10, 11] (MgRel A B near W0) (fun _ i _ _ => A.length - (intOf i).toNat)
  case atStart => exact ⟨none, 0, [], 0, 0, rfl, rfl, rfl, Nat.zero_le _, Nat.zero_le _, by simp, rfl, World.ownsRow_nil _ _ _ _, grown_refl _ _⟩
  case round =>
    obtain ⟨a0, c0, L, i, k, rfl, rfl, rfl, hi, hk, hL, hpre, hown, hgr⟩ := hrel
    have hb8r := blk_up hb8 hgr
    have hc8 := cells4 hb8r
    have l8r := lt_of_block hb8r
    go_wp2_with fail
    refine (HF.out g (A.length + 1) R i k _ (hgA.trans hgr) (HM.out.up hgr) hi hk).mono ?_
    rintro e w2 ⟨hg2, hp⟩
    have hb8s := blk_up hb8r hg2
    have l8s := lt_of_block hb8s
    have hgr2 := hgr.trans hg2
    have HO2 := Lib.hid (World.ownsRow.kept hown.out hg2 (by rw [ownBlock_slice]; cases a0 <;> simp [blk]))
    clear hown hc8
    rcases hp with ⟨p, q, rfl, h1, h2, h3, h4, hhit, hno⟩ | ⟨rfl, hno⟩
    · have hbk : bestM A B near i k = Mat.cand (nearB A B near) (farI A B) A.length B.length p q := Mat.best_hit _ _ _ _ i k hi hk p q h1 h2 h3 h4 (by rw [← hit_eq]; exact hhit) (fun c d r1 r2 r3 r4 r5 => by rw [← hit_eq]; exact hno c d r1 r2 r3 r4 r5)
      have hpre2 : Hid ((bestM A B near 0 0).1 = (L ++ [(p, q)]) ++ (bestM A B near (p + 1) (q + 1)).1) := by show _ = _; rw [hpre.out, hbk]; simp [Mat.cand, bestM]
      have hL2 : (L ++ [(p, q)]).length ≤ 100 := by have := HL.out; have h9 := congrArg List.length hpre2.out; rw [List.length_append] at h9; omega
      have hL3 : L.length + 1 ≤ 100 := by simpa using hL2
      clear hbk hhit hno hpre hL2
      have q1 : (L.length + 1) * 16 ≤ 140737488355328 := by omega
      have q2 : L.length + 1 ≤ maxLen := by unfold maxLen; omega
      have q3 : W0.heap.size ≤ w2.heap.size + 1 := by have := hgr2.size; omega
      have q4 : (w2.alloc (.cells #[.int .i64 p, .int .i64 q] 48)).heap.size = w2.heap.size + 1 := by simp
      have Q4 := Lib.hid q4
      clear q4
      have hsr : ∀ b, blk a0 = some b → W0.heap.size ≤ b ∧ b < w2.heap.size := own_blk HO2.out
      have hx12 := Lib.hid (heap_alloc_new w2 (.cells #[.int .i64 p, .int .i64 q] 48))
      have HO3 := Lib.hid (HO2.out.alloc (.cells #[.int .i64 p, .int .i64 q] 48))
      have hgr3 : W0.grownBy (w2.alloc (.cells #[.int .i64 p, .int .i64 q] 48)) none := (by repeat (first | with_reducible exact grown_refl _ _ | with_reducible assumption | with_reducible apply grown_alloc_r | with_reducible apply grown_drew_r | with_reducible apply grown_drewN | with_reducible refine World.grownBy.trans ?_ (by with_reducible assumption)))
      clear hg2 HO2
      go_wp2_with (at_builtin; refine wpList_push2 rfl _ _ _ rfl W0.heap.size _ _ _ _ elem_matched a0 L.length c0 _ HO3.out (w2.heap.size + 1) Q4.out 1 1 [.int .i64 p, .int .i64 q] rfl rfl rfl (by simp [Value.oneCell']) q1 q2 q3 ?_; intro a2 c2 w5 hown5 hg5 hat5)
      have hb12 := (hg5.block _ (lt_of_block hx12.out) (fun e => by have := hsr _ e.symm; omega)).trans hx12.out
      have hgW5 := Lib.hid (grown_own hgr3 hg5 (fun b hb => (hsr b hb).1))
      have hO5 := Lib.hid hown5
      have hc12 := cells2 hb12
      have hp1 : IntKind.i64.wrap ((p : Int) + 1) = (p : Int) + 1 := IntWalk.i64_in _ (by omega)
      have hp2 : IntKind.i64.wrap ((q : Int) + 1) = (q : Int) + 1 := IntWalk.i64_in _ (by omega)
      clear hown5 hg5 hat5 hsr hx12 HO3 hb12 hgr3 q1 q2 q3
      go_quiet (fail)
      go_wp2_with fail
      exact ⟨⟨a2, c2, L ++ [(p, q)], p + 1, q + 1, by simp, by go_num, by go_num, by omega, by omega, by simpa using hL3, hpre2, Lib.hid (own_drewN (by simpa [mpI, prs_snoc] using hO5.out) _), grown_drewN hgW5.out _⟩, by simp [intOf]; omega⟩
    · have hbk : bestM A B near i k = ([], 0) := Mat.best_miss _ _ _ _ i k hi hk (fun c d r1 r2 r3 r4 => by rw [← hit_eq]; exact hno c d r1 r2 r3 r4)
      have hpre2 := hpre.out
      rw [hbk, List.append_nil] at hpre2
      have hpre3 := Lib.hid hpre2
      obtain ⟨hm1, hm2⟩ := (HM.out.up hgr2) 0 (Nat.zero_le _)
      obtain ⟨hm3, hm4⟩ := hm2 0 (Nat.zero_le _)
      have hc8 := cells4 hb8s
      have hz0 : Hid ((scI A B near 0 0).2 = (bestM A B near 0 0).2) := rfl
      have l5 := cell_lt hm1
      have l6 := cell_lt hm3
      simp only [Nat.zero_mul, Nat.zero_add] at l5 l6 hm3 hm4
      rw [hz0.out] at hm4
      have z1 : (0 : Int) < (A.length : Int) + 1 := by omega
      have z2 : (0 : Int) < (B.length : Int) + 1 := by omega
      clear hm2 hpre2 hbk hno hpre
      go_wp2_with fail
      go_quiet (fail)
      go_wp2_with fail
      go_ret2
      rw [MatchingPost, hpre3.out]
      exact ⟨a0, c0, rfl, own_drewN (own_base (HO2.out.alloc _) (hgA.size)) _, grown_drewN (grown_alloc_r (hgA.trans hgr2) _) _⟩
end Go.Proofs.Ytjflmenfinohcaa.Hd

/- Walks: Match, and what is wrong with its arguments (package trace and the reference). -/
namespace Go.Proofs.Ytjflmenfinohcaa.Hd
set_option linter.unusedVariables false
set_option linter.unusedSimpArgs false
open Go.RowKit

theorem firstErr_zero : ∀ (l : List Int), firstErr l = 0 → ∀ x ∈ l, x = 0
  | [], _ => by simp
  | x :: r, h => by
    have ih := firstErr_zero r
    simp only [firstErr] at h
    split at h
    · rename_i h0; intro y hy
      rcases List.mem_cons.1 hy with rfl | hy
      · exact h0
      · exact ih h y hy
    · contradiction

theorem evFault_ok {l : List (Int × Int)} (h : evFault l = 0) : l.length ≤ 100 ∧ (∀ i, i < l.length → 0 ≤ atI l i ∧ atI l i ≤ 1000000) ∧ (∀ i, i < l.length → -10000 ≤ (l.getD i (0, 0)).2 ∧ (l.getD i (0, 0)).2 ≤ 10000) := by
  unfold evFault at h
  split at h
  · contradiction
  · rename_i hl
    have h2 : ∀ i, i < l.length → inB (atI l i) 0 1000000 = true ∧ okR (l.getD i (0, 0)).2 = true := by
      intro i hi
      have h3 := firstErr_zero _ h (evAt l i) (List.mem_map.2 ⟨i, List.mem_range.2 hi, rfl⟩)
      unfold evAt at h3
      split at h3
      · contradiction
      · rename_i h4
        have h5 : (inB (l.getD i (0, 0)).1 0 1000000 && okR (l.getD i (0, 0)).2) = true := by simpa using h4
        exact Bool.and_eq_true_iff.1 h5
    exact ⟨by omega, fun i hi => of_inB (h2 i hi).1, fun i hi => of_inB (h2 i hi).2⟩

def nearE (near loss : Int) : Int := if inB near 0 1000000 && inB loss 0 10000 then 0 else 1
def mErr (A B : List (Int × Int)) (near : Int) : Int := firstErr [evFault A, evFault B, nearE near 0]
def xErr (A B : List (Int × Int)) (near loss : Int) : Int := firstErr [evFault A, evFault B, nearE near loss]

theorem firstErr3 (a b c : Int) : firstErr [a, b, c] = if firstErr [a, b] = 0 then c else firstErr [a, b] := by
  by_cases h1 : a = 0 <;> by_cases h2 : b = 0 <;> simp [firstErr, h1, h2] <;> (intro h; exact h.symm)

set_option maxHeartbeats 400000 in
theorem nearfault_any (near loss : Int) (w : World) : Calls Try.prog 12 #[.int .i64 near, .int .i64 loss] w fun e w' => e = .returned (.int .i64 (nearE near loss)) ∧ w = w' := by
  have hN : Hid (nearE near loss = if inB near 0 1000000 && inB loss 0 10000 then 0 else 1) := rfl
  cases h1 : inB near 0 1000000
  · go_enter Try.func12, Try.ntmps12
    go_wp2_with fail
    refine (in_any _ _ _ _).mono ?_
    rintro e w1 ⟨rfl, rfl⟩
    go_wp2_with fail
    go_ret
    exact ⟨ret_int (by rw [hN.out, h1]; rfl), rfl⟩
  · cases h2 : inB loss 0 10000
    all_goals
      go_enter Try.func12, Try.ntmps12
      go_wp2_with fail
      refine (in_any _ _ _ _).mono ?_
      rintro e w1 ⟨rfl, rfl⟩
      go_wp2_with fail
      refine (in_any _ _ _ _).mono ?_
      rintro e w1 ⟨rfl, rfl⟩
      go_wp2_with fail
      go_ret
      exact ⟨ret_int (by rw [hN.out, h1, h2]; rfl), rfl⟩

set_option maxHeartbeats 800000 in
theorem matchfault_any (a b : Option Addr) (ca cb : Nat) (A B : List (Int × Int)) (near : Int) (w : World) (hA : At w a (prs A)) (hB : At w b (prs B)) (hma : A.length ≤ maxLen) (hmb : B.length ≤ maxLen) :
    Calls Try.prog 20 #[.slice a A.length ca, .slice b B.length cb, .int .i64 near] w fun e w' => e = .returned (.int .i64 (mErr A B near)) ∧ w.grownBy w' none := by
  have H1 := Lib.hid (eventsFault_any a A.length ca A w rfl hma hA)
  have H2 : Hid (∀ W, w.grownBy W none → Calls Try.prog 33 #[.slice b B.length cb] W fun e w' => e = .returned (.int .i64 (evFault B)) ∧ W.grownBy w' none) := fun W hg => eventsFault_any b B.length cb B W rfl hmb (hB.up hg)
  have HM : Hid (mErr A B near = if firstErr [evFault A, evFault B] = 0 then nearE near 0 else firstErr [evFault A, evFault B]) := firstErr3 _ _ _
  have hN : Hid (nearE near 0 = if inB near 0 1000000 then 0 else 1) := by show _ = _; simp [nearE, inB]
  clear hA hB hma hmb
  go_enter Try.func20, Try.ntmps20
  go_wp2_with fail
  refine H1.out.mono ?_
  rintro e w1 ⟨rfl, hg1⟩
  go_wp2_with fail
  refine (H2.out _ hg1).mono ?_
  rintro e w2 ⟨rfl, hg2⟩
  go_wp2_with fail
  refine (first_lit [evFault A, evFault B] _ _ _ _ _ rfl rfl rfl (by simp)).mono ?_
  rintro e w3 ⟨rfl, rfl⟩
  generalize firstErr [evFault A, evFault B] = F at *
  by_cases hF : F = 0
  · subst hF
    cases h1 : inB near 0 1000000
    all_goals
      go_wp2_with fail
      refine (out_any _ _ _ _).mono ?_
      rintro e w4 ⟨rfl, rfl⟩
      go_wp2_with fail
      go_ret
      exact ⟨ret_int (by rw [HM.out, hN.out, h1]; rfl), (by repeat (first | with_reducible exact grown_refl _ _ | with_reducible assumption | with_reducible apply grown_alloc_r | with_reducible apply grown_drew_r | with_reducible apply grown_drewN | with_reducible refine World.grownBy.trans ?_ (by with_reducible assumption)))⟩
  · have hb : (F == 0) = false := by simpa using hF
    go_wp2_with fail
    go_ret
    exact ⟨ret_int (by rw [HM.out, if_neg hF]), (by repeat (first | with_reducible exact grown_refl _ _ | with_reducible assumption | with_reducible apply grown_alloc_r | with_reducible apply grown_drew_r | with_reducible apply grown_drewN | with_reducible refine World.grownBy.trans ?_ (by with_reducible assumption)))⟩

/-- what Match finds -/
def mL (A B : List (Int × Int)) (near : Int) : List (Nat × Nat) := if mErr A B near = 0 then (bestM A B near 0 0).1 else []
def mS (A B : List (Int × Int)) (near : Int) : Int := if mErr A B near = 0 then (bestM A B near 0 0).2 else 0
def MatchPost (A B : List (Int × Int)) (near : Int) (w : World) (e : Ending) (w' : World) : Prop :=
  ∃ a c, e = .returned (.tuple #[.slice a (mL A B near).length c, .int .i64 (mS A B near), .int .i64 (mErr A B near)]) ∧
    w'.ownsRow w.heap.size 48 2 (.slice a (mL A B near).length c) (mL A B near).length (prs (mpI (mL A B near))) ∧ w.grownBy w' none

theorem mErr_ok {A B : List (Int × Int)} {near : Int} (h : mErr A B near = 0) : evFault A = 0 ∧ evFault B = 0 ∧ nearE near 0 = 0 := by
  have h1 := firstErr_zero _ h
  exact ⟨h1 _ (by simp), h1 _ (by simp), h1 _ (by simp)⟩

set_option maxHeartbeats 800000 in
theorem match_any (a b : Option Addr) (ca cb : Nat) (A B : List (Int × Int)) (near : Int) (w : World) (hA : At w a (prs A)) (hB : At w b (prs B)) (hma : A.length ≤ maxLen) (hmb : B.length ≤ maxLen) :
    Calls Try.prog 8 #[.slice a A.length ca, .slice b B.length cb, .int .i64 near] w (MatchPost A B near w) := by
  have H1 := Lib.hid (matchfault_any a b ca cb A B near w hA hB hma hmb)
  by_cases hE : mErr A B near = 0
  · obtain ⟨e1, e2, -⟩ := mErr_ok hE
    obtain ⟨p1, p2, -⟩ := evFault_ok e1
    obtain ⟨q1, q2, -⟩ := evFault_ok e2
    have H2 : Hid (∀ W, w.grownBy W none → Calls Try.prog 21 #[.slice a A.length ca, .slice b B.length cb, .int .i64 near] W (MatchingPost A B near W)) := fun W hg => matching_any a b ca cb A B near W (hA.up hg) (hB.up hg) p1 q1 p2 q2
    have hP : Hid (mL A B near = (bestM A B near 0 0).1 ∧ mS A B near = (bestM A B near 0 0).2) := ⟨by rw [mL, if_pos hE], by rw [mS, if_pos hE]⟩
    have HE := Lib.hid hE
    clear hA hB hma hmb hE e1 e2 p1 p2 q1 q2
    go_enter Try.func8, Try.ntmps8
    go_wp2_with fail
    refine H1.out.mono ?_
    rintro e w1 ⟨rfl, hg1⟩
    rw [HE.out]
    go_wp2_with fail
    refine (H2.out _ hg1).mono ?_
    rintro e w2 ⟨a2, c2, rfl, hown, hg2⟩
    have HO := Lib.hid hown
    clear hown
    go_wp2_with fail
    go_ret3
    rw [MatchPost, hP.out.1, hP.out.2, HE.out]
    exact ⟨a2, c2, rfl, own_base HO.out hg1.size, hg1.trans hg2⟩
  · have hb : (mErr A B near != 0) = true := by simpa using hE
    have hP : Hid (mL A B near = [] ∧ mS A B near = 0) := ⟨by rw [mL, if_neg hE], by rw [mS, if_neg hE]⟩
    clear hA hB hma hmb
    go_enter Try.func8, Try.ntmps8
    go_wp2_with fail
    refine H1.out.mono ?_
    rintro e w1 ⟨rfl, hg1⟩
    go_wp2_with fail
    go_ret3
    rw [MatchPost, hP.out.1, hP.out.2]
    exact ⟨none, 0, rfl, World.ownsRow_nil _ _ _ _, hg1⟩
end Go.Proofs.Ytjflmenfinohcaa.Hd
