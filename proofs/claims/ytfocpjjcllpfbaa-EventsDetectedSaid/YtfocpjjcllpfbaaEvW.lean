/- The walk of the law EventsDetected: from any list of numbers it answers true. -/
import Derived.Test.YtfocpjjcllpfbaaGen1
import Derived.Test.YtfocpjjcllpfbaaStepTr
import Derived.Test.YtfocpjjcllpfbaaTraced
import Derived.Deep.DeepCutAuto
import Derived.Below
namespace Go.Proofs.Ytfocpjjcllpfbaa
open Go.RowKit

theorem grown_set1 {W w : World} {b : Nat} (h : W.grownBy w (some b)) (o : Nat) (v : Value) : W.grownBy (w.setCell ⟨b, o, none⟩ v) (some b) :=
  ⟨h.os, h.tape, h.output, by simpa using h.size, fun k hk hne => (heap_setCell_other w _ k v (by simpa using hne)).trans (h.block k hk hne)⟩

/-- behind the generators: the readings, the rules -/
def EvGen (W : World) (B5 : Nat) (v4 : Value) (w : World) : Prop :=
  ∃ (a : Option Addr) (c : Nat) (p : List Int) (st wd ls nm dn : Int), v4 = .slice a p.length c ∧ p.length ≤ c ∧ c ≤ maxLen ∧ nm ≤ 9223372036854775807 ∧ dn ≤ 9223372036854775807 ∧
    At w a (ints p) ∧ w.heap[B5]? = some (.cells #[.int .i64 st, .int .i64 wd, .int .i64 ls, .int .i64 nm, .int .i64 dn] 30 (0, 0)) ∧ W.grownBy w none

set_option maxRecDepth 100000 in
set_option maxHeartbeats 4000000 in
theorem evdet_any (a : Option Addr) (n cap : Nat) (L : List Int) (w : World) (hn : n = L.length) (hm : n ≤ maxLen) (h : At w a (ints L)) (hlt : L ≠ [] → ∀ x, a = some x → x.block < w.heap.size) :
    Calls Try.prog 3 #[.slice a n cap] w fun e w' => e = .returned (.bool true) ∧ w.grownBy w' none := by
  have hs0 : Str (w.alloc (.cells #[.slice a n cap, .int .i64 0] 25)) w.heap.size 0 := by
    subst hn
    exact ⟨a, cap, L, 0, heap_alloc_new w _, hm, h.alloc _, hlt, by omega, by omega⟩
  have hg0 := World.grownBy_alloc w (.cells #[.slice a n cap, .int .i64 0] 25) (some w.heap.size)
  have hz : (w.alloc (.cells #[.slice a n cap, .int .i64 0] 25)).heap.size = w.heap.size + 1 := by simp
  go_enter Try.func3, Try.ntmps3
  clear h hlt hm hn
  go_wp2_with fail
  refine (power_any w.heap.size 0 40 _ (by omega) (by omega) (by omega) hs0).mono ?_
  rintro e w1 ⟨a1, c1, xs, rfl, hxl, hown, hs, hg⟩
  have hgW := hg0.trans hg
  clear hs0 hg0 hg
  have hslt : w.heap.size < (w.alloc (.cells #[.slice a n cap, .int .i64 0] 25)).heap.size := by rw [hz]; omega
  go_wp2_with fail
  refine (rules_any _ _ _ (by omega) hs).mono ?_
  clear hs
  rintro e w2 ⟨st, wd, ls, nm, dn, rfl, hbd, hs, hg⟩
  replace hgW := hgW.trans hg
  replace hown := own_kept hown hg (by intro b hb; cases hb; exact .inl hslt)
  clear hg
  go_wp2_with fail
  refine (pick_lit _ _ [0, 100, -200, -10001, 10000] _ _ _ _ _ rfl rfl rfl (by omega) (by simp) (by simp) hs).mono ?_
  clear hs
  rintro e w3 ⟨fl, rfl, hfl, hs, hg⟩
  replace hgW := hgW.trans hg
  replace hown := own_kept hown hg (by intro b hb; cases hb; exact .inl hslt)
  clear hg
  have hb := heap_alloc_new w3 (.cells #[.int .i64 st, .int .i64 wd, .int .i64 ls, .int .i64 nm, .int .i64 dn] 30)
  have hBs : w.heap.size < w3.heap.size := hs.lt
  go_upto_if 32 with fail
  refine (flip_any _ _ _ _ (by omega) (by omega) (hs.alloc _)).mono ?_
  clear hs
  rintro e w5 ⟨f, rfl, hs, hg⟩
  replace hgW := (grown_alloc_r hgW (.cells #[.int .i64 st, .int .i64 wd, .int .i64 ls, .int .i64 nm, .int .i64 dn] 30)).trans hg
  replace hown := own_kept (own_kept hown (World.grownBy_alloc _ _ none) (by simp)) hg (by intro b hb; cases hb; exact .inl hslt)
  replace hb := (hg.block _ (lt_of_block hb) (by simp; omega)).trans hb
  clear hg
  go_upto_if 32 with fail
  go_cut [4] (EvGen w w3.heap.size)
  case first =>
    cases f
    · go_wp2_with fail
      go_meet
      case rel => exact ⟨a1, c1, xs, st, wd, ls, nm, dn, rfl, (own_cap hown).1, (own_cap hown).2, by omega, by omega, own_at hown, hb, grown_own (grown_refl w none) hgW (by intro b hb; cases hb; exact Nat.le_refl _)⟩
    · go_wp2_with fail
      refine (steptrace_any _ _ _ (by omega) hs).mono ?_
      have h5 : w3.heap.size < w5.heap.size := lt_of_block hb
      clear hs hown
      rintro e w6 ⟨a6, c6, ys, rfl, hyl, hown, hs, hg⟩
      replace hgW := hgW.trans hg
      replace hb := (hg.block _ (lt_of_block hb) (by simp; omega)).trans hb
      clear hg
      go_wp2_with fail
      refine (pick_lit _ _ [1, 2] _ _ _ _ _ rfl rfl rfl (by omega) (by simp) (by simp) hs).mono ?_
      clear hs
      rintro e w7 ⟨x7, rfl, hx7, hs, hg⟩
      replace hgW := hgW.trans hg
      replace hown := own_kept hown hg (by intro b hb; cases hb; exact .inl (by omega))
      replace hb := (hg.block _ (lt_of_block hb) (by simp; omega)).trans hb
      clear hg
      go_wp2_with fail
      refine (pick_lit _ _ [10, 50] _ _ _ _ _ rfl rfl rfl (by omega) (by simp) (by simp) hs).mono ?_
      clear hs
      rintro e w8 ⟨x8, rfl, hx8, hs, hg⟩
      replace hgW := hgW.trans hg
      replace hown := own_kept hown hg (by intro b hb; cases hb; exact .inl (by omega))
      replace hb := (hg.block _ (lt_of_block hb) (by simp; omega)).trans hb
      clear hg
      have hc := cells5 hb
      have hf := free5 hb
      have HB := Lib.hid hb
      have hgW2 := grown_setCell (grown_setCell (grown_setCell (grown_setCell (grown_setCell hgW (p := ⟨w3.heap.size, 0, none⟩) (Nat.le_of_lt hBs) (.int .i64 1)) (p := ⟨w3.heap.size, 1, none⟩) (Nat.le_of_lt hBs) (.int .i64 x7)) (p := ⟨w3.heap.size, 2, none⟩) (Nat.le_of_lt hBs) (.int .i64 x8)) (p := ⟨w3.heap.size, 3, none⟩) (Nat.le_of_lt hBs) (.int .i64 0)) (p := ⟨w3.heap.size, 4, none⟩) (Nat.le_of_lt hBs) (.int .i64 1)
      have hown2 := own_kept hown (grown_set1 (grown_set1 (grown_set1 (grown_set1 (grown_set1 (grown_refl w8 (some w3.heap.size)) 0 (.int .i64 1)) 1 (.int .i64 x7)) 2 (.int .i64 x8)) 3 (.int .i64 0)) 4 (.int .i64 1)) (by intro b hb; cases hb; exact .inl h5)
      have hb2 := heap_setCell_same _ _ 4 _ _ (.int .i64 1) (heap_setCell_same _ _ 3 _ _ (.int .i64 0) (heap_setCell_same _ _ 2 _ _ (.int .i64 x8) (heap_setCell_same _ _ 1 _ _ (.int .i64 x7) (heap_setCell_same w8 w3.heap.size 0 _ _ (.int .i64 1) hb))))
      have HC := Lib.hid (And.intro hb2 (And.intro hown2 hgW2))
      clear hb2 hown2 hgW2 hb hown hgW hs
      go_wp2_with fail
      go_meet
      case rel => exact ⟨a6, c6, ys, _, _, _, _, _, rfl, (own_cap HC.out.2.1).1, (own_cap HC.out.2.1).2, by omega, by omega, own_at HC.out.2.1, HC.out.1, grown_own (grown_refl w none) HC.out.2.2 (by intro b hb; cases hb; exact Nat.le_refl _)⟩
  case rest =>
    clear hbd hfl hs hgW hown hb hxl hz
    obtain ⟨a, c, p, st, wd, ls, nm, dn, rfl, hpc, hcm, hnm, hdn, hat, hb, hgW⟩ := hcut
    have HEx : Hid (∀ W, At W a (ints p) → Calls Try.prog 10 #[.slice a p.length c, .agg #[.int .i64 st, .int .i64 wd, .int .i64 ls, .int .i64 nm, .int .i64 dn]] W (RowPost W 28 (exE p st wd ls nm dn) (faultOf p st wd ls nm dn))) := fun W h => Excess_all a _ c p st wd ls nm dn W rfl hpc hcm h ⟨hnm, hdn⟩
    have HDt : Hid (∀ W, At W a (ints p) → Calls Try.prog 11 #[.slice a p.length c, .agg #[.int .i64 st, .int .i64 wd, .int .i64 ls, .int .i64 nm, .int .i64 dn]] W (RowPost W 54 (evE p st wd ls nm dn) (evErr p st wd ls nm dn))) := fun W h => Detected_all a _ c p st wd ls nm dn W rfl hpc hcm h ⟨hnm, hdn⟩
    have HLa : Hid (∀ W, At W a (ints p) → Calls Try.prog 12 #[.slice a p.length c, .int .i64 fl, .agg #[.int .i64 st, .int .i64 wd, .int .i64 ls, .int .i64 nm, .int .i64 dn]] W fun e w' => e = .returned (.tuple #[.int .i64 (lastP p fl st wd ls nm dn).1, .bool (lastP p fl st wd ls nm dn).2, .int .i64 (lastErr p fl st wd ls nm dn)]) ∧ W.grownBy w' none) := fun W h => Last_all a _ c p fl st wd ls nm dn W rfl (by omega) h ⟨hnm, hdn⟩
    have HExO : faultOf p st wd ls nm dn = 0 → Hid (∀ W, At W a (ints p) → Calls Try.prog 17 #[.slice a p.length c, .agg #[.int .i64 st, .int .i64 wd, .int .i64 ls, .int .i64 nm, .int .i64 dn]] W fun e w' =>
      ∃ a' c', e = .returned (.slice a' (exE p st wd ls nm dn).length c') ∧ w'.ownsRow W.heap.size 28 2 (.slice a' (exE p st wd ls nm dn).length c') (exE p st wd ls nm dn).length (prs (exE p st wd ls nm dn)) ∧ W.grownBy w' none) := fun hf W h => ExcessOf_all a _ c p st wd ls nm dn W rfl hpc hcm h hf
    have HDtO : faultOf p st wd ls nm dn = 0 → Hid (∀ W, At W a (ints p) → Calls Try.prog 18 #[.slice a p.length c, .agg #[.int .i64 st, .int .i64 wd, .int .i64 ls, .int .i64 nm, .int .i64 dn]] W (RowPost W 54 (evE p st wd ls nm dn) (evErr p st wd ls nm dn))) := fun hf W h => DetectedOf_all a _ c p st wd ls nm dn W rfl hpc hcm h hf
    have HLaO : lastErr p fl st wd ls nm dn = 0 → Hid (∀ W, At W a (ints p) → Calls Try.prog 19 #[.slice a p.length c, .int .i64 fl, .agg #[.int .i64 st, .int .i64 wd, .int .i64 ls, .int .i64 nm, .int .i64 dn]] W fun e w' => e = .returned (.tuple #[.int .i64 (lastP p fl st wd ls nm dn).1, .bool (lastP p fl st wd ls nm dn).2]) ∧ W.grownBy w' none) := fun hf W h => LastOf_all a _ c p fl st wd ls nm dn W rfl hpc hcm h hf
    have HZ : Hid ((faultOf p st wd ls nm dn ≠ 0 → exE p st wd ls nm dn = [] ∧ evE p st wd ls nm dn = [] ∧ evErr p st wd ls nm dn = faultOf p st wd ls nm dn) ∧ (lastErr p fl st wd ls nm dn ≠ 0 → (lastP p fl st wd ls nm dn).1 = 0 ∧ (lastP p fl st wd ls nm dn).2 = false)) := by
      refine ⟨fun h => ⟨?_, ?_, ?_⟩, fun h => ?_⟩
      · rw [exE, if_neg h]
      · rw [evE, if_neg h]
      · rw [evErr, if_neg h]
      · rw [lastP, if_neg h]; exact ⟨rfl, rfl⟩
    have HT : Hid (∀ W, At W a (ints p) → Calls Try.prog 14 #[.slice a p.length c] W fun e w' => e = .returned (.int .i64 (traceFault p)) ∧ W.grownBy w' none) := fun W h => (tracefault_any a _ c p W rfl (by omega) h).mono fun e w' ⟨h1, m, h2⟩ => ⟨h1, by rw [h2]; exact grown_drewN (grown_refl W none) m⟩
    have HTC : Hid (∀ W, At W a (ints p) → Calls Try.prog 21 #[.slice a p.length c] W fun e w' => e = .returned (.int .i64 (traceFault p)) ∧ W = w') := fun W h => checktrace_any a _ c p W rfl (by omega) h
    have HR : Hid (∀ W, Calls Try.prog 15 #[.agg #[.int .i64 st, .int .i64 wd, .int .i64 ls, .int .i64 nm, .int .i64 dn]] W fun e w' => e = .returned (.int .i64 (rulesFault st wd ls nm dn)) ∧ W.grownBy w' none) := fun W => rulesfault_any st wd ls nm dn W ⟨hnm, hdn⟩
    have HRC : Hid (∀ W, Calls Try.prog 20 #[.agg #[.int .i64 st, .int .i64 wd, .int .i64 ls, .int .i64 nm, .int .i64 dn]] W fun e w' => e = .returned (.int .i64 (rulesFault st wd ls nm dn)) ∧ W.grownBy w' none) := fun W => checkrules_any st wd ls nm dn W ⟨hnm, hdn⟩
    have HF : Hid (firstErr [traceFault p, rulesFault st wd ls nm dn] = faultOf p st wd ls nm dn) := rfl
    have HLE : Hid (lastErr p fl st wd ls nm dn = firstErr [faultOf p st wd ls nm dn, if decide (fl < -10000) || decide (10000 < fl) then 1 else 0]) := rfl
    generalize faultOf p st wd ls nm dn = F at *
    generalize exE p st wd ls nm dn = EX at *
    generalize evE p st wd ls nm dn = EV at *
    generalize evErr p st wd ls nm dn = ER at *
    generalize lastErr p fl st wd ls nm dn = LE at *
    generalize (lastP p fl st wd ls nm dn).1 = L1 at *
    generalize (lastP p fl st wd ls nm dn).2 = L2 at *
    generalize traceFault p = tf at *
    generalize rulesFault st wd ls nm dn = rf at *
    generalize ints p = cs at *
    generalize p.length = n at *
    generalize w3.heap.size = B5 at *
    clear hpc hcm hnm hdn hslt hBs
    have hc := cells5 hb
    go_wp2_with fail
    refine (HEx.out _ hat).mono ?_
    rintro e w6 ⟨a1, c1, rfl, hx, hg⟩
    replace hat := hat.grown hg (by simp)
    replace hb := blk_apart hb hg (by simp)
    replace hgW := hgW.trans hg
    have hx1 := own_at hx
    have hxm : EX.length ≤ maxLen := by have := own_cap hx; omega
    clear HEx hc hg hx
    have hc := cells5 hb
    go_wp2_with fail
    refine (HDt.out _ hat).mono ?_
    rintro e w7 ⟨a2, c2, rfl, hx, hg⟩
    replace hat := hat.grown hg (by simp)
    replace hx1 := hx1.grown hg (by simp)
    replace hb := blk_apart hb hg (by simp)
    replace hgW := hgW.trans hg
    have hd1 := own_at hx
    have hdm : EV.length ≤ maxLen := by have := own_cap hx; omega
    clear HDt hc hg hx
    have hc := cells5 hb
    go_wp2_with fail
    refine (HLa.out _ hat).mono ?_
    rintro e w8 ⟨rfl, hg⟩
    replace hat := hat.grown hg (by simp)
    replace hx1 := hx1.grown hg (by simp)
    replace hd1 := hd1.grown hg (by simp)
    replace hb := blk_apart hb hg (by simp)
    replace hgW := hgW.trans hg
    clear HLa hc hg
    have hc := cells5 hb
    go_wp2_with fail
    go_region_held3 (fun w' => w'.cell? ⟨B5, 0, none⟩ = some (.int .i64 st) ∧ w'.cell? ⟨B5, 1, none⟩ = some (.int .i64 wd) ∧ w'.cell? ⟨B5, 2, none⟩ = some (.int .i64 ls) ∧ w'.cell? ⟨B5, 3, none⟩ = some (.int .i64 nm) ∧ w'.cell? ⟨B5, 4, none⟩ = some (.int .i64 dn)) (go_keep) (first | (go_at_call 14; go_must (refine (HT.out _ hat.drew).mono ?_); rintro e w9 ⟨rfl, hg9⟩; have hb9 := (hg9.block _ (lt_of_block hb) (by simp)).trans hb; have hc9 := cells5 hb9) | (go_at_call 15; go_must (refine (HR.out _).mono ?_); rintro e w10 ⟨rfl, hg10⟩; have hb10 := (hg10.block _ (lt_of_block hb9) (by simp)).trans hb9; have hc10 := cells5 hb10) | (go_at_call 13; go_must (refine (errs_lit [tf, rf] _ _ _ _ _ rfl rfl rfl (by simp)).mono ?_); rintro e w11 ⟨rfl, rfl⟩))
    have hg12 : w8.grownBy (w10.alloc (Obj.cells (ints [tf, rf]).toArray 36)) none := grown_alloc_r ((World.grownBy.trans (grown_drew_r (grown_refl w8 none)) hg9).trans hg10) _
    generalize w10.alloc (Obj.cells (ints [tf, rf]).toArray 36) = w12 at *
    replace hat := hat.grown hg12 (by simp)
    replace hx1 := hx1.grown hg12 (by simp)
    replace hd1 := hd1.grown hg12 (by simp)
    replace hb := blk_apart hb hg12 (by simp)
    replace hgW := hgW.trans hg12
    clear hg9 hg10 hb9 hb10 hc9 hc10 hc hg12
    have hc := cells5 hb
    rw [HF.out]
    go_upto_region 9 with fail
    go_cut [15, 16] (fun v15 v16 w' => v15 = .int .i64 F ∧ v16 = .int .i64 LE ∧ w12.grownBy w' none)
    case first =>
      by_cases h1 : fl < -10000
      · go_wp2_with fail
        refine (when_any _ _ _).mono ?_
        rintro e w13 ⟨rfl, rfl⟩
        go_wp2_with fail
        refine (errs_lit [F, 1] _ _ _ _ _ rfl rfl rfl (by simp)).mono ?_
        rintro e w14 ⟨rfl, rfl⟩
        go_wp2_with fail
        go_meet
        case rel => exact ⟨rfl, by rw [HLE.out]; simp [h1], grown_alloc_r (grown_refl w12 none) _⟩
      · by_cases h2 : 10000 < fl
        · go_wp2_with fail
          refine (when_any _ _ _).mono ?_
          rintro e w13 ⟨rfl, rfl⟩
          go_wp2_with fail
          refine (errs_lit [F, 1] _ _ _ _ _ rfl rfl rfl (by simp)).mono ?_
          rintro e w14 ⟨rfl, rfl⟩
          go_wp2_with fail
          go_meet
          case rel => exact ⟨rfl, by rw [HLE.out]; first | (rw [if_pos (by simp; omega)]) | (rw [if_neg (by simp; omega)]), grown_alloc_r (grown_refl w12 none) _⟩
        · go_wp2_with fail
          refine (when_any _ _ _).mono ?_
          rintro e w13 ⟨rfl, rfl⟩
          go_wp2_with fail
          refine (errs_lit [F, 0] _ _ _ _ _ rfl rfl rfl (by simp)).mono ?_
          rintro e w14 ⟨rfl, rfl⟩
          go_wp2_with fail
          go_meet
          case rel => exact ⟨rfl, by rw [HLE.out]; first | (rw [if_pos (by simp; omega)]) | (rw [if_neg (by simp; omega)]), grown_alloc_r (grown_refl w12 none) _⟩
    case rest =>
      obtain ⟨rfl, rfl, hg⟩ := hcut
      obtain ⟨wq, rfl⟩ : ∃ x : World, x = wc := ⟨_, rfl⟩
      replace hat := hat.grown hg (by simp)
      replace hx1 := hx1.grown hg (by simp)
      replace hd1 := hd1.grown hg (by simp)
      replace hb := blk_apart hb hg (by simp)
      replace hgW := hgW.trans hg
      clear hg hc
      have hc := cells5 hb
      go_upto_if 81 with fail
      go_cut [15, 17, 18] (fun v15 v17 v18 w' => ∃ a3 c3 a4 c4, v15 = .int .i64 ER ∧ v17 = .slice a3 EX.length c3 ∧ v18 = .slice a4 EV.length c4 ∧ At w' a3 (prs EX) ∧ At w' a4 (prs EV) ∧ wq.grownBy w' none)
      case first =>
        by_cases hF : F = 0
        · subst hF
          have H1 := HExO rfl
          have H2 := HDtO rfl
          clear HExO HDtO HZ
          go_wp2_with fail
          refine (H1.out _ hat).mono ?_
          rintro e w13 ⟨a3, c3, rfl, hx, hg3⟩
          have hx3 := own_at hx
          have hat3 := hat.grown hg3 (by simp)
          have hb3 := blk_apart hb hg3 (by simp)
          have hc3 := cells5 hb3
          clear hx
          go_wp2_with fail
          refine (H2.out _ hat3).mono ?_
          rintro e w14 ⟨a4, c4, rfl, hx, hg4⟩
          have hx4 := own_at hx
          have hx5 := hx3.grown hg4 (by simp)
          clear hx
          go_wp2_with fail
          go_meet
          case rel => exact ⟨a3, c3, a4, c4, rfl, rfl, rfl, hx5, hx4, hg3.trans hg4⟩
        · go_wp2_with fail
          go_meet
          case rel =>
            obtain ⟨h1, h2, h3⟩ := HZ.out.1 hF
            rw [h1, h2, h3]
            exact ⟨none, 0, none, 0, rfl, rfl, rfl, .inl rfl, .inl rfl, grown_refl _ _⟩
      case rest =>
        obtain ⟨a3, c3, a4, c4, rfl, rfl, rfl, hx2, hd2, hg⟩ := hcut
        obtain ⟨wy, rfl⟩ : ∃ x : World, x = wc := ⟨_, rfl⟩
        replace hat := hat.grown hg (by simp)
        replace hx1 := hx1.grown hg (by simp)
        replace hd1 := hd1.grown hg (by simp)
        replace hb := blk_apart hb hg (by simp)
        replace hgW := hgW.trans hg
        clear hg hc HExO HDtO
        have hc := cells5 hb
        go_upto_if 92 with fail
        go_cut [19, 20] (fun v19 v20 w' => v19 = .int .i64 L1 ∧ v20 = .bool L2 ∧ wy.grownBy w' none)
        case first =>
          by_cases hF : LE = 0
          · subst hF
            have H3 := HLaO rfl
            clear HLaO HZ
            go_wp2_with fail
            refine (H3.out _ hat).mono ?_
            rintro e w15 ⟨rfl, hg5⟩
            go_wp2_with fail
            go_meet
            case rel => exact ⟨rfl, rfl, hg5⟩
          · go_wp2_with fail
            go_meet
            case rel =>
              obtain ⟨h1, h2⟩ := HZ.out.2 hF
              rw [h1, h2]
              exact ⟨rfl, rfl, grown_refl _ _⟩
        case rest =>
          obtain ⟨rfl, rfl, hg⟩ := hcut
          obtain ⟨wz, rfl⟩ : ∃ x : World, x = wc := ⟨_, rfl⟩
          replace hat := hat.grown hg (by simp)
          have hxa := hx1.grown hg (by simp)
          have hxb := hx2.grown hg (by simp)
          have hda := hd1.grown hg (by simp)
          have hdb := hd2.grown hg (by simp)
          replace hb := blk_apart hb hg (by simp)
          replace hgW := hgW.trans hg
          clear hg hc HLaO HZ hx1 hx2 hd1 hd2 HF HLE
          have hc := cells5 hb
          have HEqFrac : Hid (∀ W, At W a1 (prs EX) → At W a3 (prs EX) → Calls Try.prog 22 #[.slice a1 EX.length c1, .slice a3 EX.length c3] W fun e w' => e = .returned (.bool true) ∧ W.grownBy w' none) := fun W h1 h2 => (eqfrac_same a1 a3 EX.length c1 c3 EX W rfl hxm h1 h2).mono fun e w' ⟨h1, m, h2⟩ => ⟨h1, by rw [h2]; exact grown_drewN (grown_refl W none) m⟩
          have HEqEvent : Hid (∀ W, At W a2 (prs EV) → At W a4 (prs EV) → Calls Try.prog 23 #[.slice a2 EV.length c2, .slice a4 EV.length c4] W fun e w' => e = .returned (.bool true) ∧ W.grownBy w' none) := fun W h1 h2 => (eqevent_same a2 a4 EV.length c2 c4 EV W rfl hdm h1 h2).mono fun e w' ⟨h1, m, h2⟩ => ⟨h1, by rw [h2]; exact grown_drewN (grown_refl W none) m⟩
          clear hxm hdm
          go_wp2_with fail
          go_region_held3 (fun w' => w'.cell? ⟨B5, 0, none⟩ = some (.int .i64 st) ∧ w'.cell? ⟨B5, 1, none⟩ = some (.int .i64 wd) ∧ w'.cell? ⟨B5, 2, none⟩ = some (.int .i64 ls) ∧ w'.cell? ⟨B5, 3, none⟩ = some (.int .i64 nm) ∧ w'.cell? ⟨B5, 4, none⟩ = some (.int .i64 dn)) (go_keep) (first | (go_at_call 20; go_must (refine (HRC.out _).mono ?_); rintro e wA ⟨rfl, hgA⟩; replace hgA := (grown_drew_r (grown_refl wz none)).trans hgA; have hatA := hat.grown hgA (by simp); have hxaA := hxa.grown hgA (by simp); have hxbA := hxb.grown hgA (by simp); have hdaA := hda.grown hgA (by simp); have hdbA := hdb.grown hgA (by simp); have hbA := blk_apart hb hgA (by simp); have hcA := cells5 hbA; have hgWA := hgW.trans hgA) | (go_at_call 15; go_must (refine (HR.out _).mono ?_); rintro e wB ⟨rfl, hgB⟩; have hatB := hatA.grown hgB (by simp); have hxaB := hxaA.grown hgB (by simp); have hxbB := hxbA.grown hgB (by simp); have hdaB := hdaA.grown hgB (by simp); have hdbB := hdbA.grown hgB (by simp); have hbB := blk_apart hbA hgB (by simp); have hcB := cells5 hbB; have hgWB := hgWA.trans hgB) | (go_at_call 21; go_must (refine (HTC.out _ hatB).mono ?_); rintro e wC ⟨rfl, rfl⟩) | (go_at_call 14; go_must (refine (HT.out _ hatB).mono ?_); rintro e wD ⟨rfl, hgD⟩; have hatD := hatB.grown hgD (by simp); have hxaD := hxaB.grown hgD (by simp); have hxbD := hxbB.grown hgD (by simp); have hdaD := hdaB.grown hgD (by simp); have hdbD := hdbB.grown hgD (by simp); have hbD := blk_apart hbB hgD (by simp); have hcD := cells5 hbD; have hgWD := hgWB.trans hgD) | (go_at_call 22; go_must (refine (HEqFrac.out _ hxaD hxbD).mono ?_); rintro e wE ⟨rfl, hgE⟩; have hatE := hatD.grown hgE (by simp); have hxaE := hxaD.grown hgE (by simp); have hxbE := hxbD.grown hgE (by simp); have hdaE := hdaD.grown hgE (by simp); have hdbE := hdbD.grown hgE (by simp); have hbE := blk_apart hbD hgE (by simp); have hcE := cells5 hbE; have hgWE := hgWD.trans hgE) | (go_at_call 23; go_must (refine (HEqEvent.out _ hdaE hdbE).mono ?_); rintro e wG ⟨rfl, hgG⟩; have hatG := hatE.grown hgG (by simp); have hxaG := hxaE.grown hgG (by simp); have hxbG := hxbE.grown hgG (by simp); have hdaG := hdaE.grown hgG (by simp); have hdbG := hdbE.grown hgG (by simp); have hbG := blk_apart hbE hgG (by simp); have hcG := cells5 hbG; have hgWG := hgWE.trans hgG) | (go_at_call 24; go_must (refine (traced_any _).mono ?_); rintro e wH ⟨rfl, hgH⟩; have hatH := hatG.grown hgH (by simp); have hxaH := hxaG.grown hgH (by simp); have hxbH := hxbG.grown hgH (by simp); have hdaH := hdaG.grown hgH (by simp); have hdbH := hdbG.grown hgH (by simp); have hbH := blk_apart hbG hgH (by simp); have hcH := cells5 hbH; have hgWH := hgWG.trans hgH))
          go_wp2_with fail
          go_ret
          exact ⟨rfl, hgWH⟩
end Go.Proofs.Ytfocpjjcllpfbaa
