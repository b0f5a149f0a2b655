/- Plain facts on fractions in lowest terms; and the walk of Detected. -/
import Derived.Test.YtfocpjjcllpfbaaDetW
import Derived.Deep.RegionHeld3
namespace Go.Proofs.Ytfocpjjcllpfbaa
open Go.RowKit

theorem low_spec (x : Int) (u : Nat) (hu : 1 ≤ u) : ∃ g : Nat, 1 ≤ g ∧ x = g * (low x u).1 ∧ (u : Int) = g * (low x u).2 ∧ 1 ≤ (low x u).2 := by
  have hg0 : (Nat.gcd x.natAbs u : Int) ∣ x := Int.ofNat_dvd_left.2 (Nat.gcd_dvd_left _ _)
  have hg1 : (Nat.gcd x.natAbs u : Int) ∣ (u : Int) := Int.natCast_dvd_natCast.2 (Nat.gcd_dvd_right _ _)
  exact ⟨Nat.gcd x.natAbs u, gcd_pos _ _ hu, (Int.mul_ediv_cancel' hg0).symm, (Int.mul_ediv_cancel' hg1).symm, (low_bd x u hu).2.1⟩
theorem low_lt (x ls : Int) (u : Nat) (hu : 1 ≤ u) : (low x u).1 < ls * (low x u).2 ↔ x < ls * u := by
  obtain ⟨g, hg, h1, h2, _⟩ := low_spec x u hu
  have e : ls * (u : Int) = g * (ls * (low x u).2) := by rw [h2, Int.mul_left_comm]
  have e' : x < ls * u ↔ (g : Int) * (low x u).1 < g * (ls * (low x u).2) := by rw [← h1, ← e]
  rw [e']
  exact (Int.mul_lt_mul_left (by omega)).symm
theorem low_cmp (x y : Int) (u : Nat) (hu : 1 ≤ u) : (low y u).1 * (low x u).2 < (low x u).1 * (low y u).2 ↔ y < x := by
  obtain ⟨g, hg, h1, h2, h3⟩ := low_spec x u hu
  obtain ⟨k, hk, k1, k2, k3⟩ := low_spec y u hu
  have hu' : (0 : Int) < u := by omega
  have e1 : y * (u : Int) = ((k : Int) * g) * ((low y u).1 * (low x u).2) := by
    calc y * (u : Int) = (k * (low y u).1) * (g * (low x u).2) := by rw [← k1, ← h2]
      _ = _ := by simp only [Int.mul_assoc, Int.mul_comm, Int.mul_left_comm]
  have e2 : x * (u : Int) = ((k : Int) * g) * ((low x u).1 * (low y u).2) := by
    calc x * (u : Int) = (g * (low x u).1) * (k * (low y u).2) := by rw [← h1, ← k2]
      _ = _ := by simp only [Int.mul_assoc, Int.mul_comm, Int.mul_left_comm]
  have hkg : (0 : Int) < (k : Int) * g := Int.mul_pos (by omega) (by omega)
  have e3 : y < x ↔ y * (u : Int) < x * u := (Int.mul_lt_mul_right hu').symm
  rw [e3, e1, e2]
  exact (Int.mul_lt_mul_left hkg).symm
theorem low_round (x : Int) (u : Nat) (hu : 1 ≤ u) : (2 * (low x u).1 + (low x u).2) / (2 * (low x u).2) = (2 * x + u) / (2 * u) := by
  obtain ⟨g, hg, h1, h2, h3⟩ := low_spec x u hu
  have e1 : 2 * x + (u : Int) = g * (2 * (low x u).1 + (low x u).2) := by
    rw [Int.mul_add, ← h2, Int.mul_left_comm, ← h1]
  have e2 : 2 * (u : Int) = g * (2 * (low x u).2) := by rw [Int.mul_left_comm, ← h2]
  rw [e1, e2, Int.mul_ediv_mul_of_pos _ _ (by omega)]
theorem cmp3_pos (x y : Int) : 0 < cmp3 x y ↔ y < x := by unfold cmp3; (repeat' split) <;> omega

theorem compareI_any (a c b d : Int) (w : World) (ha : -9223372036854775807 ≤ a ∧ a ≤ 9223372036854775807) (hc : -9223372036854775807 ≤ c ∧ c ≤ 9223372036854775807) (hb : 1 ≤ b ∧ b ≤ 9223372036854775807) (hd : 1 ≤ d ∧ d ≤ 9223372036854775807) :
    Calls Try.prog 42 #[.agg #[.int .i64 a, .int .i64 b], .agg #[.int .i64 c, .int .i64 d]] w fun e w' => e = .returned (.int .i64 (cmp3 (a * d) (c * b))) ∧ w.grownBy w' none := by
  obtain ⟨B, rfl⟩ := Int.eq_ofNat_of_zero_le (show 0 ≤ b by omega)
  obtain ⟨D, rfl⟩ := Int.eq_ofNat_of_zero_le (show 0 ≤ d by omega)
  exact compare_any a c B D w ha hc (by omega) (by omega)

/-- an event at an index, of a raw excess -/
def evR (R : List Int) (W D : Nat) (st : Int) (i : Nat) : Int × Int := (((i : Int) + W) * st, (2 * R.getD i 0 + (W * D : Nat)) / (2 * (W * D : Nat)))
def evsOf (p : List Int) (W D : Nat) (nm ls st : Int) : List (Int × Int) := (bestL (exR p W D nm) (ls * (W * D : Nat))).map (evR (exR p W D nm) W D st)
theorem exL_get (p : List Int) (W D : Nat) (nm : Int) (k : Nat) (h : k < exc p W) : (exL p W D nm).getD k (0, 0) = low ((exR p W D nm).getD k 0) (W * D) := by simp [exL, exR, exf, h]
theorem evF_evR (p : List Int) (W D : Nat) (nm st : Int) (k : Nat) (h : k < exc p W) (hu : 1 ≤ W * D) : evF ((exL p W D nm).getD k (0, 0)) k W st = evR (exR p W D nm) W D st k := by
  rw [exL_get p W D nm k h]; unfold evF evR; rw [low_round _ _ hu]

/-- the machine's state, as the variables hold it -/
def bestV (s : Option Nat × List Nat) : Int := match s.1 with | none => -1 | some b => b
def DRel (W : World) (Br Ba Bb Bo base : Nat) (aF : Option Addr) (cF : Nat) (p : List Int) (Wd D : Nat) (st ls nm : Int) (v25 : Value) (wr : World) : Prop :=
  ∃ k : Nat, k ≤ exc p Wd ∧ v25 = .int .i64 k ∧ DSt W Br Ba Bb Bo base aF cF (exL p Wd D nm) st Wd ls nm D ((pst (exR p Wd D nm) (ls * (Wd * D : Nat)) k).2.map (evR (exR p Wd D nm) Wd D st)) (bestV (pst (exR p Wd D nm) (ls * (Wd * D : Nat)) k)) wr

theorem exL_bd (p : List Int) (W D : Nat) (nm : Int) (ho : p.all okR = true) (hW : 1 ≤ W ∧ W ≤ 100) (hD : 1 ≤ D ∧ D ≤ 1000) (hnm : 0 ≤ nm ∧ nm ≤ 10000) (b : Nat) (hb : b < exc p W) :
    -2100000000 ≤ ((exL p W D nm).getD b (0, 0)).1 ∧ ((exL p W D nm).getD b (0, 0)).1 ≤ 2100000000 ∧ 1 ≤ ((exL p W D nm).getD b (0, 0)).2 ∧ ((exL p W D nm).getD b (0, 0)).2 ≤ 100000 := by
  have hu : 1 ≤ W * D := Nat.mul_pos hW.1 hD.1
  have hu2 : W * D ≤ 100000 := Nat.mul_le_mul hW.2 hD.2
  rw [exL_get p W D nm b hb]
  have h1 := low_bd ((exR p W D nm).getD b 0) (W * D) hu
  have h2 : (exR p W D nm).getD b 0 = exn p W D nm (W + b) := by simp [exR, hb]
  obtain ⟨hB1, hB2, hB3⟩ := exn_bd p ho W D nm (W + b) hW.2 hD.2 hnm (by omega) (by unfold exc at hb; omega)
  rw [h2] at h1 ⊢
  unfold exn at h1 ⊢
  omega

theorem pst_low (R : List Int) (T : Int) (k : Nat) (h : R.getD k 0 < T) : pst R T (k + 1) = (none, flushO (pst R T k)) := by rw [pst, if_pos h]
theorem pst_none (R : List Int) (T : Int) (k : Nat) (h : ¬ R.getD k 0 < T) (hs : (pst R T k).1 = none) : pst R T (k + 1) = (some k, (pst R T k).2) := by rw [pst, if_neg h, hs]
theorem pst_up (R : List Int) (T : Int) (k b : Nat) (h : ¬ R.getD k 0 < T) (hs : (pst R T k).1 = some b) (hc : R.getD b 0 < R.getD k 0) : pst R T (k + 1) = (some k, (pst R T k).2) := by rw [pst, if_neg h, hs]; simp only; rw [if_pos hc]
theorem pst_same (R : List Int) (T : Int) (k b : Nat) (h : ¬ R.getD k 0 < T) (hs : (pst R T k).1 = some b) (hc : ¬ R.getD b 0 < R.getD k 0) : pst R T (k + 1) = pst R T k := by rw [pst, if_neg h, hs]; simp only; rw [if_neg hc]
theorem pst_len2 (R : List Int) (T : Int) (k : Nat) : (pst R T k).2.length ≤ k := by
  have := pst_len R T k
  unfold flushO at this; split at this
  · simp at this; omega
  · exact this

theorem At.pair' {w : World} {b off : Nat} {l : List (Int × Int)} (h : At w (some ⟨b, off, none⟩) (prs l)) {k : Nat} (hk : k < l.length) :
    w.cell? ⟨b, off + k * 2, none⟩ = some (.int .i64 (l.getD k (0, 0)).1) ∧ w.cell? ⟨b, off + k * 2 + 1, none⟩ = some (.int .i64 (l.getD k (0, 0)).2) := by
  obtain ⟨b', off', e, h1, h2⟩ := h.pair hk
  cases e
  exact ⟨h1, h2⟩

/-- flush, whatever the state -/
theorem flush_any {W : World} {Br Ba Bb Bo base : Nat} {aF : Option Addr} {cF : Nat} {p : List Int} {Wd D : Nat} {st ls nm : Int} (s : Option Nat × List Nat) (w : World) (hl : DLay W Br Ba Bb Bo base aF) (ho : p.all okR = true) (hlen : p.length ≤ 5000)
    (hW : 1 ≤ Wd ∧ Wd ≤ 100) (hD : 1 ≤ D ∧ D ≤ 1000) (hnm : 0 ≤ nm ∧ nm ≤ 10000) (hst : 1 ≤ st ∧ st ≤ 100) (hs : ∀ b, s.1 = some b → b < exc p Wd) (hs2 : s.2.length ≤ 5001)
    (h : DSt W Br Ba Bb Bo base aF cF (exL p Wd D nm) st Wd ls nm D (s.2.map (evR (exR p Wd D nm) Wd D st)) (bestV s) w) :
    Calls Try.prog 40 #[.pointer (some ⟨Bb, 0, none⟩), .pointer (some ⟨Ba, 0, none⟩), .pointer (some ⟨Bo, 0, none⟩), .pointer (some ⟨Br, 0, none⟩)] w fun e w' => e = .returned (.tuple #[]) ∧
      DSt W Br Ba Bb Bo base aF cF (exL p Wd D nm) st Wd ls nm D ((flushO s).map (evR (exR p Wd D nm) Wd D st)) (-1) w' := by
  cases hb : s.1 with
  | none =>
    have e : bestV s = -1 := by simp [bestV, hb]
    have e2 : flushO s = s.2 := by simp [flushO, hb]
    rw [e] at h; rw [e2]
    exact flush_neg w hl h
  | some b =>
    have e : bestV s = b := by simp [bestV, hb]
    have e2 : flushO s = s.2 ++ [b] := by simp [flushO, hb]
    have hbl := hs b hb
    have hFl : (exL p Wd D nm).length = exc p Wd := by simp [exL]
    have hu : 1 ≤ Wd * D := Nat.mul_pos hW.1 hD.1
    have hu2 : Wd * D ≤ 100000 := Nat.mul_le_mul hW.2 hD.2
    rw [e] at h; rw [e2, List.map_append, List.map_singleton, ← evF_evR p Wd D nm st b hbl hu]
    have hx : -2100000000 ≤ ((exL p Wd D nm).getD b (0, 0)).1 ∧ ((exL p Wd D nm).getD b (0, 0)).1 ≤ 2100000000 ∧ 1 ≤ ((exL p Wd D nm).getD b (0, 0)).2 ∧ ((exL p Wd D nm).getD b (0, 0)).2 ≤ 100000 := by
      rw [exL_get p Wd D nm b hbl]
      have h1 := low_bd ((exR p Wd D nm).getD b 0) (Wd * D) hu
      have h2 : (exR p Wd D nm).getD b 0 = exn p Wd D nm (Wd + b) := by simp [exR, hbl]
      obtain ⟨hB1, hB2, hB3⟩ := exn_bd p ho Wd D nm (Wd + b) hW.2 hD.2 hnm (by omega) (by unfold exc at hbl; omega)
      rw [h2] at h1 ⊢
      unfold exn at h1 ⊢
      omega
    have := flush_pos b w hl h (by rw [hFl]; exact hbl) (by rw [hFl]; unfold exc; omega) hx hst (by omega) (by simpa using hs2)
    simpa using this

set_option maxHeartbeats 800000 in
theorem Detected_bad (a : Option Addr) (n cap : Nat) (p : List Int) (st wd ls nm dn : Int) (w : World) (hn : n = p.length) (hm : n ≤ maxLen) (h : At w a (ints p)) (hb : nm ≤ 9223372036854775807 ∧ dn ≤ 9223372036854775807) (hf : faultOf p st wd ls nm dn ≠ 0) :
    Calls Try.prog 11 #[.slice a n cap, .agg #[.int .i64 st, .int .i64 wd, .int .i64 ls, .int .i64 nm, .int .i64 dn]] w fun e w' => e = .returned (.tuple #[.slice none 0 0, .int .i64 (faultOf p st wd ls nm dn)]) ∧ w.grownBy w' none := by
  have hcc := cells5 (heap_alloc_new w (.cells #[.int .i64 st, .int .i64 wd, .int .i64 ls, .int .i64 nm, .int .i64 dn] 30))
  have HX := Lib.hid (fault_any a n cap p st wd ls nm dn (w.alloc (.cells #[.int .i64 st, .int .i64 wd, .int .i64 ls, .int .i64 nm, .int .i64 dn] 30)) hn hm (h.alloc _) hb)
  generalize faultOf p st wd ls nm dn = f at *
  have hf' : (f != 0) = true := by simpa using hf
  clear hf h hn
  go_enter Try.func11, Try.ntmps11
  go_wp2_with fail
  refine HX.out.mono ?_
  clear HX hcc
  rintro e w2 ⟨rfl, hg⟩
  go_wp2_with fail
  go_ret2
  exact ⟨rfl, (World.grownBy_alloc w _ none).trans hg⟩

/-- what Detected leaves -/
def DetPost (w : World) (E : List (Int × Int)) (e : Ending) (w' : World) : Prop :=
  w.grownBy w' none ∧ if 100 < E.length then e = .returned (.tuple #[.slice none 0 0, .int .i64 2]) else ∃ a' c', e = .returned (.tuple #[.slice a' E.length c', .int .i64 0]) ∧ w'.ownsRow w.heap.size 54 2 (.slice a' E.length c') E.length (prs E)

set_option maxRecDepth 100000 in
set_option maxHeartbeats 2000000 in
theorem Detected_good (a : Option Addr) (n cap : Nat) (p : List Int) (st ls nm : Int) (W D : Nat) (w : World) (hn : n = p.length) (hcap : n ≤ cap) (hc2 : cap ≤ maxLen) (hm : n ≤ 5000) (ho : p.all okR = true) (h : At w a (ints p))
    (hst : 1 ≤ st ∧ st ≤ 100) (hls : 1 ≤ ls ∧ ls ≤ 10000) (hW : 1 ≤ W ∧ W ≤ 100) (hD : 1 ≤ D ∧ D ≤ 1000) (hnm : 0 ≤ nm ∧ nm ≤ 10000) (hf : faultOf p st W ls nm D = 0) :
    Calls Try.prog 11 #[.slice a n cap, .agg #[.int .i64 st, .int .i64 W, .int .i64 ls, .int .i64 nm, .int .i64 D]] w (DetPost w (evsOf p W D nm ls st)) := by
  have h0 := heap_alloc_new w (.cells #[.int .i64 st, .int .i64 W, .int .i64 ls, .int .i64 nm, .int .i64 D] 30)
  have hcc := cells5 h0
  have HX := Lib.hid (fault_any a n cap p st W ls nm D (w.alloc (.cells #[.int .i64 st, .int .i64 W, .int .i64 ls, .int .i64 nm, .int .i64 D] 30)) hn (by unfold maxLen at *; omega) (h.alloc _) (by omega))
  rw [hf] at HX
  have H0 := Lib.hid h0
  clear h0
  subst hn
  have hm' := hm
  go_enter Try.func11, Try.ntmps11
  go_wp2_with fail
  refine HX.out.mono ?_
  clear HX hcc
  rintro e w2 ⟨rfl, hg⟩
  have hb := (hg.block _ (lt_of_block H0.out) (by simp)).trans H0.out
  have hg0 : w.grownBy w2 none := (World.grownBy_alloc w _ none).trans hg
  have hcc := cells5 (blk_apart hb (World.grownBy_alloc w2 (.cells #[.slice none 0 0] 39) none) (by simp))
  have hat := (h.grown hg0 (by simp)).alloc (.cells #[.slice none 0 0] 39)
  clear H0 hg
  go_wp2_with fail
  refine (excess_any a _ cap p st ls nm W D _ rfl hcap hc2 hm ho hat hW hD hnm).mono ?_
  rintro e w3 ⟨aF, cF, rfl, hownF, hg3⟩
  have hsz2 : w.heap.size < w2.heap.size := lt_of_block hb
  have hBo := (hg3.block _ (lt_of_block (heap_alloc_new w2 (.cells #[.slice none 0 0] 39))) (by simp)).trans (heap_alloc_new w2 (.cells #[.slice none 0 0] 39))
  have hBr := blk_apart (blk_apart hb (World.grownBy_alloc w2 (.cells #[.slice none 0 0] 39) none) (by simp)) hg3 (by simp)
  have hsz3 := lt_of_block hBo
  have hgW3 : w.grownBy w3 none := (hg0.trans (World.grownBy_alloc w2 _ none)).trans hg3
  have hFl : (exL p W D nm).length = exc p W := by simp [exL]
  have hRl : (exR p W D nm).length = exc p W := by simp [exR]
  have hexc : exc p W ≤ 5001 := by unfold exc; omega
  have hlay : DLay w w.heap.size w3.heap.size (w3.heap.size + 1) w2.heap.size (w3.heap.size + 2) aF :=
    ⟨by omega, by omega, by omega, by omega, by omega, fun q hq => by have := own_lt hownF q hq; simp at this; omega⟩
  obtain ⟨w5, hw5⟩ : ∃ w5, w5 = (w3.alloc (.cells #[.slice aF (exL p W D nm).length cF] 35)).alloc (.cells #[.int .i64 (-1)] 3) := ⟨_, rfl⟩
  have hD5 : DSt w w.heap.size w3.heap.size (w3.heap.size + 1) w2.heap.size (w3.heap.size + 2) aF cF (exL p W D nm) st W ls nm D [] (-1) w5 := by
    have hg35 : w3.grownBy w5 none := by rw [hw5]; exact grown_alloc_r (World.grownBy_alloc w3 _ none) _
    refine ⟨blk_apart hBr hg35 (by simp), ?_, ?_, ⟨none, 0, blk_apart hBo hg35 (by simp), World.ownsRow_nil _ _ _ _⟩, (own_at hownF).grown hg35 (by simp), hgW3.trans hg35, by rw [hw5]; simp⟩
    · rw [hw5]; exact (heap_alloc_old _ _ (by simp)).trans (heap_alloc_new w3 _)
    · rw [hw5]; have := heap_alloc_new (w3.alloc (.cells #[.slice aF (exL p W D nm).length cF] 35)) (.cells #[.int .i64 (-1)] 3); simpa using this
  have HW5 := Lib.hid hw5
  have HD5 := Lib.hid hD5
  have HR0 : Hid ((pst (exR p W D nm) (ls * (W * D : Nat)) 0) = (none, [])) := rfl
  have HF := Lib.hid hFl
  have HRl := Lib.hid hRl
  have hFb : (exL p W D nm).length ≤ 5001 := by rw [hFl]; exact hexc
  have hlt3 : w2.heap.size < w3.heap.size := hsz3
  clear hcc hw5 hD5 hBo hBr hb hat hownF hg3 hFl hRl hsz3
  go_wp2_with fail
  rw [← HW5.out]
  have hca := cells1 HD5.out.a
  go_wp2_with fail
  go_loopw [25] (DRel w w.heap.size w3.heap.size (w3.heap.size + 1) w2.heap.size (w3.heap.size + 2) aF cF p W D st ls nm) (fun i _ => (exL p W D nm).length - (intOf i).toNat)
  case atStart => exact ⟨0, by omega, rfl, HD5.out⟩
  case round =>
    clear hca HD5
    obtain ⟨k, hk, rfl, hst'⟩ := hrel
    have hcc := cells5 hst'.r
    have hcb := cells1 hst'.b
    have hfb := free1 hst'.b
    have hca := cells1 hst'.a
    have hszr := hst'.sz
    have hne1 : w.heap.size < wr.heap.size := by omega
    have hne2 : w2.heap.size < wr.heap.size := by omega
    have hne3 : w3.heap.size < wr.heap.size := by omega
    have hne4 : w3.heap.size + 1 < wr.heap.size := by omega
    have hu : 1 ≤ W * D := Nat.mul_pos hW.1 hD.1
    have hlen2 := pst_len2 (exR p W D nm) (ls * (W * D : Nat)) k
    have hbst : ∀ b, (pst (exR p W D nm) (ls * (W * D : Nat)) k).1 = some b → b < k := pst_lt _ _ k
    by_cases hlt : k < (exL p W D nm).length
    · have hlt' : k < exc p W := by rw [← HF.out]; exact hlt
      obtain ⟨bF, oF, rfl, hp1, hp2⟩ := hst'.at_.pair hlt
      have hxb := exL_bd p W D nm ho hW hD hnm k hlt'
      have HX1 : Hid (((exL p W D nm).getD k (0, 0)).1 < ls * ((exL p W D nm).getD k (0, 0)).2 ↔ (exR p W D nm).getD k 0 < ls * (W * D : Nat)) := by
        show _ ↔ _; rw [exL_get p W D nm k hlt']; exact low_lt _ _ _ hu
      have HST := Lib.hid hst'
      have HBS := Lib.hid hbst
      obtain ⟨x, HXQ⟩ : ∃ x, Hid ((exL p W D nm).getD k (0, 0) = x) := ⟨_, rfl⟩
      rw [HXQ.out] at hp1 hp2 hxb HX1
      have hm := mul_bd ls x.2 10000 100000 (by omega) (by omega) (by omega)
      clear hst' hbst
      by_cases hc : x.1 < ls * x.2
      · have hP := pst_low _ _ _ (HX1.out.1 hc)
        have HP := Lib.hid hP
        clear hP
        go_wp2_with fail
        refine (flush_any (pst (exR p W D nm) (ls * (W * D : Nat)) k) _ hlay ho hm' hW hD hnm hst (fun b hb => by have := HBS.out b hb; omega) (by omega) (HST.out.quiet (World.grownBy_alloc _ _ _))).mono ?_
        rintro e w6 ⟨rfl, hst6⟩
        have H6 := Lib.hid hst6
        clear hst6
        go_wp2_with fail
        exact ⟨⟨k + 1, by omega, by go_num, by rw [HP.out]; exact H6.out⟩, by simp [intOf]; omega⟩
      · have hnl : ¬ (exR p W D nm).getD k 0 < ls * (W * D : Nat) := fun h => hc (HX1.out.2 h)
        have HNL := Lib.hid hnl
        clear hnl
        cases hbs : (pst (exR p W D nm) (ls * (W * D : Nat)) k).1 with
        | none =>
          have e1 : bestV (pst (exR p W D nm) (ls * (W * D : Nat)) k) = -1 := by unfold bestV; rw [hbs]
          rw [e1] at hcb
          have HP := Lib.hid (pst_none _ _ _ HNL.out hbs)
          clear e1 hbs
          go_wp2_with fail
          go_quiet (fail)
          go_wp2_with fail
          refine ⟨⟨k + 1, by omega, by go_num, ?_⟩, by simp [intOf]; omega⟩
          rw [HP.out]
          exact ((HST.out.quiet (World.grownBy_alloc _ _ _)).quiet (grown_drewN (grown_refl _ _) _)).best hlay k
        | some b =>
          have e1 : bestV (pst (exR p W D nm) (ls * (W * D : Nat)) k) = b := by unfold bestV; rw [hbs]
          rw [e1] at hcb
          have hbk := HBS.out b hbs
          have HE1 := Lib.hid e1
          have HB := Lib.hid hbs
          obtain ⟨bF', oF', hab, hy1, hy2⟩ := HST.out.at_.pair (k := b) (by omega)
          cases hab
          have hyb := exL_bd p W D nm ho hW hD hnm b (by omega)
          have HX2 : Hid (((exL p W D nm).getD b (0, 0)).1 * ((exL p W D nm).getD k (0, 0)).2 < ((exL p W D nm).getD k (0, 0)).1 * ((exL p W D nm).getD b (0, 0)).2 ↔ (exR p W D nm).getD b 0 < (exR p W D nm).getD k 0) := by
            show _ ↔ _; rw [exL_get p W D nm k hlt', exL_get p W D nm b (by omega)]; exact low_cmp _ _ _ hu
          obtain ⟨y, HYQ⟩ : ∃ y, Hid ((exL p W D nm).getD b (0, 0) = y) := ⟨_, rfl⟩
          rw [HXQ.out, HYQ.out] at HX2
          rw [HYQ.out] at hy1 hy2 hyb
          have hbF := (hlay.f _ rfl).1
          simp only at hbF
          have hbFl : bF < wr.heap.size := by omega
          have h0b : (0 : Int) ≤ (b : Int) := by omega
          have hbi : (b : Int) < ((exL p W D nm).length : Int) := by omega
          have hbl : b < (exL p W D nm).length := by omega
          clear e1 hbs
          have S1 := heap_alloc_new wr (.cells #[.int .i64 x.1, .int .i64 x.2] 28)
          have HS1 := Lib.hid S1
          clear S1
          by_cases hup : (exR p W D nm).getD b 0 < (exR p W D nm).getD k 0
          all_goals
            have HUP := Lib.hid hup
            have hcm := HX2.out
            have hcm2 := cmp3_pos (x.1 * y.2) (y.1 * x.2)
            have HCM : Hid ((0 < cmp3 (x.1 * y.2) (y.1 * x.2)) ↔ (exR p W D nm).getD b 0 < (exR p W D nm).getD k 0) := hcm2.trans hcm
            clear hcm hcm2 hup
            go_wp2_with fail
            go_region_held3 (fun w' => w'.cell? ⟨w3.heap.size + 1, 0, none⟩ = some (.int .i64 b) ∧ w'.cell? ⟨w3.heap.size, 0, none⟩ = some (.slice (some ⟨bF, oF, none⟩) (exL p W D nm).length cF) ∧ w'.cell? ⟨wr.heap.size, 0, none⟩ = some (.int .i64 x.1) ∧ w'.cell? ⟨wr.heap.size, 1, none⟩ = some (.int .i64 x.2) ∧ w'.cell? ⟨bF, oF + b * 2, none⟩ = some (.int .i64 y.1) ∧ w'.cell? ⟨bF, oF + b * 2 + 1, none⟩ = some (.int .i64 y.2)) (go_keep) (first | (go_at_call 42; go_must (refine (compareI_any x.1 y.1 x.2 y.2 _ (by omega) (by omega) (by omega) (by omega)).mono ?_); rintro e w7 ⟨rfl, hg7⟩; have hst7 := (HST.out.quiet (World.grownBy_alloc wr (.cells #[.int .i64 x.1, .int .i64 x.2] 28) none)).quiet (show World.grownBy _ w7 none from ⟨hg7.os, hg7.tape, hg7.output, hg7.size, hg7.block⟩); have k1 := cells1 hst7.b; have k2 := cells1 hst7.a; have k3 := cells2 ((hg7.block _ (lt_of_block HS1.out) (by simp)).trans HS1.out); have k4 := hst7.at_.pair' (k := b) hbl; rw [HE1.out] at k1; rw [HYQ.out] at k4; have H7 := Lib.hid hst7; clear hst7))
            have hfz7 := free1 H7.out.b
          · have hpos : 0 < cmp3 (x.1 * y.2) (y.1 * x.2) := HCM.out.2 HUP.out
            have HP := Lib.hid (pst_up _ _ _ _ (Int.not_lt.2 HNL.out) HB.out HUP.out)
            go_wp2_with fail
            refine ⟨⟨k + 1, by omega, by go_num, ?_⟩, by simp [intOf]; omega⟩
            rw [HP.out]
            exact H7.out.best hlay k
          · have hpos : ¬ 0 < cmp3 (x.1 * y.2) (y.1 * x.2) := fun h => Int.not_lt.2 HUP.out (HCM.out.1 h)
            have hpos' : decide (0 < cmp3 (x.1 * y.2) (y.1 * x.2)) = false := decide_eq_false hpos
            have HP := Lib.hid (pst_same _ _ _ _ (Int.not_lt.2 HNL.out) HB.out (Int.not_lt.2 HUP.out))
            go_wp2_with fail
            refine ⟨⟨k + 1, by omega, by go_num, ?_⟩, by simp [intOf]; omega⟩
            rw [HP.out]
            exact H7.out
    · have hk2 : k = exc p W := by have := HF.out; omega
      have HE : Hid ((flushO (pst (exR p W D nm) (ls * (W * D : Nat)) k)).map (evR (exR p W D nm) W D st) = evsOf p W D nm ls st) := by
        show _ = _; rw [hk2, ← HRl.out, flush_pst]; rfl
      have HST := Lib.hid hst'
      have HBS := Lib.hid hbst
      clear hst' hbst
      go_wp2_with fail
      refine (flush_any (pst (exR p W D nm) (ls * (W * D : Nat)) k) _ hlay ho hm' hW hD hnm hst (fun b hb => by have := HBS.out b hb; omega) (by omega) HST.out).mono ?_
      rw [HE.out]
      rintro e w6 ⟨rfl, hst6⟩
      generalize evsOf p W D nm ls st = E at *
      obtain ⟨ao, co, hBo6, hown6⟩ := hst6.o
      have hco := cells1 hBo6
      have hg6 := hst6.g
      by_cases hE : 100 < E.length
      · clear hst6 hcc hcb hfb hca
        go_wp2_with fail
        go_ret2
        exact ⟨hg6, by rw [if_pos hE]; rfl⟩
      · clear hst6 hcc hcb hfb hca
        go_wp2_with fail
        go_ret2
        exact ⟨hg6, by rw [if_neg hE]; exact ⟨ao, co, rfl, own_base hown6 (by have := hgW3.size; omega)⟩⟩
end Go.Proofs.Ytfocpjjcllpfbaa
