/- Walks: the events of a trace, as the reference finds them. -/
import Derived.Test.YtfocpjjcllpfbaaDetX
import Derived.Test.YtfocpjjcllpfbaaStep
namespace Go.Proofs.Ytfocpjjcllpfbaa
open Go.RowKit

/-- index i (an int) belongs to a run -/
def isZ (R : List Int) (T : Int) (i : Int) : Bool := decide (0 ≤ i) && isN R T i.toNat
theorem isZ_neg {R : List Int} {T i : Int} (h : i < 0) : isZ R T i = false := by unfold isZ; rw [decide_eq_false (by omega)]; rfl
theorem isZ_nat (R : List Int) (T : Int) (i : Nat) : isZ R T (i : Int) = isN R T i := by unfold isZ; rw [decide_eq_true (by omega)]; simp

/-- what the variables of the reference's function hold -/
structure RSt (Br Bx Bu : Nat) (aR : Option Addr) (cR : Nat) (R : List Int) (st wd ls nm dn u : Int) (w : World) : Prop where
  r : w.heap[Br]? = some (.cells #[.int .i64 st, .int .i64 wd, .int .i64 ls, .int .i64 nm, .int .i64 dn] 30 (0, 0))
  x : w.heap[Bx]? = some (.cells #[.slice aR R.length cR] 22 (0, 0))
  u : w.heap[Bu]? = some (.cells #[.int .i64 u] 3 (0, 0))
  at_ : At w aR (ints R)
theorem RSt.kept {Br Bx Bu : Nat} {aR : Option Addr} {cR : Nat} {R : List Int} {st wd ls nm dn u : Int} {w w' : World} {row : Option Nat} {B : Nat} (h : RSt Br Bx Bu aR cR R st wd ls nm dn u w) (hg : w.grownBy w' row)
    (hl : Br < B ∧ Bx < B ∧ Bu < B ∧ ∀ p, aR = some p → p.block < B) (hr : ∀ b, row = some b → B ≤ b) : RSt Br Bx Bu aR cR R st wd ls nm dn u w' :=
  ⟨blk_apart h.r hg (fun k hk => by have := hr k hk; omega), blk_apart h.x hg (fun k hk => by have := hr k hk; omega), blk_apart h.u hg (fun k hk => by have := hr k hk; omega), h.at_.apart hg hl.2.2.2 hr⟩
theorem RSt.drewN {Br Bx Bu : Nat} {aR : Option Addr} {cR : Nat} {R : List Int} {st wd ls nm dn u : Int} {w : World} (h : RSt Br Bx Bu aR cR R st wd ls nm dn u w) (n : Nat) : RSt Br Bx Bu aR cR R st wd ls nm dn u (w.drewN n) := ⟨h.r, h.x, h.u, h.at_⟩

set_option maxHeartbeats 1000000 in
theorem is_any {Br Bx Bu : Nat} {aR : Option Addr} {cR : Nat} {R : List Int} {st wd ls nm dn u : Int} (i : Int) (w : World) (h : RSt Br Bx Bu aR cR R st wd ls nm dn u w) (hR : R.length ≤ 5001) (hls : 1 ≤ ls ∧ ls ≤ 10000) (hu : 1 ≤ u ∧ u ≤ 100000) :
    Calls Try.prog 50 #[.int .i64 i, .pointer (some ⟨Bx, 0, none⟩), .pointer (some ⟨Br, 0, none⟩), .pointer (some ⟨Bu, 0, none⟩)] w fun e w' => e = .returned (.bool (isZ R (ls * u) i)) ∧ ∃ m, w' = w.drewN m := by
  have hcx := cells1 h.x
  have hcr := cells5 h.r
  have hcu := cells1 h.u
  have hm := mul_bd ls u 10000 100000 (by omega) (by omega) (by omega)
  by_cases h0 : i < 0
  · have H := Lib.hid (isZ_neg (R := R) (T := ls * u) h0)
    have hd : decide (0 ≤ i) = false := decide_eq_false (by omega)
    clear h
    go_enter Try.func50, Try.ntmps50
    go_wp2_with fail
    go_quiet (fail)
    go_wp2_with fail
    go_ret
    exact ⟨ret_bool H.out.symm, _, rfl⟩
  · obtain ⟨k, rfl⟩ := Int.eq_ofNat_of_zero_le (show 0 ≤ i by omega)
    have H := Lib.hid (isZ_nat R (ls * u) k)
    have hd : decide (0 ≤ (k : Int)) = true := decide_eq_true (by omega)
    by_cases hk : k < R.length
    · have H' : Hid (isN R (ls * u) k = decide (ls * u ≤ R.getD k 0)) := by show _ = _; unfold isN; rw [decide_eq_true hk]; rfl
      obtain ⟨b, off, rfl, hck⟩ := h.at_.int hk
      have hki : (k : Int) < (R.length : Int) := by omega
      have hd2 : decide ((k : Int) < (R.length : Int)) = true := decide_eq_true hki
      clear h
      generalize R.getD k 0 = y at *
      go_enter Try.func50, Try.ntmps50
      go_wp2_with fail
      go_quiet (fail)
      go_wp2_with fail
      go_ret
      exact ⟨ret_bool (by rw [H.out, H'.out]), _, rfl⟩
    · have H' : Hid (isN R (ls * u) k = false) := by show _ = _; unfold isN; rw [decide_eq_false hk]; rfl
      have hd2 : decide ((k : Int) < (R.length : Int)) = false := decide_eq_false (by omega)
      clear h
      go_enter Try.func50, Try.ntmps50
      go_wp2_with fail
      go_quiet (fail)
      go_wp2_with fail
      go_ret
      exact ⟨ret_bool (by rw [H.out, H'.out]), _, rfl⟩

theorem lft_exit {R : List Int} {T x : Int} {j : Nat} (h : isZ R T ((j : Int) - 1) = false) : lft R T x j = true := by
  cases j with
  | zero => rfl
  | succ j =>
    have e : isZ R T (((j + 1 : Nat) : Int) - 1) = isN R T j := by rw [show ((j + 1 : Nat) : Int) - 1 = (j : Int) by omega]; exact isZ_nat R T j
    rw [e] at h
    unfold lft; rw [if_neg (by rw [h]; simp)]
theorem lft_go {R : List Int} {T x : Int} {j : Nat} (h : isN R T j = true) : lft R T x (j + 1) = (decide (R.getD j 0 < x) && lft R T x j) := by
  conv => lhs; unfold lft
  rw [if_pos h]
theorem rgt_exit {R : List Int} {T x : Int} {m s : Nat} (h : isN R T s = false) : rgt R T x m s = true := by
  cases m with
  | zero => rfl
  | succ m => unfold rgt; rw [if_neg (by rw [h]; simp)]
theorem rgt_go {R : List Int} {T x : Int} {m s : Nat} (h : isN R T s = true) : rgt R T x (m + 1) s = (decide (R.getD s 0 ≤ x) && rgt R T x m (s + 1)) := by
  conv => lhs; unfold rgt
  rw [if_pos h]

theorem At.int' {w : World} {b off : Nat} {xs : List Int} (h : At w (some ⟨b, off, none⟩) (ints xs)) {k : Nat} (hk : k < xs.length) : w.cell? ⟨b, off + k, none⟩ = some (.int .i64 (xs.getD k 0)) := by
  obtain ⟨b', off', e, h1⟩ := h.int hk
  cases e; exact h1

/-- what the rounds keep -/
def ORel (w : World) (Br Bx Bu B : Nat) (aR : Option Addr) (cR : Nat) (R : List Int) (W D : Nat) (st ls nm T : Int) (v9 v26 : Value) (wr : World) : Prop :=
  ∃ (a : Option Addr) (c k n : Nat), k ≤ R.length ∧ Hid (((List.range k).filter (bestB R T)).length = n) ∧ n ≤ k ∧ v26 = .int .i64 k ∧ v9 = .slice a n c ∧
    wr.ownsRow B 54 2 (.slice a n c) n (prs (((List.range k).filter (bestB R T)).map (evR R W D st))) ∧ RSt Br Bx Bu aR cR R st W ls nm D ((W : Int) * D) wr ∧ w.grownBy wr none ∧ B ≤ wr.heap.size
def LRel (R : List Int) (T x : Int) (tgt : Bool) (w : World) (v11 v12 : Value) (wr : World) : Prop :=
  ∃ (b : Bool) (j m : Nat), j ≤ R.length ∧ Hid ((b && lft R T x j) = tgt) ∧ v11 = .bool b ∧ v12 = .int .i64 ((j : Int) - 1) ∧ Hid (wr = w.drewN m)
def GRel (R : List Int) (T x : Int) (tgt : Bool) (w : World) (v11 v13 : Value) (wr : World) : Prop :=
  ∃ (b : Bool) (s m : Nat), s ≤ R.length ∧ Hid ((b && rgt R T x (R.length - s) s) = tgt) ∧ v11 = .bool b ∧ v13 = .int .i64 s ∧ Hid (wr = w.drewN m)

set_option maxRecDepth 100000 in
set_option maxHeartbeats 4000000 in
theorem DetectedOf_any (a : Option Addr) (n cap : Nat) (p : List Int) (st ls nm : Int) (W D : Nat) (w : World) (hn : n = p.length) (hcap : n ≤ cap) (hc2 : cap ≤ maxLen) (hm : n ≤ 5000) (ho : p.all okR = true) (h : At w a (ints p))
    (hst : 1 ≤ st ∧ st ≤ 100) (hls : 1 ≤ ls ∧ ls ≤ 10000) (hW : 1 ≤ W ∧ W ≤ 100) (hD : 1 ≤ D ∧ D ≤ 1000) (hnm : 0 ≤ nm ∧ nm ≤ 10000) :
    Calls Try.prog 18 #[.slice a n cap, .agg #[.int .i64 st, .int .i64 W, .int .i64 ls, .int .i64 nm, .int .i64 D]] w (DetPost w (evsOf p W D nm ls st)) := by
  have h0 := heap_alloc_new w (.cells #[.int .i64 st, .int .i64 W, .int .i64 ls, .int .i64 nm, .int .i64 D] 30)
  have hcc := cells5 h0
  have HX := Lib.hid (excesses_any a n cap p st ls nm W D (w.alloc (.cells #[.int .i64 st, .int .i64 W, .int .i64 ls, .int .i64 nm, .int .i64 D] 30)) hn hcap hc2 hm ho (h.alloc _) hW hD hnm)
  have H0 := Lib.hid h0
  have hRl : (exR p W D nm).length ≤ 5001 := by simp [exR]; unfold exc; omega
  have hRb : ∀ i, i < (exR p W D nm).length → -2100000000 ≤ (exR p W D nm).getD i 0 ∧ (exR p W D nm).getD i 0 ≤ 2100000000 := by
    intro i hi
    have hi' : i < exc p W := by simpa [exR] using hi
    have h2 : (exR p W D nm).getD i 0 = exn p W D nm (W + i) := by simp [exR, hi']
    obtain ⟨hB1, hB2, hB3⟩ := exn_bd p ho W D nm (W + i) hW.2 hD.2 hnm (by omega) (by unfold exc at hi'; omega)
    rw [h2]; unfold exn; omega
  have HRb := Lib.hid hRb
  have HE : Hid (evsOf p W D nm ls st = ((List.range (exR p W D nm).length).filter (bestB (exR p W D nm) (ls * ((W : Int) * D)))).map (evR (exR p W D nm) W D st)) := by
    show _ = _; unfold evsOf bestL; rw [Int.natCast_mul]
  rw [HE.out]
  have hWD : (1 : Int) ≤ (W : Int) * D ∧ (W : Int) * D ≤ 100000 := by
    have := mul_bd (W : Int) D 100 1000 (by omega) (by omega) (by omega)
    have h2 : (1 : Int) * 1 ≤ (W : Int) * D := Int.mul_le_mul (by omega) (by omega) (by omega) (by omega)
    omega
  clear h0 hRb HE h hnm
  subst hn
  generalize exR p W D nm = R at *
  go_enter Try.func18, Try.ntmps18
  go_wp2_with fail
  refine HX.out.mono ?_
  clear HX hcc
  rintro e w2 ⟨aR, cR, rfl, hown1, hg2⟩
  have hBr := (hg2.block _ (lt_of_block H0.out) (by simp)).trans H0.out
  have hg0 : w.grownBy w2 none := (World.grownBy_alloc w _ none).trans hg2
  have hat1 := own_at hown1
  have hlt1 : ∀ p, aR = some p → p.block < w2.heap.size := fun p hp => (own_lt hown1 p hp).2
  have hb3 : w.heap.size < w2.heap.size := lt_of_block hBr
  obtain ⟨w3, hw3⟩ : ∃ w3, w3 = (w2.alloc (.cells #[.slice aR R.length cR] 22)).alloc (.cells #[.int .i64 ((W : Int) * D)] 3) := ⟨_, rfl⟩
  have hg23 : w2.grownBy w3 none := by rw [hw3]; exact grown_alloc_r (World.grownBy_alloc w2 _ none) _
  have hR3 : RSt w.heap.size w2.heap.size (w2.heap.size + 1) aR cR R st W ls nm D ((W : Int) * D) w3 := by
    refine ⟨blk_apart hBr hg23 (by simp), ?_, ?_, hat1.grown hg23 (by simp)⟩
    · rw [hw3]; exact (heap_alloc_old _ _ (by simp)).trans (heap_alloc_new w2 _)
    · rw [hw3]; have := heap_alloc_new (w2.alloc (.cells #[.slice aR R.length cR] 22)) (.cells #[.int .i64 ((W : Int) * D)] 3); simpa using this
  have hsz3 : w2.heap.size + 2 = w3.heap.size := by rw [hw3]; simp
  have HS3 := Lib.hid hsz3
  have HW3 := Lib.hid hw3
  have HR3 := Lib.hid hR3
  have hg03 := hg0.trans hg23
  have hcr := cells5 hBr
  clear hw3 hR3 hsz3 hg23 hg2 hown1 hat1 H0
  go_wp2_with fail
  rw [← HW3.out]
  have hcx := cells1 HR3.out.x
  go_wp2_with fail
  go_loopw [9, 26] (ORel w w.heap.size w2.heap.size (w2.heap.size + 1) w3.heap.size aR cR R W D st ls nm (ls * ((W : Int) * D))) (fun _ i _ => R.length - (intOf i).toNat)
  case atStart => exact ⟨none, 0, 0, 0, by omega, by exact Lib.hid rfl, by omega, rfl, rfl, World.ownsRow_nil _ _ _ _, HR3.out, hg03, Nat.le_refl _⟩
  case round =>
    clear hcx hcr
    obtain ⟨wo, rfl⟩ : ∃ wo : World, wo = wr := ⟨_, rfl⟩
    obtain ⟨a2, c2, k, n, hk, hnl, hnk, rfl, rfl, hown, hR, hg, hB⟩ := hrel
    have hlay : w.heap.size < w3.heap.size ∧ w2.heap.size < w3.heap.size ∧ w2.heap.size + 1 < w3.heap.size ∧ ∀ p, aR = some p → p.block < w3.heap.size :=
      ⟨by have := HS3.out; omega, by have := HS3.out; omega, by have := HS3.out; omega, fun p hp => by have := hlt1 p hp; have := HS3.out; omega⟩
    by_cases hlt : k < R.length
    · have HR := Lib.hid hR
      obtain ⟨bR, oR, rfl, hcki⟩ := hR.at_.int hlt
      have hcx := cells1 hR.x
      have hxi := HRb.out k hlt
      clear hR
      have hki : (k : Int) < (R.length : Int) := by omega
      obtain ⟨xi, HXI⟩ : ∃ xi, Hid (R.getD k 0 = xi) := ⟨_, rfl⟩
      rw [HXI.out] at hcki hxi
      go_wp2_with fail
      refine (is_any (k : Int) _ HR.out hRl hls hWD).mono ?_
      rw [isZ_nat]
      rintro e w4 ⟨rfl, m4, hw4⟩
      have HW4 := Lib.hid hw4
      clear hw4
      generalize hb0 : isN R (ls * ((W : Int) * D)) k = b0 at *
      have HB0 := Lib.hid hb0
      clear hb0
      go_wp2_with fail
      go_loopw [11, 12] (LRel R (ls * ((W : Int) * D)) xi (b0 && lft R (ls * ((W : Int) * D)) xi k) wo) (fun _ i _ => (intOf i + 1).toNat)
      case atStart => exact ⟨b0, k, m4, hk, by exact Lib.hid rfl, rfl, rfl, HW4⟩
      case round =>
        obtain ⟨b, j, m5, hj, htg, rfl, rfl, hw5⟩ := hrel
        have hR5 : RSt w.heap.size w2.heap.size (w2.heap.size + 1) (some ⟨bR, oR, none⟩) cR R st W ls nm D ((W : Int) * D) wr := by rw [hw5.out]; exact HR.out.drewN _
        go_wp2_with fail
        refine (is_any ((j : Int) - 1) _ hR5 hRl hls hWD).mono ?_
        rintro e w6 ⟨rfl, m6, hw6⟩
        have HW6 : Hid (w6 = wo.drewN (m5 + m6)) := by show _ = _; rw [hw6, hw5.out]; exact drewN_add _ _ _
        have hR6 : RSt w.heap.size w2.heap.size (w2.heap.size + 1) (some ⟨bR, oR, none⟩) cR R st W ls nm D ((W : Int) * D) w6 := by rw [HW6.out]; exact HR.out.drewN _
        have hcx6 := cells1 hR6.x
        have hci6 := hR6.at_.int' hlt
        rw [HXI.out] at hci6
        clear hw6 hw5 hR5
        cases hz : isZ R (ls * ((W : Int) * D)) ((j : Int) - 1) with
        | true =>
          have HZ := Lib.hid hz
          clear hz
          obtain ⟨j, rfl⟩ : ∃ j', j = j' + 1 := by
            cases j with
            | zero => have := HZ.out; rw [isZ_neg (by omega)] at this; cases this
            | succ j => exact ⟨j, rfl⟩
          have HZ' : Hid (isN R (ls * ((W : Int) * D)) j = true) := by
            show _ = _; have := HZ.out; rw [show ((j + 1 : Nat) : Int) - 1 = (j : Int) by omega, isZ_nat] at this; exact this
          have hjl : j < R.length := by omega
          have hji : (j : Int) < (R.length : Int) := by omega
          have hcj6 := hR6.at_.int' hjl
          obtain ⟨xj, HXJ⟩ : ∃ xj, Hid (R.getD j 0 = xj) := ⟨_, rfl⟩
          rw [HXJ.out] at hcj6
          have HT : Hid ((b && (decide (xj < xi) && lft R (ls * ((W : Int) * D)) xi j)) = (b0 && lft R (ls * ((W : Int) * D)) xi k)) := by
            show _ = _; rw [← htg.out, lft_go HZ'.out, HXJ.out]
          clear hR6 HZ htg
          cases b with
          | false =>
            go_wp2_with fail
            go_quiet (fail)
            go_wp2_with fail
            refine ⟨⟨false, j, m5 + m6 + _, by omega, by exact HT, rfl, rfl, (by show _ = _; rw [HW6.out]; exact drewN_add _ _ _)⟩, by simp [intOf]⟩
          | true =>
            go_wp2_with fail
            go_quiet (fail)
            go_wp2_with fail
            refine ⟨⟨decide (xj < xi), j, m5 + m6 + _, by omega, (by show _ = _; rw [← HT.out, Bool.true_and]), rfl, rfl, (by show _ = _; rw [HW6.out]; exact drewN_add _ _ _)⟩, by simp [intOf]⟩
        | false =>
          have HB1 : Hid (b = (b0 && lft R (ls * ((W : Int) * D)) xi k)) := by show _ = _; rw [← htg.out, lft_exit hz, Bool.and_true]
          have HBB : Hid (bestB R (ls * ((W : Int) * D)) k = (b && rgt R (ls * ((W : Int) * D)) xi (R.length - (k + 1)) (k + 1))) := by
            show _ = _; unfold bestB; rw [HB0.out, HXI.out, HB1.out, Bool.and_assoc]
          clear hz htg HB1 HB0 hci6 hcx6 hR6
          generalize hb1 : (b && rgt R (ls * ((W : Int) * D)) xi (R.length - (k + 1)) (k + 1)) = tgt at *
          have HTG := Lib.hid hb1
          clear hb1
          go_wp2_with fail
          go_loopw [11, 13] (GRel R (ls * ((W : Int) * D)) xi tgt wo) (fun _ i _ => R.length + 1 - (intOf i).toNat)
          case atStart => exact ⟨b, k + 1, _, by omega, HTG, rfl, by go_num, HW6⟩
          case round =>
            clear HTG HW6
            obtain ⟨b2, s, m7, hs, htg, rfl, rfl, hw7⟩ := hrel
            have hR7 : RSt w.heap.size w2.heap.size (w2.heap.size + 1) (some ⟨bR, oR, none⟩) cR R st W ls nm D ((W : Int) * D) wr := by rw [hw7.out]; exact HR.out.drewN _
            go_wp2_with fail
            refine (is_any (s : Int) _ hR7 hRl hls hWD).mono ?_
            rw [isZ_nat]
            rintro e w8 ⟨rfl, m8, hw8⟩
            have HW8 : Hid (w8 = wo.drewN (m7 + m8)) := by show _ = _; rw [hw8, hw7.out]; exact drewN_add _ _ _
            have hR8 : RSt w.heap.size w2.heap.size (w2.heap.size + 1) (some ⟨bR, oR, none⟩) cR R st W ls nm D ((W : Int) * D) w8 := by rw [HW8.out]; exact HR.out.drewN _
            have hcx8 := cells1 hR8.x
            have hci8 := hR8.at_.int' hlt
            rw [HXI.out] at hci8
            clear hw8 hw7 hR7
            cases hz : isN R (ls * ((W : Int) * D)) s with
            | true =>
              have hsl := isN_lt _ _ hz
              have HT : Hid ((b2 && (decide (R.getD s 0 ≤ xi) && rgt R (ls * ((W : Int) * D)) xi (R.length - (s + 1)) (s + 1))) = tgt) := by
                show _ = _; rw [← htg.out, show R.length - s = (R.length - (s + 1)) + 1 by omega, rgt_go hz]
              have hsi : (s : Int) < (R.length : Int) := by omega
              have hcs8 := hR8.at_.int' hsl
              obtain ⟨xs, HXS⟩ : ∃ xs, Hid (R.getD s 0 = xs) := ⟨_, rfl⟩
              rw [HXS.out] at hcs8 HT
              clear hR8 hz htg
              cases b2 with
              | false =>
                go_wp2_with fail
                go_quiet (fail)
                go_wp2_with fail
                exact ⟨⟨false, s + 1, m7 + m8 + _, by omega, by exact HT, rfl, by go_num, (by show _ = _; rw [HW8.out]; exact drewN_add _ _ _)⟩, by simp [intOf]; omega⟩
              | true =>
                go_wp2_with fail
                go_quiet (fail)
                go_wp2_with fail
                exact ⟨⟨decide (xs ≤ xi), s + 1, m7 + m8 + _, by omega, (by show _ = _; rw [← HT.out, Bool.true_and]), rfl, by go_num, (by show _ = _; rw [HW8.out]; exact drewN_add _ _ _)⟩, by simp [intOf]; omega⟩
            | false =>
              have HB2 : Hid (bestB R (ls * ((W : Int) * D)) k = b2) := by show _ = _; rw [HBB.out, ← htg.out, rgt_exit hz, Bool.and_true]
              clear hz htg HBB
              have hown8 : w8.ownsRow w3.heap.size 54 2 (.slice a2 n c2) n (prs (((List.range k).filter (bestB R (ls * ((W : Int) * D)))).map (evR R W D st))) := by rw [HW8.out]; exact own_drewN hown _
              have hg8 : w.grownBy w8 none := by rw [HW8.out]; exact grown_drewN hg _
              have hB8 : w3.heap.size ≤ w8.heap.size := by rw [HW8.out]; exact hB
              have HR8 := Lib.hid hR8
              cases b2 with
              | false =>
                clear hR8 hcx8 hci8
                go_wp2_with fail
                refine ⟨⟨a2, c2, k + 1, n, by omega, ?_, by omega, by go_num, rfl, ?_, HR8.out, hg8, hB8⟩, by simp [intOf]; omega⟩
                · show _ = _; rw [List.range_succ, List.filter_append, List.length_append]; simp [HB2.out, hnl.out]
                · rw [List.range_succ, List.filter_append]; simpa [HB2.out] using hown8
              | true =>
                have hcr8 := cells5 hR8.r
                have hcu8 := cells1 hR8.u
                have HEV : Hid (evR R W D st k = (((k : Int) + W) * st, (2 * xi + (W : Int) * D) / (2 * ((W : Int) * D)))) := by show _ = _; unfold evR; rw [HXI.out, Int.natCast_mul]
                obtain ⟨q, HQ⟩ : ∃ q, Hid (evR R W D st k = q) := ⟨_, rfl⟩
                rw [HQ.out] at HEV
                have hm1 := mul_bd ((k : Int) + W) st 5200 100 (by omega) (by omega) (by omega)
                obtain ⟨q1, HQ1⟩ : ∃ q1, Hid (((k : Int) + W) * st = q1) := ⟨_, rfl⟩
                clear hR8
                have hnew := World.new_ne w8 ⟨w.heap.size, 0, none⟩ hcr8.1
                have hnew1 := World.new_ne w8 ⟨w2.heap.size, 0, none⟩ hcx8
                have hnew2 := World.new_ne w8 ⟨w2.heap.size + 1, 0, none⟩ hcu8
                have hnew3 := World.new_ne w8 ⟨bR, oR + k, none⟩ hci8
                have f1 : -9223372036854775807 ≤ 2 * xi + (W : Int) * D := by omega
                have f2 : 2 * xi + (W : Int) * D ≤ 9223372036854775807 := by omega
                have f3 : 1 ≤ 2 * ((W : Int) * D) := by omega
                have f4 : 2 * ((W : Int) * D) ≤ 9223372036854775807 := by omega
                have f5 : (n + 1) * 16 ≤ 140737488355328 := by omega
                have f6 : n + 1 ≤ maxLen := by unfold maxLen; omega
                have f7 : (k + 1 : Nat) ≤ R.length := by omega
                have f9 : ∀ o, w3.heap.size ≤ (w8.alloc o).heap.size := fun o => by simp; omega
                go_wp2_with fail
                have wA : IntKind.i64.wrap (2 * xi) = 2 * xi := IntWalk.i64_in _ ⟨by omega, by omega⟩
                have wB : IntKind.i64.wrap (2 * xi + (W : Int) * D) = 2 * xi + (W : Int) * D := IntWalk.i64_in _ ⟨by omega, by omega⟩
                have wC : IntKind.i64.wrap (2 * ((W : Int) * D)) = 2 * ((W : Int) * D) := IntWalk.i64_in _ ⟨by omega, by omega⟩
                have wD : IntKind.i64.wrap ((k : Int) + W) = (k : Int) + W := IntWalk.i64_in _ ⟨by omega, by omega⟩
                have wE : IntKind.i64.wrap (((k : Int) + W) * st) = ((k : Int) + W) * st := IntWalk.i64_in _ ⟨by omega, by omega⟩
                go_region_held3 (fun w' => w'.cell? ⟨w.heap.size, 1, none⟩ = some (.int .i64 W) ∧ w'.cell? ⟨w.heap.size, 0, none⟩ = some (.int .i64 st) ∧ w'.cell? ⟨w2.heap.size, 0, none⟩ = some (.slice (some ⟨bR, oR, none⟩) R.length cR) ∧ w'.cell? ⟨bR, oR + k, none⟩ = some (.int .i64 xi) ∧ w'.cell? ⟨w2.heap.size + 1, 0, none⟩ = some (.int .i64 ((W : Int) * D))) (go_keep) (first | (go_at_call 51; (refine (floor_any (2 * xi + (W : Int) * D) (2 * ((W : Int) * D)) _ f1 f2 f3 f4).mono ?_); rintro e w9 ⟨rfl, rfl⟩) | ((refine step_push (by rfl) _ _ _ (by rfl) w3.heap.size _ _ _ _ elem_event a2 n c2 _ (hown8.alloc _) w8.heap.size 1 1 (0, 0) [.int .i64 (((k : Int) + W) * st), .int .i64 ((2 * xi + (W : Int) * D) / (2 * ((W : Int) * D)))] (heap_alloc_new _ _) (by rfl) (by rfl) rfl (by simp [Value.oneCell']) f5 f6 (f9 _) ?_); intro a3 c3 w10 hown10 hg10 hat10; have hR10 := (HR8.out.kept (World.grownBy_alloc w8 (.cells #[.int .i64 (((k : Int) + W) * st), .int .i64 ((2 * xi + (W : Int) * D) / (2 * ((W : Int) * D)))] 54) none) hlay (by simp)).kept (show World.grownBy _ w10 (blk a2) from ⟨hg10.os, hg10.tape, hg10.output, hg10.size, hg10.block⟩) hlay (fun b hb => (own_blk hown8 b hb).1); have k1 := cells5 hR10.r; have k2 := cells1 hR10.x; have k3 := cells1 hR10.u; have k4 := hR10.at_.int' hlt; rw [HXI.out] at k4; have H10 := Lib.hid hR10; clear hR10))
                clear wA wB wC wD wE k1 k2 k3 k4
                have hg10' : w8.grownBy w10 (blk a2) := (World.grownBy_alloc w8 (.cells #[.int .i64 (((k : Int) + W) * st), .int .i64 ((2 * xi + (W : Int) * D) / (2 * ((W : Int) * D)))] 54) _).trans (show World.grownBy _ w10 (blk a2) from ⟨hg10.os, hg10.tape, hg10.output, hg10.size, hg10.block⟩)
                have hgW10 := grown_own hg8 hg10' (fun b hb => by have := (own_blk hown8 b hb).1; have := hg03.size; omega)
                have hB10 : w3.heap.size ≤ w10.heap.size := Nat.le_trans hB8 hg10'.size
                clear hcr8 hcu8 hcx8 hci8
                go_wp2_with fail
                refine ⟨⟨a3, c3, k + 1, n + 1, by omega, ?_, by omega, by go_num, rfl, ?_, H10.out, hgW10, hB10⟩, by simp [intOf]; omega⟩
                · show _ = _; rw [List.range_succ, List.filter_append, List.length_append]; simp [HB2.out, hnl.out]
                · rw [List.range_succ, List.filter_append, List.map_append]; simp only [List.filter_cons, HB2.out, if_true, List.filter_nil, List.map_cons, List.map_nil]; rw [prs_snoc, HQ.out, HEV.out]; exact hown10
    · have hk2 : k = R.length := by omega
      subst hk2
      have hE : Hid ((((List.range R.length).filter (bestB R (ls * ((W : Int) * D)))).map (evR R W D st)).length = n) := by show _ = _; rw [List.length_map]; exact hnl.out
      generalize ((List.range R.length).filter (bestB R (ls * ((W : Int) * D)))).map (evR R W D st) = E at *
      obtain rfl : E.length = n := hE.out
      clear hE hnl
      by_cases hEl : 100 < E.length
      · go_wp2_with fail
        go_ret2
        exact ⟨hg, by rw [if_pos hEl]; rfl⟩
      · go_wp2_with fail
        go_ret2
        exact ⟨hg, by rw [if_neg hEl]; exact ⟨a2, c2, rfl, own_base hown hg03.size⟩⟩
end Go.Proofs.Ytfocpjjcllpfbaa
