/- Parts of the proof, in order. -/
import Derived.Test.YtjflmenfinohcaaMEventsMatched6
import Derived.BigGuardPart
import Derived.BigRegion
import Derived.Test.YtjflmenfinohcaaLib2

/- Walks: the scores of matchings (package trace). -/
namespace Go.Proofs.Ytjflmenfinohcaa.Hd
set_option linter.unusedVariables false
set_option linter.unusedSimpArgs false
open Go.RowKit

def bscI (s t : Int × Int) : Bool := decide (t.1 < s.1) || decide (s.1 = t.1) && decide (s.2 < t.2)

set_option maxHeartbeats 400000 in
theorem sbetter_any (s1 s2 t1 t2 : Int) (w : World) :
    Calls Try.prog 45 #[.agg #[.int .i64 s1, .int .i64 s2], .agg #[.int .i64 t1, .int .i64 t2]] w fun e w' => e = .returned (.bool (bscI (s1, s2) (t1, t2))) ∧ w.grownBy w' none := by
  by_cases h1 : t1 < s1
  · go_enter Try.func45, Try.ntmps45
    go_wp2_with fail
    go_ret
    exact ⟨ret_bool (by simp [bscI, h1]), (by repeat (first | with_reducible exact grown_refl _ _ | with_reducible assumption | with_reducible apply grown_alloc_r | with_reducible apply grown_drew_r | with_reducible apply grown_drewN | with_reducible refine World.grownBy.trans ?_ (by with_reducible assumption)))⟩
  · by_cases h2 : s1 = t1
    · subst h2
      go_enter Try.func45, Try.ntmps45
      go_wp2_with fail
      go_ret
      exact ⟨ret_bool (by simp [bscI]), (by repeat (first | with_reducible exact grown_refl _ _ | with_reducible assumption | with_reducible apply grown_alloc_r | with_reducible apply grown_drew_r | with_reducible apply grown_drewN | with_reducible refine World.grownBy.trans ?_ (by with_reducible assumption)))⟩
    · have h3 : (s1 == t1) = false := by simpa using h2
      go_enter Try.func45, Try.ntmps45
      go_wp2_with fail
      go_ret
      exact ⟨ret_bool (by simp [bscI, h1, h2]), (by repeat (first | with_reducible exact grown_refl _ _ | with_reducible assumption | with_reducible apply grown_alloc_r | with_reducible apply grown_drew_r | with_reducible apply grown_drewN | with_reducible refine World.grownBy.trans ?_ (by with_reducible assumption)))⟩

def dist (x y : Int) : Int := max (x - y) (y - x)

set_option maxRecDepth 100000 in
set_option maxHeartbeats 2000000 in
theorem mwith_any (ab ao bb bo gb go rb ro la ca lb cb gl gc rl rc i k : Nat) (x y near p q : Int) (w : World)
    (hi : i < la) (hk : k < lb) (hgi : i + 1 < gl) (hrk : k + 1 < rl) (hla : la ≤ 1000) (hlb : lb ≤ 1000) (hgl : gl ≤ 1001) (hrl : rl ≤ 1001)
    (hx0 : 0 ≤ x) (hx : x ≤ 1000000) (hy0 : 0 ≤ y) (hy : y ≤ 1000000) (hp0 : 0 ≤ p) (hp : p ≤ 1000) (hq0 : 0 ≤ q) (hq : q ≤ 1000000000)
    (h1 : w.cell? ⟨ab, ao + i * 2, none⟩ = some (.int .i64 x)) (h2 : w.cell? ⟨bb, bo + k * 2, none⟩ = some (.int .i64 y))
    (h3 : w.cell? ⟨gb, go + (i + 1), none⟩ = some (.slice (some ⟨rb, ro, none⟩) rl rc))
    (h4 : w.cell? ⟨rb, ro + (k + 1) * 2, none⟩ = some (.int .i64 p)) (h5 : w.cell? ⟨rb, ro + (k + 1) * 2 + 1, none⟩ = some (.int .i64 q)) :
    Calls Try.prog 46 #[.agg #[.slice (some ⟨ab, ao, none⟩) la ca, .slice (some ⟨bb, bo, none⟩) lb cb, .int .i64 near, .slice (some ⟨gb, go, none⟩) gl gc], .int .i64 i, .int .i64 k] w fun e w' =>
      e = .returned (.tuple #[.agg #[.int .i64 (p + 1), .int .i64 (q + dist x y)], .bool (decide (dist x y ≤ near))]) ∧ w.grownBy w' none := by
  have l1 := cell_lt h1
  have l2 := cell_lt h2
  have l3 := cell_lt h3
  have l4 := cell_lt h4
  simp only at l1 l2 l3 l4
  have z1 : (i : Int) < la := by omega
  have z2 : (k : Int) < lb := by omega
  have z3 : (i : Int) + 1 < gl := by omega
  have z4 : (k : Int) + 1 < rl := by omega
  have hd : Hid (max (x - y) (y - x) = dist x y) := rfl
  obtain ⟨d, hdd, hlo, hhi⟩ : ∃ d, dist x y = d ∧ 0 ≤ d ∧ d ≤ 1000000 := ⟨_, rfl, by unfold dist; omega, by unfold dist; omega⟩
  rw [hdd]
  unfold dist at hdd
  clear hd
  by_cases hxy : x - y < y - x
  · obtain rfl : y - x = d := by omega
    clear hdd
    go_enter Try.func46, Try.ntmps46
    go_wp2_with fail
    go_quiet (fail)
    go_wp2_with fail
    refine wp_gen (F := fun W => w.grownBy W none ∧ W.heap[w.heap.size]? = some (.cells #[.slice (some ⟨ab, ao, none⟩) la ca, .slice (some ⟨bb, bo, none⟩) lb cb, .int .i64 near, .slice (some ⟨gb, go, none⟩) gl gc] 75 (0, 0)) ∧ W.heap[w.heap.size + 1]? = some (.cells #[.int .i64 0, .int .i64 0] 80 (0, 0)) ∧ W.heap[w.heap.size + 2]? = some (.cells #[.int .i64 p, .int .i64 q] 80 (0, 0))) ⟨(by repeat (first | with_reducible exact grown_refl _ _ | with_reducible assumption | with_reducible apply grown_alloc_r | with_reducible apply grown_drew_r | with_reducible apply grown_drewN | with_reducible refine World.grownBy.trans ?_ (by with_reducible assumption))), (by simp only [hp_alloc, hp_drewN, hp_drew, Array.getElem?_push, Array.size_push]; (repeat' split) <;> first | rfl | assumption | omega | exact absurd trivial (by assumption)), (by simp only [hp_alloc, hp_drewN, hp_drew, Array.getElem?_push, Array.size_push]; (repeat' split) <;> first | rfl | assumption | omega | exact absurd trivial (by assumption)), (by simp only [hp_alloc, hp_drewN, hp_drew, Array.getElem?_push, Array.size_push]; (repeat' split) <;> first | rfl | assumption | omega | exact absurd trivial (by assumption))⟩ ?_
    rintro W ⟨hg, hb3, hb6, hb9⟩
    have c9 := cells2 hb9
    have c3 := cells4 hb3
    have f6 := free2 hb6
    have c6 := cells2 hb6
    have hfin := hp_set (hp_set hb6 0 (.int .i64 (p + 1))) 1 (.int .i64 (q + (y - x)))
    have hgf := Lib.hid (grown_set (grown_set hg (b := w.heap.size + 1) (by omega) 0 (.int .i64 (p + 1))) (b := w.heap.size + 1) (by omega) 1 (.int .i64 (q + (y - x))))
    have hcf := Lib.hid (cells2 hfin)
    have hw1 : IntKind.i64.wrap (p + 1) = p + 1 := IntWalk.i64_in _ (by omega)
    have hw2 : IntKind.i64.wrap (q + (y - x)) = q + (y - x) := IntWalk.i64_in _ (by omega)
    clear  hb3 hb6 hb9 h1 h2 h3 h4 h5 hg hfin
    go_region_held3 (fun w' => w'.cell? ⟨w.heap.size + 2, 0, none⟩ = some (.int .i64 p) ∧ w'.cell? ⟨w.heap.size + 2, 1, none⟩ = some (.int .i64 q) ∧ w'.cell? ⟨w.heap.size, 2, none⟩ = some (.int .i64 near)) (go_keep) (fail)
    go_wp2_with fail
    refine bp_gen (F := fun W' => w.grownBy W' none ∧ W'.cell? ⟨w.heap.size + 1, 0, none⟩ = some (.int .i64 (p + 1)) ∧ W'.cell? ⟨w.heap.size + 1, 1, none⟩ = some (.int .i64 (q + (y - x)))) ⟨grown_drew_r hgf.out, hcf.out⟩ ?_
    rintro W' ⟨hg', hc0, hc1⟩
    exact bodyPost_ret (v := .tuple #[.agg #[.int .i64 (p + 1), .int .i64 (q + (y - x))], .bool (decide (y - x ≤ near))]) (by simp [results, Try.results46, go_sem, hc0, hc1]) rfl ⟨rfl, hg'⟩
  · obtain rfl : x - y = d := by omega
    clear hdd
    go_enter Try.func46, Try.ntmps46
    go_wp2_with fail
    go_quiet (fail)
    go_wp2_with fail
    refine wp_gen (F := fun W => w.grownBy W none ∧ W.heap[w.heap.size]? = some (.cells #[.slice (some ⟨ab, ao, none⟩) la ca, .slice (some ⟨bb, bo, none⟩) lb cb, .int .i64 near, .slice (some ⟨gb, go, none⟩) gl gc] 75 (0, 0)) ∧ W.heap[w.heap.size + 1]? = some (.cells #[.int .i64 0, .int .i64 0] 80 (0, 0)) ∧ W.heap[w.heap.size + 2]? = some (.cells #[.int .i64 p, .int .i64 q] 80 (0, 0))) ⟨(by repeat (first | with_reducible exact grown_refl _ _ | with_reducible assumption | with_reducible apply grown_alloc_r | with_reducible apply grown_drew_r | with_reducible apply grown_drewN | with_reducible refine World.grownBy.trans ?_ (by with_reducible assumption))), (by simp only [hp_alloc, hp_drewN, hp_drew, Array.getElem?_push, Array.size_push]; (repeat' split) <;> first | rfl | assumption | omega | exact absurd trivial (by assumption)), (by simp only [hp_alloc, hp_drewN, hp_drew, Array.getElem?_push, Array.size_push]; (repeat' split) <;> first | rfl | assumption | omega | exact absurd trivial (by assumption)), (by simp only [hp_alloc, hp_drewN, hp_drew, Array.getElem?_push, Array.size_push]; (repeat' split) <;> first | rfl | assumption | omega | exact absurd trivial (by assumption))⟩ ?_
    rintro W ⟨hg, hb3, hb6, hb9⟩
    have c9 := cells2 hb9
    have c3 := cells4 hb3
    have f6 := free2 hb6
    have c6 := cells2 hb6
    have hfin := hp_set (hp_set hb6 0 (.int .i64 (p + 1))) 1 (.int .i64 (q + (x - y)))
    have hgf := Lib.hid (grown_set (grown_set hg (b := w.heap.size + 1) (by omega) 0 (.int .i64 (p + 1))) (b := w.heap.size + 1) (by omega) 1 (.int .i64 (q + (x - y))))
    have hcf := Lib.hid (cells2 hfin)
    have hw1 : IntKind.i64.wrap (p + 1) = p + 1 := IntWalk.i64_in _ (by omega)
    have hw2 : IntKind.i64.wrap (q + (x - y)) = q + (x - y) := IntWalk.i64_in _ (by omega)
    clear  hb3 hb6 hb9 h1 h2 h3 h4 h5 hg hfin
    go_region_held3 (fun w' => w'.cell? ⟨w.heap.size + 2, 0, none⟩ = some (.int .i64 p) ∧ w'.cell? ⟨w.heap.size + 2, 1, none⟩ = some (.int .i64 q) ∧ w'.cell? ⟨w.heap.size, 2, none⟩ = some (.int .i64 near)) (go_keep) (fail)
    go_wp2_with fail
    refine bp_gen (F := fun W' => w.grownBy W' none ∧ W'.cell? ⟨w.heap.size + 1, 0, none⟩ = some (.int .i64 (p + 1)) ∧ W'.cell? ⟨w.heap.size + 1, 1, none⟩ = some (.int .i64 (q + (x - y)))) ⟨grown_drew_r hgf.out, hcf.out⟩ ?_
    rintro W' ⟨hg', hc0, hc1⟩
    exact bodyPost_ret (v := .tuple #[.agg #[.int .i64 (p + 1), .int .i64 (q + (x - y))], .bool (decide (x - y ≤ near))]) (by simp [results, Try.results46, go_sem, hc0, hc1]) rfl ⟨rfl, hg'⟩
end Go.Proofs.Ytjflmenfinohcaa.Hd

/- Walk: the first pair that makes the best score (package trace). -/
namespace Go.Proofs.Ytjflmenfinohcaa.Hd
set_option linter.unusedVariables false
set_option linter.unusedSimpArgs false
open Go.RowKit

/-- the scores, row by row, in blocks of their own -/
def MRd (w : World) (gb : Nat) (R : Nat → Nat) (n m : Nat) (f : Nat → Nat → Int × Int) : Prop :=
  ∀ i, i ≤ n → w.cell? ⟨gb, i, none⟩ = some (.slice (some ⟨R i, 0, none⟩) (m + 1) (m + 1)) ∧
    ∀ k, k ≤ m → w.cell? ⟨R i, k * 2, none⟩ = some (.int .i64 (f i k).1) ∧ w.cell? ⟨R i, k * 2 + 1, none⟩ = some (.int .i64 (f i k).2)

theorem MRd.up {w w' : World} {gb : Nat} {R : Nat → Nat} {n m : Nat} {f : Nat → Nat → Int × Int} (h : MRd w gb R n m f) (hg : w.grownBy w' none) : MRd w' gb R n m f :=
  fun i hi => ⟨cell_up (h i hi).1 hg, fun k hk => ⟨cell_up ((h i hi).2 k hk).1 hg, cell_up ((h i hi).2 k hk).2 hg⟩⟩

def atI (l : List (Int × Int)) (k : Nat) : Int := (l.getD k (0, 0)).1

/-- (i, k) makes what is told -/
def hitB (A B : List (Int × Int)) (f : Nat → Nat → Int × Int) (near : Int) (t : Int × Int) (i k : Nat) : Bool :=
  decide (dist (atI A i) (atI B k) ≤ near) && (decide ((f (i + 1) (k + 1)).1 + 1 = t.1) && decide ((f (i + 1) (k + 1)).2 + dist (atI A i) (atI B k) = t.2))

def FOut (A B : List (Int × Int)) (f : Nat → Nat → Int × Int) (near : Int) (t : Int × Int) (i0 k0 : Nat) (W0 : World) (v8 : Value) (wr : World) : Prop :=
  ∃ i : Nat, i0 ≤ i ∧ i ≤ A.length ∧ v8 = .int .i64 i ∧ Hid (∀ a c, i0 ≤ a → a < i → k0 ≤ c → c < B.length → hitB A B f near t a c = false) ∧ W0.grownBy wr none
def FIn (A B : List (Int × Int)) (f : Nat → Nat → Int × Int) (near : Int) (t : Int × Int) (k0 i : Nat) (W0 : World) (v9 : Value) (wr : World) : Prop :=
  ∃ k : Nat, k0 ≤ k ∧ k ≤ B.length ∧ v9 = .int .i64 k ∧ Hid (∀ c, k0 ≤ c → c < k → hitB A B f near t i c = false) ∧ W0.grownBy wr none

/-- the first hit, or none -/
def FirstPost (A B : List (Int × Int)) (f : Nat → Nat → Int × Int) (near : Int) (t : Int × Int) (i0 k0 : Nat) (w : World) (e : Ending) (w' : World) : Prop :=
  w.grownBy w' none ∧
  ((∃ a c : Nat, e = .returned (.tuple #[.agg #[.int .i64 a, .int .i64 c], .bool true]) ∧ i0 ≤ a ∧ a < A.length ∧ k0 ≤ c ∧ c < B.length ∧ hitB A B f near t a c = true ∧
      (∀ a' c', i0 ≤ a' → a' < A.length → k0 ≤ c' → c' < B.length → a' < a ∨ a' = a ∧ c' < c → hitB A B f near t a' c' = false)) ∨
   (e = .returned (.tuple #[.agg #[.int .i64 0, .int .i64 0], .bool false]) ∧ ∀ a c, i0 ≤ a → a < A.length → k0 ≤ c → c < B.length → hitB A B f near t a c = false))

theorem ext_no {P : Nat → Bool} {k0 k : Nat} (h : ∀ c, k0 ≤ c → c < k → P c = false) (hk : P k = false) : ∀ c, k0 ≤ c → c < k + 1 → P c = false := by
  intro c h1 h2
  rcases Nat.lt_or_ge c k with h3 | h3
  · exact h c h1 h3
  · obtain rfl : c = k := by omega
    exact hk
theorem ext_row {P : Nat → Nat → Bool} {i0 k0 i m : Nat} (h : ∀ a c, i0 ≤ a → a < i → k0 ≤ c → c < m → P a c = false) (hk : ∀ c, k0 ≤ c → c < m → P i c = false) : ∀ a c, i0 ≤ a → a < i + 1 → k0 ≤ c → c < m → P a c = false := by
  intro a c h1 h2 h3 h4
  rcases Nat.lt_or_ge a i with h5 | h5
  · exact h a c h1 h5 h3 h4
  · obtain rfl : a = i := by omega
    exact hk c h3 h4

set_option maxRecDepth 100000 in
set_option maxHeartbeats 4000000 in
theorem mfirst_any (a b : Option Addr) (ca cb gb gc : Nat) (R : Nat → Nat) (A B : List (Int × Int)) (f : Nat → Nat → Int × Int) (near : Int) (i0 k0 : Nat) (w : World)
    (hA : At w a (prs A)) (hB : At w b (prs B)) (hM : MRd w gb R A.length B.length f) (hi0 : i0 ≤ A.length) (hk0 : k0 ≤ B.length) (hla : A.length ≤ 1000) (hlb : B.length ≤ 1000)
    (hAx : ∀ i, i < A.length → 0 ≤ atI A i ∧ atI A i ≤ 1000000) (hBx : ∀ i, i < B.length → 0 ≤ atI B i ∧ atI B i ≤ 1000000)
    (hf : ∀ i k, 0 ≤ (f i k).1 ∧ (f i k).1 ≤ 1000 ∧ 0 ≤ (f i k).2 ∧ (f i k).2 ≤ 1000000000) :
    Calls Try.prog 35 #[.agg #[.slice a A.length ca, .slice b B.length cb, .int .i64 near, .slice (some ⟨gb, 0, none⟩) (A.length + 1) gc], .int .i64 i0, .int .i64 k0] w (FirstPost A B f near (f i0 k0) i0 k0 w) := by
  have HAx := Lib.hid hAx
  have HBx := Lib.hid hBx
  have HM := Lib.hid hM
  have Hf := Lib.hid hf
  generalize ht : f i0 k0 = t
  have Ht := Lib.hid ht
  clear hAx hBx hM hf ht
  go_enter Try.func35, Try.ntmps35
  go_wp2_with fail
  refine wp_gen (F := fun W => w.grownBy W none ∧ W.heap[w.heap.size]? = some (.cells #[.slice a A.length ca, .slice b B.length cb, .int .i64 near, .slice (some ⟨gb, 0, none⟩) (A.length + 1) gc] 75 (0, 0)) ∧ W.heap[w.heap.size + 1]? = some (.cells #[.int .i64 0, .int .i64 0] 48 (0, 0))) ⟨(by repeat (first | with_reducible exact grown_refl _ _ | with_reducible assumption | with_reducible apply grown_alloc_r | with_reducible apply grown_drew_r | with_reducible apply grown_drewN | with_reducible refine World.grownBy.trans ?_ (by with_reducible assumption))), (by simp only [hp_alloc, hp_drewN, hp_drew, Array.getElem?_push, Array.size_push]; (repeat' split) <;> first | rfl | assumption | omega | exact absurd trivial (by assumption)), (by simp only [hp_alloc, hp_drewN, hp_drew, Array.getElem?_push, Array.size_push]; (repeat' split) <;> first | rfl | assumption | omega | exact absurd trivial (by assumption))⟩ ?_
  rintro W0 ⟨hg0, hb3, hb6⟩
  have hz : w.heap.size ≤ w.heap.size + 1 := by omega
  have hz0 : w.heap.size + 1 < W0.heap.size := lt_of_block hb6
  have hc3 := cells4 hb3
  go_loopw [8] (FOut A B f near t i0 k0 W0) (fun i _ => A.length - (intOf i).toNat)
  case atStart => exact ⟨i0, Nat.le_refl _, hi0, rfl, Lib.hid (fun a c h1 h2 => by omega), grown_refl _ _⟩
  case round =>
    obtain ⟨i, hi1, hi2, rfl, hno, hgr⟩ := hrel
    have hc3 := cells4 (blk_up hb3 hgr)
    have f6 := free2 (blk_up hb6 hgr)
    have c6 := cells2 (blk_up hb6 hgr)
    by_cases hlt : i < A.length
    · go_wp2_with fail
      obtain ⟨wo, rfl⟩ : ∃ wo : World, wo = wr := ⟨_, rfl⟩
      go_loopw [9] (FIn A B f near t k0 i wo) (fun k _ => B.length - (intOf k).toNat)
      case atStart => exact ⟨k0, Nat.le_refl _, hk0, rfl, Lib.hid (fun c h1 h2 => by omega), grown_refl _ _⟩
      case round =>
        obtain ⟨k, hk1, hk2, rfl, hnk, hgi⟩ := hrel
        clear hc3 f6 c6
        have hgx : W0.grownBy wr none := hgr.trans hgi
        have hgy : w.grownBy wr none := hg0.trans hgx
        have hb3r := blk_up hb3 hgx
        have hb6r := blk_up hb6 hgx
        have hc3 := cells4 hb3r
        have l3 := lt_of_block hb6r
        by_cases hkt : k < B.length
        · obtain ⟨ab, ao, rfl, ha1, ha2⟩ := (hA.up hgy).pair hlt
          obtain ⟨bb, bo, rfl, hb1, hb2⟩ := (hB.up hgy).pair hkt
          obtain ⟨hm1, hm2⟩ := (HM.out.up hgy) (i + 1) (by omega)
          obtain ⟨hm3, hm4⟩ := hm2 (k + 1) (by omega)
          have x1 := HAx.out i hlt
          have x2 := HBx.out k hkt
          have x3 := Hf.out (i + 1) (k + 1)
          have HW := Lib.hid (mwith_any ab ao bb bo gb 0 (R (i + 1)) 0 A.length ca B.length cb (A.length + 1) gc (B.length + 1) (B.length + 1) i k (atI A i) (atI B k) near (f (i + 1) (k + 1)).1 (f (i + 1) (k + 1)).2 wr hlt hkt (by omega) (by omega) hla hlb (by omega) (by omega) x1.1 x1.2 x2.1 x2.2 x3.1 x3.2.1 x3.2.2.1 x3.2.2.2 ha1 hb1 (by rw [Nat.zero_add]; exact hm1) (by rw [Nat.zero_add]; exact hm3) (by rw [Nat.zero_add]; exact hm4))
          have Hh : Hid (hitB A B f near t i k = (decide (dist (atI A i) (atI B k) ≤ near) && (decide ((f (i + 1) (k + 1)).1 + 1 = t.1) && decide ((f (i + 1) (k + 1)).2 + dist (atI A i) (atI B k) = t.2)))) := rfl
          have hgz := Lib.hid hgy
          clear hm1 hm2 hm3 hm4 ha1 ha2 hb1 hb2 hgy
          generalize dist (atI A i) (atI B k) = d at *
          generalize (f (i + 1) (k + 1)).1 = p at *
          generalize (f (i + 1) (k + 1)).2 = q at *
          have hki : (i0 : Int) < (A.length : Int) + 1 := by omega
          have hkk : (k0 : Int) < (B.length : Int) + 1 := by omega
          go_wp2_with fail
          refine HW.out.mono ?_
          clear HW
          rintro e w1 ⟨rfl, hg1⟩
          have hb3s := blk_up hb3r hg1
          have hb6s := blk_up hb6r hg1
          have hc3s := cells4 hb3s
          have l3s := lt_of_block hb6s
          have l3t := lt_of_block hb3s
          obtain ⟨hm1, hm2⟩ := (HM.out.up (hgz.out.trans hg1)) i0 hi0
          obtain ⟨hm3, hm4⟩ := hm2 k0 hk0
          rw [Ht.out] at hm3 hm4
          have l4 := cell_lt hm1
          have l5 := cell_lt hm3
          simp only at l4 l5
          clear hm2 hc3
          have f6s := free2 hb6s
          have c6s := cells2 hb6s
          have hgz1 := Lib.hid (hgz.out.trans hg1)
          have hgi1 := Lib.hid (hgi.trans hg1)
          clear hg1 hgi hgz hgx
          by_cases hd : d ≤ near
          · by_cases he1 : p + 1 = t.1
            · by_cases he2 : q + d = t.2
              · have Hhit : Hid (hitB A B f near t i k = true) := by show _ = _; rw [Hh.out]; simp [hd, he1, he2]
                go_wp2_with fail
                go_quiet (fail)
                go_wp2_with fail
                refine bp_gen (F := fun W' => w.grownBy W' none ∧ W'.cell? ⟨w.heap.size + 1, 0, none⟩ = some (.int .i64 i) ∧ W'.cell? ⟨w.heap.size + 1, 1, none⟩ = some (.int .i64 k)) ⟨grown_set (grown_set (grown_drewN (grown_alloc_r hgz1.out _) _) (by omega) _ _) (by omega) _ _, cells2 (hp_set (hp_set (T := 48) (cs := #[.int .i64 0, .int .i64 0]) (by simp only [hp_alloc, hp_drewN, hp_drew, Array.getElem?_push, Array.size_push]; (repeat' split) <;> first | rfl | assumption | omega | exact absurd trivial (by assumption)) 0 _) 1 _)⟩ ?_
                rintro W' ⟨hg', hc0, hc1⟩
                refine bodyPost_ret (v := .tuple #[.agg #[.int .i64 i, .int .i64 k], .bool true]) (by simp [results, Try.results35, go_sem, hc0, hc1]) rfl ⟨hg', .inl ⟨i, k, rfl, hi1, hlt, hk1, hkt, Hhit.out, fun a' c' h1 h2 h3 h4 h5 => ?_⟩⟩
                rcases h5 with h5 | ⟨rfl, h5⟩
                · exact hno.out a' c' h1 h5 h3 h4
                · exact hnk.out c' h3 h5
              · have hb2 : (q + d == t.2) = false := by simpa using he2
                have Hhit : Hid (hitB A B f near t i k = false) := by show _ = _; rw [Hh.out]; simp [he2]
                go_wp2_with fail
                go_quiet (fail)
                go_wp2_with fail
                exact ⟨⟨k + 1, by omega, by omega, by go_num, Lib.hid (ext_no hnk.out Hhit.out), grown_drewN (grown_alloc_r hgi1.out _) _⟩, by simp [intOf]; omega⟩
            · have hb1 : (p + 1 == t.1) = false := by simpa using he1
              have Hhit : Hid (hitB A B f near t i k = false) := by show _ = _; rw [Hh.out]; simp [he1]
              go_wp2_with fail
              go_quiet (fail)
              go_wp2_with fail
              exact ⟨⟨k + 1, by omega, by omega, by go_num, Lib.hid (ext_no hnk.out Hhit.out), grown_drewN (grown_alloc_r hgi1.out _) _⟩, by simp [intOf]; omega⟩
          · have hb1 : decide (d ≤ near) = false := by simpa using hd
            have Hhit : Hid (hitB A B f near t i k = false) := by show _ = _; rw [Hh.out, hb1]; rfl
            go_wp2_with fail
            go_quiet (fail)
            go_wp2_with fail
            exact ⟨⟨k + 1, by omega, by omega, by go_num, Lib.hid (ext_no hnk.out Hhit.out), grown_drewN (grown_alloc_r hgi1.out _) _⟩, by simp [intOf]; omega⟩
        · go_wp2_with fail
          exact ⟨⟨i + 1, by omega, by omega, by go_num, Lib.hid (ext_row hno.out (fun c h3 h4 => hnk.out c h3 (by omega))), hgx⟩, by simp [intOf]; omega⟩
    · go_wp2_with fail
      refine bp_gen (F := fun W' => w.grownBy W' none ∧ W'.cell? ⟨w.heap.size + 1, 0, none⟩ = some (.int .i64 0) ∧ W'.cell? ⟨w.heap.size + 1, 1, none⟩ = some (.int .i64 0)) ⟨grown_set (grown_set (hg0.trans hgr) (by omega) _ _) (by omega) _ _, cells2 (hp_set (hp_set (blk_up hb6 hgr) 0 _) 1 _)⟩ ?_
      rintro W' ⟨hg', hc0, hc1⟩
      exact bodyPost_ret (v := .tuple #[.agg #[.int .i64 0, .int .i64 0], .bool false]) (by simp [results, Try.results35, go_sem, hc0, hc1]) rfl ⟨hg', .inr ⟨rfl, fun a c h1 h2 h3 h4 => hno.out a c h1 (by omega) h3 h4⟩⟩
end Go.Proofs.Ytjflmenfinohcaa.Hd

/- Plain law: the scores of the best matchings as numbers, and their bounds. -/
namespace Go.Proofs.Ytjflmenfinohcaa.Hd
set_option linter.unusedVariables false
set_option linter.unusedSimpArgs false
open Go.RowKit

def nearB (A B : List (Int × Int)) (near : Int) (i k : Nat) : Bool := decide (dist (atI A i) (atI B k) ≤ near)
def farI (A B : List (Int × Int)) (i k : Nat) : Int := dist (atI A i) (atI B k)
def bestM (A B : List (Int × Int)) (near : Int) (i k : Nat) : Mat.Pr := Mat.best (nearB A B near) (farI A B) A.length B.length i k
def scI (A B : List (Int × Int)) (near : Int) (i k : Nat) : Int × Int := (((bestM A B near i k).1.length : Int), (bestM A B near i k).2)
def cndI (A B : List (Int × Int)) (near : Int) (i k : Nat) : Int × Int := ((scI A B near (i + 1) (k + 1)).1 + 1, (scI A B near (i + 1) (k + 1)).2 + farI A B i k)
def stepI (A B : List (Int × Int)) (near : Int) (i k : Nat) : Int × Int := if bscI (scI A B near i (k + 1)) (scI A B near (i + 1) k) then scI A B near i (k + 1) else scI A B near (i + 1) k

def toI (s : Nat × Int) : Int × Int := ((s.1 : Int), s.2)
theorem scI_eq (A B : List (Int × Int)) (near : Int) (i k : Nat) : scI A B near i k = toI (Mat.sco (bestM A B near i k)) := rfl
theorem bsc_toI (s t : Nat × Int) : bscI (toI s) (toI t) = Mat.bsc s t := by
  obtain ⟨s1, s2⟩ := s
  obtain ⟨t1, t2⟩ := t
  show (decide ((t1 : Int) < s1) || decide ((s1 : Int) = t1) && decide (s2 < t2)) = (decide (t1 < s1) || decide (s1 = t1) && decide (s2 < t2))
  rw [show decide ((t1 : Int) < s1) = decide (t1 < s1) from decide_eq_decide.2 (by omega), show decide ((s1 : Int) = t1) = decide (s1 = t1) from decide_eq_decide.2 (by omega)]
theorem toI_pick (y x : Mat.Pr) : toI (Mat.sco (Mat.pick y x)) = if bscI (toI (Mat.sco y)) (toI (Mat.sco x)) then toI (Mat.sco y) else toI (Mat.sco x) := by
  rw [Mat.sco_pick, bsc_toI]; split <;> rfl

theorem scI_in (A B : List (Int × Int)) (near : Int) (i k : Nat) (hi : i < A.length) (hk : k < B.length) :
    scI A B near i k = if nearB A B near i k = true ∧ bscI (cndI A B near i k) (stepI A B near i k) = true then cndI A B near i k else stepI A B near i k := by
  have hc : cndI A B near i k = toI (Mat.sco (Mat.cand (nearB A B near) (farI A B) A.length B.length i k)) := by
    simp [cndI, toI, Mat.sco, Mat.cand, scI, bestM]
  have hs : stepI A B near i k = toI (Mat.sco (Mat.pick (bestM A B near i (k + 1)) (bestM A B near (i + 1) k))) := by
    rw [toI_pick]; rfl
  rw [scI_eq, bestM, Mat.best_in _ _ _ _ i k hi hk, hc, hs]
  by_cases hn : nearB A B near i k = true
  · simp only [hn, if_true, true_and]
    rw [toI_pick]
    rfl
  · simp only [hn, if_false, false_and]
    rfl

theorem scI_end1 (A B : List (Int × Int)) (near : Int) (k : Nat) : scI A B near A.length k = (0, 0) := by simp [scI, bestM, Mat.best_end1]
theorem scI_end2 (A B : List (Int × Int)) (near : Int) (i : Nat) : scI A B near i B.length = (0, 0) := by simp [scI, bestM, Mat.best_end2]

theorem best_bd (near : Nat → Nat → Bool) (f : Nat → Nat → Int) (n m : Nat) (D : Int) (hf : ∀ i k, i < n → k < m → 0 ≤ f i k ∧ f i k ≤ D) :
    ∀ (s i k : Nat), s = (n - i) + (m - k) → (Mat.best near f n m i k).1.length ≤ n - i ∧ 0 ≤ (Mat.best near f n m i k).2 ∧ (Mat.best near f n m i k).2 ≤ ((Mat.best near f n m i k).1.length : Int) * D := by
  intro s
  induction s using Nat.strongRecOn with
  | ind s ih =>
    intro i k hs
    rw [Mat.best]
    have hx0 : ∀ x0 : Mat.Pr, x0 = (if i < n then Mat.best near f n m (i + 1) k else ([], 0)) → x0.1.length ≤ n - i ∧ 0 ≤ x0.2 ∧ x0.2 ≤ (x0.1.length : Int) * D := by
      intro x0 e
      by_cases hi : i < n
      · rw [if_pos hi] at e; subst e
        obtain ⟨h1, h2, h3⟩ := ih _ (by omega) (i + 1) k rfl
        exact ⟨by omega, h2, h3⟩
      · rw [if_neg hi] at e; subst e; simp
    generalize (if i < n then Mat.best near f n m (i + 1) k else (([], 0) : Mat.Pr)) = x0 at hx0 ⊢
    have h0 := hx0 x0 rfl
    clear hx0
    have hx1 : ∀ x1 : Mat.Pr, x1 = (if k < m then Mat.pick (Mat.best near f n m i (k + 1)) x0 else x0) → x1.1.length ≤ n - i ∧ 0 ≤ x1.2 ∧ x1.2 ≤ (x1.1.length : Int) * D := by
      intro x1 e
      by_cases hk : k < m
      · rw [if_pos hk] at e
        unfold Mat.pick at e
        split at e <;> subst e
        · exact ih _ (by omega) i (k + 1) rfl
        · exact h0
      · rw [if_neg hk] at e; subst e; exact h0
    generalize (if k < m then Mat.pick (Mat.best near f n m i (k + 1)) x0 else x0) = x1 at hx1 ⊢
    have h1 := hx1 x1 rfl
    clear hx1
    split
    · rename_i hc
      obtain ⟨hi, hk, -⟩ := hc
      unfold Mat.pick
      split
      · obtain ⟨h3, h4, h5⟩ := ih _ (by omega) (i + 1) (k + 1) rfl
        obtain ⟨h6, h7⟩ := hf i k hi hk
        refine ⟨by simp; omega, by simp; omega, ?_⟩
        simp only [List.length_cons, Int.natCast_add, Int.add_mul]
        simp; omega
      · exact h1
    · exact h1

theorem scI_bd (A B : List (Int × Int)) (near : Int) (hla : A.length ≤ 100) (hAx : ∀ i, i < A.length → 0 ≤ atI A i ∧ atI A i ≤ 1000000) (hBx : ∀ i, i < B.length → 0 ≤ atI B i ∧ atI B i ≤ 1000000) (i k : Nat) :
    0 ≤ (scI A B near i k).1 ∧ (scI A B near i k).1 ≤ 1000 ∧ 0 ≤ (scI A B near i k).2 ∧ (scI A B near i k).2 ≤ 1000000000 := by
  obtain ⟨h1, h2, h3⟩ := best_bd (nearB A B near) (farI A B) A.length B.length 1000000 (fun i k hi hk => by
    have := hAx i hi; have := hBx k hk; unfold farI dist; omega) _ i k rfl
  simp only [scI, bestM]
  refine ⟨by omega, by omega, h2, ?_⟩
  omega
end Go.Proofs.Ytjflmenfinohcaa.Hd

/- Plain law: the pairs of the best matchings rise and are in range. -/
namespace Go.Proofs.Ytjflmenfinohcaa.Hd
set_option linter.unusedVariables false
set_option linter.unusedSimpArgs false
open Go.RowKit

def Rise (n m i k : Nat) (x : Mat.Pr) : Prop := (∀ p ∈ x.1, i ≤ p.1 ∧ p.1 < n ∧ k ≤ p.2 ∧ p.2 < m) ∧ x.1.Pairwise (fun p q => p.1 < q.1 ∧ p.2 < q.2)
theorem Rise.nil (n m i k : Nat) : Rise n m i k ([], 0) := ⟨by simp, List.Pairwise.nil⟩
theorem Rise.mono {n m i k i' k' : Nat} {x : Mat.Pr} (h : Rise n m i k x) (hi : i' ≤ i) (hk : k' ≤ k) : Rise n m i' k' x := ⟨fun p hp => by have := h.1 p hp; omega, h.2⟩
theorem Rise.pick {n m i k : Nat} {x y : Mat.Pr} (hx : Rise n m i k x) (hy : Rise n m i k y) : Rise n m i k (Mat.pick x y) := by unfold Mat.pick; split <;> assumption
theorem Rise.cons {n m i k : Nat} {x : Mat.Pr} {d : Int} (h : Rise n m (i + 1) (k + 1) x) (hi : i < n) (hk : k < m) : Rise n m i k ((i, k) :: x.1, d) := by
  refine ⟨fun p hp => ?_, List.Pairwise.cons (fun p hp => by have := h.1 p hp; simp only; omega) h.2⟩
  rcases List.mem_cons.1 hp with rfl | hp
  · simp only; omega
  · have := h.1 p hp; omega
theorem Rise.len {n m i k : Nat} : ∀ {l : List (Nat × Nat)} {d : Int}, Rise n m i k (l, d) → l.length ≤ n - i := by
  intro l
  induction l generalizing i k with
  | nil => simp
  | cons p r ih =>
    intro d h
    have h1 := h.1 p (by simp)
    have h2 := List.pairwise_cons.1 h.2
    have h3 : Rise n m (p.1 + 1) (p.2 + 1) (r, d) := ⟨fun q hq => by have := h2.1 q hq; have := h.1 q (List.mem_cons_of_mem _ hq); omega, h2.2⟩
    have := ih h3
    simp only [List.length_cons]
    omega

theorem best_rise (near : Nat → Nat → Bool) (f : Nat → Nat → Int) (n m : Nat) : ∀ (s i k : Nat), s = (n - i) + (m - k) → Rise n m i k (Mat.best near f n m i k) := by
  intro s
  induction s using Nat.strongRecOn with
  | ind s ih =>
    intro i k hs
    rw [Mat.best]
    have h0 : Rise n m i k (if i < n then Mat.best near f n m (i + 1) k else (([], 0) : Mat.Pr)) := by
      by_cases hi : i < n
      · rw [if_pos hi]; exact (ih _ (by omega) (i + 1) k rfl).mono (by omega) (by omega)
      · rw [if_neg hi]; exact Rise.nil _ _ _ _
    generalize (if i < n then Mat.best near f n m (i + 1) k else (([], 0) : Mat.Pr)) = x0 at h0 ⊢
    have h1 : Rise n m i k (if k < m then Mat.pick (Mat.best near f n m i (k + 1)) x0 else x0) := by
      by_cases hk : k < m
      · rw [if_pos hk]; exact ((ih _ (by omega) i (k + 1) rfl).mono (by omega) (by omega)).pick h0
      · rw [if_neg hk]; exact h0
    generalize (if k < m then Mat.pick (Mat.best near f n m i (k + 1)) x0 else x0) = x1 at h1 ⊢
    split
    · rename_i hc
      exact (Rise.cons (ih _ (by omega) (i + 1) (k + 1) rfl) hc.1 hc.2.1).pick h1
    · exact h1

theorem bestM_rise (A B : List (Int × Int)) (near : Int) (i k : Nat) : Rise A.length B.length i k (bestM A B near i k) := best_rise _ _ _ _ _ i k rfl
theorem Rise.small {n m i k : Nat} {x : Mat.Pr} (h : Rise n m i k x) (hn : n ≤ 100) (hm : m ≤ 100) : x.1.length ≤ 1000 ∧ ∀ p ∈ x.1, p.1 ≤ 1000 ∧ p.2 ≤ 1000 := by
  obtain ⟨l, d⟩ := x
  exact ⟨by have := h.len; simp only; omega, fun p hp => by have := h.1 p hp; omega⟩
end Go.Proofs.Ytjflmenfinohcaa.Hd

/- Plain law: the best matchings are near, their sums are told, and more tolerance does not lessen them. -/
namespace Go.Proofs.Ytjflmenfinohcaa.Hd
set_option linter.unusedVariables false
set_option linter.unusedSimpArgs false

def fsum (f : Nat → Nat → Int) : List (Nat × Nat) → Int
  | [] => 0
  | p :: r => f p.1 p.2 + fsum f r
section
variable (near : Nat → Nat → Bool) (f : Nat → Nat → Int) (n m : Nat)
def Tru (x : Mat.Pr) : Prop := (∀ p ∈ x.1, near p.1 p.2 = true) ∧ x.2 = fsum f x.1
theorem Tru.pick {x y : Mat.Pr} (hx : Tru near f x) (hy : Tru near f y) : Tru near f (Mat.pick x y) := by unfold Mat.pick; split <;> assumption
theorem best_tru : ∀ (s i k : Nat), s = (n - i) + (m - k) → Tru near f (Mat.best near f n m i k) := by
  intro s
  induction s using Nat.strongRecOn with
  | ind s ih =>
    intro i k hs
    rw [Mat.best]
    have h00 : Tru near f ([], 0) := ⟨by simp, rfl⟩
    have h0 : Tru near f (if i < n then Mat.best near f n m (i + 1) k else (([], 0) : Mat.Pr)) := by
      by_cases hi : i < n
      · rw [if_pos hi]; exact ih _ (by omega) (i + 1) k rfl
      · rw [if_neg hi]; exact h00
    generalize (if i < n then Mat.best near f n m (i + 1) k else (([], 0) : Mat.Pr)) = x0 at h0 ⊢
    have h1 : Tru near f (if k < m then Mat.pick (Mat.best near f n m i (k + 1)) x0 else x0) := by
      by_cases hk : k < m
      · rw [if_pos hk]; exact (ih _ (by omega) i (k + 1) rfl).pick near f h0
      · rw [if_neg hk]; exact h0
    generalize (if k < m then Mat.pick (Mat.best near f n m i (k + 1)) x0 else x0) = x1 at h1 ⊢
    split
    · rename_i hc
      refine Tru.pick near f ?_ h1
      have h2 := ih _ (by omega) (i + 1) (k + 1) rfl
      refine ⟨fun p hp => ?_, ?_⟩
      · rcases List.mem_cons.1 hp with rfl | hp
        · exact hc.2.2
        · exact h2.1 p hp
      · show _ + f i k = f i k + fsum f _
        rw [h2.2]; omega
    · exact h1
end
end Go.Proofs.Ytjflmenfinohcaa.Hd
