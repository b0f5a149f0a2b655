/- Parts of the proof, in order. -/
import Derived.Test.YtlifcpcfhkpejaaGreatTab
import Derived.Test.YtlifcpcfhkpejaaGreatAbsY
import Derived.Lib.Hide
import Derived.Lib.Strings
import Derived.Lib.Slices
import Derived.Lib.Walk
import Derived.Lib.Bytealg
import Derived.Test.YtlifcpcfhkpejaaGreatWrap
import Derived.Test.YtlifcpcfhkpejaaGreatRows
import Derived.Test.YtlifcpcfhkpejaaGreatLib
import Derived.Lib.Mul64
import Derived.Laws.Bits64b
import Derived.StillTailTactics
import Derived.Deep.RegionHeld3
import Derived.Test.YtlifcpcfhkpejaaGreatRegion
import Derived.Test.YtlifcpcfhkpejaaGreatStep
import Derived.Test.YtlifcpcfhkpejaaGreatLoop
import Derived.Test.YtlifcpcfhkpejaaGreatGrow
import Derived.Test.YtlifcpcfhkpejaaGreatAbsZ
import Derived.Test.YtlifcpcfhkpejaaGreatEk
import Derived.Test.YtlifcpcfhkpejaaGreatSort
import Derived.Test.YtlifcpcfhkpejaaGreatLay
import Derived.Test.YtlifcpcfhkpejaaGreatCst

/- Keys, numbers, strings: small functions, by the abstract walk. -/
namespace Go.Proofs.YtlifcpcfhkpejaaGreat
set_option linter.unusedVariables false
set_option linter.unusedSimpArgs false
open Abs

abbrev PCp := PCs Tryz.prog
def mts : List Nat := [19, 20, 21, 57, 90, 119, 120, 121, 123, 124, 125, 126, 138, 108, 136, 148, 104]

theorem finb {m : Nat} {a b : Bool} {os : List Ob} (h : a = b) : FinR m (.c (.bool b)) os (.c (.bool a)) os := .mk ⟨by rw [h], rfl⟩
theorem fini {m : Nat} {k : IntKind} {a b : Int} {os : List Ob} (h : a = b) : FinR m (.c (.int k b)) os (.c (.int k a)) os := .mk ⟨by rw [h], rfl⟩

set_option maxRecDepth 100000 in
set_option maxHeartbeats 4000000 in
theorem bOut_pc (n lo hi : Int) : PCp 44 [.c (.int .i64 n), .c (.int .i64 lo), .c (.int .i64 hi)] [] (.c (.bool (decide (n < lo ∨ hi < n)))) [] := by
  refine fn_sound (mt := mts) tab_fits tab_mixed Tryz.func44 (by rfl) (by kernel_rfl) (by kernel_rfl) Tryz.results44 (Nat.le_of_ble_eq_true (by kernel_rfl)) ?_
  conv => whnf
  repeat' (first | ((first | refine Split.mk (fun h => ?_) (fun h => ?_) | refine CondG.mk (fun h => ?_) (fun h => ?_)) <;> (try simp only [decide_eq_true_eq, decide_eq_false_iff_not, Bool.not_eq_true', Bool.not_eq_false', beq_iff_eq, beq_eq_false_iff_ne] at h) <;> (first | (exfalso; first | omega | exact h trivial) | (conv => whnf))) | (refine Ask.mk (by first | omega | (unfold roomOK; simp [cutRows]; done) | (unfold roomOK; simp [cutRows]; omega)) ?_; conv => whnf) | (refine AppG.mk (by first | omega | (unfold roomOK; simp [cutRows]; done) | (unfold roomOK; simp [cutRows]; omega)) ?_; conv => whnf) | (refine SliceG.fr ?_; conv => whnf) | fail)
  all_goals exact finb (by simp_all <;> omega)
def isKeyC (c : Int) : Bool := decide (97 ≤ c ∧ c ≤ 122) || (decide (48 ≤ c ∧ c ≤ 57) || (c == 45 || c == 95))
def keyB (s : ByteArray) : Bool := decide (0 < s.size ∧ s.size ≤ 40 ∧ 97 ≤ byteAt s 0 ∧ byteAt s 0 ≤ 122 ∧ ∀ i, i < s.size → isKeyC (byteAt s i) = true)
theorem all_succ {p : Nat → Prop} {k : Nat} (h : ∀ i, i < k → p i) (hk : p k) : ∀ i, i < k + 1 → p i := fun i hi => by
  rcases Nat.lt_or_ge i k with h1 | h1
  · exact h i h1
  · have : i = k := by omega
    subst this; exact hk
theorem size_nil (s : ByteArray) : (s.toList == (⟨#[]⟩ : ByteArray).toList) = decide (s.size = 0) := by
  rw [ByteArray.toList_eq, ByteArray.toList_eq]
  obtain ⟨⟨x⟩⟩ := s
  cases x with
  | nil => rfl
  | cons a r => rfl
set_option maxRecDepth 100000 in
set_option maxHeartbeats 4000000 in
theorem bKey_pc (s : ByteArray) : PCp 102 [.c (.str s)] [] (.c (.bool (keyB s))) [] := by
  refine fn_sound (mt := mts) tab_fits tab_mixed Tryz.func102 (by rfl) (by kernel_rfl) (by kernel_rfl) Tryz.results102 (Nat.le_of_ble_eq_true (by kernel_rfl)) ?_
  conv => whnf
  rw [size_nil]
  repeat' (first | ((first | refine Split.mk (fun h => ?_) (fun h => ?_) | refine CondG.mk (fun h => ?_) (fun h => ?_)) <;> (try simp only [decide_eq_true_eq, decide_eq_false_iff_not, Bool.not_eq_true', Bool.not_eq_false', beq_iff_eq, beq_eq_false_iff_ne] at h) <;> (first | (exfalso; first | omega | exact h trivial) | (conv => whnf))) | (refine Ask.mk (by first | omega | (unfold roomOK; simp [cutRows]; done) | (unfold roomOK; simp [cutRows]; omega)) ?_; conv => whnf) | (refine AppG.mk (by first | omega | (unfold roomOK; simp [cutRows]; done) | (unfold roomOK; simp [cutRows]; omega)) ?_; conv => whnf) | (refine SliceG.fr ?_; conv => whnf) | fail)
  all_goals try exact finb (by simp_all [keyB] <;> omega)
  refine loop_count (s.size) [] [0, 23, 24] (fun k (_ : Unit) => ⟨[(0, .c (.str s)), (23, .c (.int .i64 s.size)), (24, .c (.int .i64 k))], [], 0⟩) (fun k (_ : Unit) => ∀ i, i < k → isKeyC (byteAt s i) = true) (()) ?_ ?_ ?_
  · conv => whnf
    exact ⟨rfl, by simp⟩
  · intro k _ hk hi
    conv => whnf
    repeat' (first | ((first | refine Split.mk (fun h => ?_) (fun h => ?_) | refine CondG.mk (fun h => ?_) (fun h => ?_)) <;> (try simp only [decide_eq_true_eq, decide_eq_false_iff_not, Bool.not_eq_true', Bool.not_eq_false', beq_iff_eq, beq_eq_false_iff_ne] at h) <;> (first | (exfalso; first | omega | exact h trivial) | (conv => whnf))) | (refine Ask.mk (by first | omega | (unfold roomOK; simp [cutRows]; done) | (unfold roomOK; simp [cutRows]; omega)) ?_; conv => whnf) | (refine AppG.mk (by first | omega | (unfold roomOK; simp [cutRows]; done) | (unfold roomOK; simp [cutRows]; omega)) ?_; conv => whnf) | (refine SliceG.fr ?_; conv => whnf) | fail)
    all_goals first
      | exact finb (by rw [eq_comm, keyB, decide_eq_false_iff_not]; intro hh; have h5 := hh.2.2.2.2 k hk; simp_all [isKeyC] <;> omega)
      | skip
    all_goals (refine count_next () hk (by rw [wrap_succ hk (by omega)]; rfl) (all_succ hi ?_); simp_all [isKeyC] <;> omega)
  · intro _ hi
    conv => whnf
    repeat' (first | ((first | refine Split.mk (fun h => ?_) (fun h => ?_) | refine CondG.mk (fun h => ?_) (fun h => ?_)) <;> (try simp only [decide_eq_true_eq, decide_eq_false_iff_not, Bool.not_eq_true', Bool.not_eq_false', beq_iff_eq, beq_eq_false_iff_ne] at h) <;> (first | (exfalso; first | omega | exact h trivial) | (conv => whnf))) | (refine Ask.mk (by first | omega | (unfold roomOK; simp [cutRows]; done) | (unfold roomOK; simp [cutRows]; omega)) ?_; conv => whnf) | (refine AppG.mk (by first | omega | (unfold roomOK; simp [cutRows]; done) | (unfold roomOK; simp [cutRows]; omega)) ?_; conv => whnf) | (refine SliceG.fr ?_; conv => whnf) | fail)
    exact finb (by rw [eq_comm, keyB, decide_eq_true_iff]; exact ⟨by omega, by omega, by simp_all <;> omega, by simp_all <;> omega, hi⟩)

theorem PCs.of_same {P : Program} {f : Nat} {args : List S} {r : S} {cargs : Array Value} {c : Value} (hfn : ∃ fn, P.funcs[f]? = some fn ∧ (fn.name == "runtime.NumGoroutine") = false ∧ fn.body.isNone = false)
    (ha : ∀ (F : Nat → Prop) (φ : Nat → Option Value) (w : World) (cs : Array Value), P2 (RS F φ w) cs.toList args → cs = cargs) (hr : ∀ (F : Nat → Prop) (φ : Nat → Option Value) (w : World), RS F φ w c r) (h : ∀ w, Calls P f cargs w fun e w' => e = .returned c ∧ w' = w) : PCs P f args [] r [] := by
  refine ⟨hfn, fun F φ w cs hp hrp hφ => ?_⟩
  have := ha F φ w cs hp
  subst this
  refine (h w).mono ?_
  rintro e w' ⟨rfl, rfl⟩
  exact ⟨c, F, φ, r, [], ⟨rfl, rfl⟩, rfl, hr F φ w', Nx.refl⟩
theorem args2 {F : Nat → Prop} {φ : Nat → Option Value} {w : World} {cs : Array Value} {s1 s2 : S} {c1 c2 : Value} (h1 : ∀ c, RS F φ w c s1 → c = c1) (h2 : ∀ c, RS F φ w c s2 → c = c2) (hp : P2 (RS F φ w) cs.toList [s1, s2]) : cs = #[c1, c2] := by
  obtain ⟨x, xs, e1, r1, hp⟩ := hp.cons_inv
  obtain ⟨y, ys, e2, r2, hp⟩ := hp.cons_inv
  have := hp.nil_inv
  subst this
  subst e2
  apply Array.ext'
  rw [e1, h1 x r1, h2 y r2]

set_option maxHeartbeats 1000000 in
set_option maxRecDepth 100000 in
theorem baCompare_calls (a b : ByteArray) (w : World) :
    Calls Tryz.prog 92 #[.string a, .string b] w fun e w' => e = .returned (.int .i64 (Lib.compareBytes a.data.toList b.data.toList)) ∧ w' = w := by
  go_enter Tryz.func92, Tryz.ntmps92
  go_wp2
  rw [run_callFunc_extern Tryz.func129 (by kernel_rfl) (by kernel_rfl) (by kernel_rfl) (e := Extern.BytealgCompare.compare) (by kernel_rfl), Lib.run_compareString]
  simp only [Result.andThen]
  rw [Oper.upon_value]
  go_wp2
  go_ret
  exact ⟨rfl, rfl⟩
theorem baCompare_pc (a b : ByteArray) : PCp 92 [.c (.str a), .c (.str b)] [] (.c (.int .i64 (Lib.compareBytes a.data.toList b.data.toList))) [] :=
  PCs.of_same ⟨_, Tryz.func92, by kernel_rfl, by kernel_rfl⟩ (fun F φ w cs hp => args2 (fun c h => h.str_inv) (fun c h => h.str_inv) hp) (fun F φ w => RS.mki _ _) (baCompare_calls a b)
def cmpS (a b : ByteArray) : Int := Lib.compareBytes a.data.toList b.data.toList
set_option maxRecDepth 100000 in
set_option maxHeartbeats 4000000 in
theorem sCompare_pc (a b : ByteArray) : PCp 59 [.c (.str a), .c (.str b)] [] (.c (.int .i64 (cmpS a b))) [] := by
  refine fn_sound (mt := mts) tab_fits tab_mixed Tryz.func59 (by rfl) (by kernel_rfl) (by kernel_rfl) Tryz.results59 (Nat.le_of_ble_eq_true (by kernel_rfl)) ?_
  conv => whnf
  repeat' (first | ((first | refine Split.mk (fun h => ?_) (fun h => ?_) | refine CondG.mk (fun h => ?_) (fun h => ?_)) <;> (try simp only [decide_eq_true_eq, decide_eq_false_iff_not, Bool.not_eq_true', Bool.not_eq_false', beq_iff_eq, beq_eq_false_iff_ne] at h) <;> (first | (exfalso; first | omega | exact h trivial) | (conv => whnf))) | (refine CallX.mk _ _ (by first | exact baCompare_pc _ _) ?_; conv => whnf) | (refine CallG.mk _ _ (by first | exact baCompare_pc _ _) ?_; conv => whnf) | (refine Ask.mk (by first | omega | (unfold roomOK; simp [cutRows]; done) | (unfold roomOK; simp [cutRows]; omega)) ?_; conv => whnf) | (refine AppG.mk (by first | omega | (unfold roomOK; simp [cutRows]; done) | (unfold roomOK; simp [cutRows]; omega)) ?_; conv => whnf) | (refine SliceG.fr ?_; conv => whnf) | fail)
  exact fini rfl

end Go.Proofs.YtlifcpcfhkpejaaGreat

/- The generator's stream, by the abstract walk. -/
namespace Go.Proofs.YtlifcpcfhkpejaaGreat
set_option linter.unusedVariables false
set_option linter.unusedSimpArgs false
open Abs

theorem mapAt {α : Type} {enc : α → List V} {l : List α} {k : Nat} (d : α) (h : k < l.length) : 0 ≤ (k : Int) ∧ (l.map enc)[(k : Int).toNat]? = some (enc (l.getD k d)) := ⟨by omega, by simp [h]⟩
theorem mapAtW {α : Type} {enc : α → List V} {l : List α} {e : Int} {j : Nat} (d : α) (he : e = (j : Int)) (h : j < l.length) : 0 ≤ e ∧ (l.map enc)[e.toNat]? = some (enc (l.getD j d)) := by subst he; exact mapAt d h
def encI (n : Int) : List V := [.int .i64 n]
def encS (s : ByteArray) : List V := [.str s]
def firstErr : List Int → Int
  | [] => 0
  | x :: r => if x = 0 then firstErr r else x
theorem firstErr_drop (xs : List Int) (k : Nat) (h : k < xs.length) : firstErr (xs.drop k) = if xs.getD k 0 = 0 then firstErr (xs.drop (k + 1)) else xs.getD k 0 := by
  rw [List.drop_eq_getElem_cons h]; simp [firstErr, h]


def belowV (x n : Int) : Int := if n < 1 then 0 else if x.tmod n < 0 then x.tmod n + n else x.tmod n
theorem belowV_lt (x n : Int) (h : 1 ≤ n) : 0 ≤ belowV x n ∧ belowV x n < n := by
  have h1 := Int.tmod_lt_of_pos x (show 0 < n by omega)
  have h2 : -n < x.tmod n := by
    have := Int.lt_tmod_of_pos x (show 0 < n by omega)
    omega
  unfold belowV
  rw [if_neg (by omega)]
  split <;> omega

set_option maxRecDepth 100000 in
set_option maxHeartbeats 4000000 in
theorem below_pc (x n : Int) (hn : n ≤ 4611686018427387904) : PCp 25 [.c (.int .i64 x), .c (.int .i64 n)] [] (.c (.int .i64 (belowV x n))) [] := by
  refine fn_sound (mt := mts) tab_fits tab_mixed Tryz.func25 (by rfl) (by kernel_rfl) (by kernel_rfl) Tryz.results25 (Nat.le_of_ble_eq_true (by kernel_rfl)) ?_
  conv => whnf
  constructor
  · intro h
    conv => whnf
    have h := of_decide_eq_true h
    exact .mk ⟨by simp [oneOf, belowV, h], rfl⟩
  · intro h
    have h := of_decide_eq_false h
    conv => whnf
    refine ⟨by omega, ?_⟩
    conv => whnf
    have h1 := Int.tmod_lt_of_pos x (show 0 < n by omega)
    have h2 : -n < x.tmod n := Int.lt_tmod_of_pos x (show 0 < n by omega)
    constructor
    · intro h3
      have h3 := of_decide_eq_true h3
      conv => whnf
      refine .mk ⟨?_, rfl⟩
      show S.c _ = _
      rw [IntWalk.i64_in _ ⟨by omega, by omega⟩, belowV, if_neg h, if_pos h3]
    · intro h3
      have h3 := of_decide_eq_false h3
      conv => whnf
      refine .mk ⟨?_, rfl⟩
      show S.c _ = _
      rw [belowV, if_neg h, if_neg h3]

def nextV (L : List Int) (p n : Int) : Int :=
  if L.length = 0 then belowV (IntKind.i64.wrap ((p + 1) * 7919)) n
  else belowV (IntKind.i64.wrap (belowV (L.getD (p.tmod L.length).toNat 0) 1073741824 + IntKind.i64.wrap (IntKind.i64.wrap (p.tdiv L.length) * IntKind.i64.wrap (7919 + p.tmod L.length)))) n
theorem nextV_lt (L : List Int) (p n : Int) (h : 1 ≤ n) : 0 ≤ nextV L p n ∧ nextV L p n < n := by
  unfold nextV
  split <;> exact belowV_lt _ _ h

set_option maxRecDepth 100000 in
theorem next_pc (L : List Int) (p n : Int) (hp : 0 ≤ p) (hp2 : p ≤ 1000000000) (hL : L.length ≤ 9223372036854775807) (hn : n ≤ 4611686018427387904) :
    PCp 8 [.c (.ptr 0 0), .c (.int .i64 n)] [.box [.lst 1 (L.map encI), .int .i64 p]] (.c (.int .i64 (nextV L p n))) [.box [.lst 1 (L.map encI), .int .i64 (p + 1)]] := by
  have hw : IntKind.i64.wrap (p + 1) = p + 1 := IntWalk.i64_in _ ⟨by omega, by omega⟩
  have hw2 : IntKind.i64.wrap (p + 1 - 1) = p := by rw [IntWalk.i64_in _ ⟨by omega, by omega⟩]; omega
  refine fn_sound (mt := mts) tab_fits tab_mixed Tryz.func8 (by rfl) (by kernel_rfl) (by kernel_rfl) Tryz.results8 (Nat.le_of_ble_eq_true (by kernel_rfl)) ?_
  conv => whnf
  constructor
  · intro h
    have h0 : L.length = 0 := by simpa using h
    conv => whnf
    refine .mk _ _ (below_pc _ _ hn) ?_
    conv => whnf
    refine .mk ⟨?_, ?_⟩
    · show S.c _ = _
      rw [nextV, if_pos h0, hw]
    · show [Ob.box _] = _
      rw [hw]
  · intro h
    have h0 : ¬ L.length = 0 := by
      have := of_decide_eq_false h
      intro e
      simp [e] at this
    conv => whnf
    have hlen : (((L.map encI).length : Nat) : Int) = (L.length : Int) := by simp
    have hne : ¬ (((L.map encI).length : Nat) : Int) = 0 := by rw [hlen]; omega
    refine ⟨hne, ?_⟩
    conv => whnf
    refine ⟨hne, ?_⟩
    conv => whnf
    have hm : IntKind.i64.wrap (IntKind.i64.wrap (p + 1) - 1) = p := by rw [hw, hw2]
    have hi0 : 0 ≤ p.tmod L.length := Int.tmod_nonneg _ hp
    have hi1 : p.tmod L.length < L.length := Int.tmod_lt_of_pos _ (by omega)
    refine ⟨_, mapAtW (j := (p.tmod L.length).toNat) 0 (by rw [hm, hlen]; omega) (by omega), ?_⟩
    conv => whnf
    refine .mk _ _ (below_pc _ _ (by omega)) ?_
    conv => whnf
    refine .mk _ _ (below_pc _ _ hn) ?_
    conv => whnf
    refine .mk ⟨?_, ?_⟩
    · show S.c _ = _
      rw [nextV, if_neg h0, hm, hlen]
    · show [Ob.box _] = _
      rw [hw]

/-- the stream as an object -/
abbrev stO (L : List Int) (p : Int) : Ob := .box [.lst 1 (L.map encI), .int .i64 p]
def pickV (L : List Int) (p : Int) (l : List Int) : Int := l.getD (nextV L p l.length).toNat 0

set_option maxRecDepth 100000 in
theorem pick_pc (L : List Int) (p : Int) (l : List Int) (hp : 0 ≤ p) (hp2 : p ≤ 1000000000) (hL : L.length ≤ 9223372036854775807) (h1 : 1 ≤ l.length) (h2 : l.length ≤ 1000000000) :
    PCp 23 [.c (.ptr 0 0), .c (.lst 1 (l.map encI))] [stO L p] (.c (.int .i64 (pickV L p l))) [stO L (p + 1)] := by
  have hlen : (((l.map encI).length : Nat) : Int) = (l.length : Int) := by simp
  have hb := nextV_lt L p l.length (by omega)
  refine fn_sound (mt := mts) tab_fits tab_mixed Tryz.func23 (by rfl) (by kernel_rfl) (by kernel_rfl) Tryz.results23 (Nat.le_of_ble_eq_true (by kernel_rfl)) ?_
  conv => whnf
  refine .mk _ _ (next_pc L p _ hp hp2 hL (by rw [hlen]; omega)) ?_
  conv => whnf
  rw [hlen]
  refine ⟨_, mapAtW (j := (nextV L p l.length).toNat) 0 (by omega) (by omega), ?_⟩
  conv => whnf
  exact .mk ⟨rfl, rfl⟩

def rangeV (L : List Int) (p a b : Int) : Int := if b < a then a else a + nextV L p (b - a + 1)
theorem rangeV_in (L : List Int) (p a b : Int) (h : a ≤ b) : a ≤ rangeV L p a b ∧ rangeV L p a b ≤ b := by
  have := nextV_lt L p (b - a + 1) (by omega)
  unfold rangeV
  rw [if_neg (by omega)]
  omega
def small (x : Int) : Prop := -1000000000000 ≤ x ∧ x ≤ 1000000000000

set_option maxRecDepth 100000 in
theorem small_lit {n : Int} (h : -1000000 ≤ n ∧ n ≤ 1000000) : small n := by unfold small; omega
set_option maxRecDepth 100000 in
set_option maxHeartbeats 4000000 in
theorem range_pc (L : List Int) (p a b : Int) (hp : 0 ≤ p) (hp2 : p ≤ 1000000000) (hL : L.length ≤ 9223372036854775807) (hab : a ≤ b) (ha : small a) (hb : small b) :
    PCp 7 [.c (.ptr 0 0), .c (.int .i64 a), .c (.int .i64 b)] [stO L p] (.c (.int .i64 (rangeV L p a b))) [stO L (p + 1)] := by
  have e1 : IntKind.i64.wrap (b - a) = b - a := IntWalk.i64_in _ (by unfold small at *; omega)
  have e2 : IntKind.i64.wrap (b - a + 1) = b - a + 1 := IntWalk.i64_in _ (by unfold small at *; omega)
  have hn := nextV_lt L p (b - a + 1) (by omega)
  refine fn_sound (mt := mts) tab_fits tab_mixed Tryz.func7 (by rfl) (by kernel_rfl) (by kernel_rfl) Tryz.results7 (Nat.le_of_ble_eq_true (by kernel_rfl)) ?_
  conv => whnf
  constructor
  · intro h
    have h := of_decide_eq_true h
    omega
  · intro h
    conv => whnf
    rw [e1, e2]
    refine .mk _ _ (next_pc L p _ hp hp2 hL (by unfold small at *; omega)) ?_
    conv => whnf
    refine .mk ⟨?_, rfl⟩
    show S.c _ = _
    rw [IntWalk.i64_in _ (by unfold small at *; omega), rangeV, if_neg (by omega)]

set_option maxRecDepth 100000 in
set_option maxHeartbeats 4000000 in
theorem flip_pc (L : List Int) (p n : Int) (hp : 0 ≤ p) (hp2 : p ≤ 1000000000) (hL : L.length ≤ 9223372036854775807) (hn : n ≤ 1000000000) :
    PCp 24 [.c (.ptr 0 0), .c (.int .i64 n)] [stO L p] (.c (.bool (nextV L p n == 0))) [stO L (p + 1)] := by
  refine fn_sound (mt := mts) tab_fits tab_mixed Tryz.func24 (by rfl) (by kernel_rfl) (by kernel_rfl) Tryz.results24 (Nat.le_of_ble_eq_true (by kernel_rfl)) ?_
  conv => whnf
  refine .mk _ _ (next_pc L p _ hp hp2 hL (by omega)) ?_
  conv => whnf
  exact .mk ⟨rfl, rfl⟩


/-- a stream that goes on -/
def StOk (L : List Int) (p : Int) : Prop := L.length ≤ 9223372036854775807 ∧ 0 ≤ p ∧ p ≤ 900000000
theorem next_ok {L : List Int} {p : Int} (h : StOk L p) (n : Int) (hn : n ≤ 1000000000) : PCp 8 [.c (.ptr 0 0), .c (.int .i64 n)] [stO L p] (.c (.int .i64 (nextV L p n))) [stO L (p + 1)] :=
  next_pc L p n h.2.1 (by have := h.2.2; omega) h.1 (by omega)
theorem flip_ok {L : List Int} {p : Int} (h : StOk L p) (n : Int) (hn : n ≤ 1000000000) : PCp 24 [.c (.ptr 0 0), .c (.int .i64 n)] [stO L p] (.c (.bool (nextV L p n == 0))) [stO L (p + 1)] :=
  flip_pc L p n h.2.1 (by have := h.2.2; omega) h.1 hn
theorem pick_ok {L : List Int} {p : Int} (h : StOk L p) (l : List Int) (h1 : 1 ≤ l.length) (h2 : l.length ≤ 1000000000) : PCp 23 [.c (.ptr 0 0), .c (.lst 1 (l.map encI))] [stO L p] (.c (.int .i64 (pickV L p l))) [stO L (p + 1)] :=
  pick_pc L p l h.2.1 (by have := h.2.2; omega) h.1 h1 h2
theorem range_ok {L : List Int} {p : Int} (h : StOk L p) (a b : Int) (hab : a ≤ b) (ha : small a) (hb : small b) : PCp 7 [.c (.ptr 0 0), .c (.int .i64 a), .c (.int .i64 b)] [stO L p] (.c (.int .i64 (rangeV L p a b))) [stO L (p + 1)] :=
  range_pc L p a b h.2.1 (by have := h.2.2; omega) h.1 hab ha hb
end Go.Proofs.YtlifcpcfhkpejaaGreat

/- How a law's contract meets the row. -/
namespace Go.Proofs.YtlifcpcfhkpejaaGreat
set_option linter.unusedVariables false
set_option linter.unusedSimpArgs false
open Go.ChangeShapes Go.WideShapes Go.ChangeAt Go.RowKit
open Abs

theorem walk_of_pc' {f : Nat} (H : ∀ L : List Int, L.length ≤ 9223372036854775807 → PCp f [.c (.lst 1 (L.map encI))] [] (.c (.bool true)) [])
    (a : Option Addr) (len cap : Nat) (zs : List Int) (w : World) (hg : ∀ g ∈ globs, g.1 < w.heap.size ∧ ∃ cs t f, g.2 cs ∧ w.heap[g.1]? = some (.cells cs t f)) (h : IsRow .i64 w a len cap zs) :
    Calls Tryz.prog f #[.slice a len cap] w fun e w' => e = .returned (.bool true) ∧ Below w.heap.size w w' := by
  have key : ∀ L : List Int, L.length ≤ 9223372036854775807 → RT (fun b => b < w.heap.size) w (.slice a len cap) (.lst 1 (L.map encI)) →
      Calls Tryz.prog f #[.slice a len cap] w fun e w' => e = .returned (.bool true) ∧ Below w.heap.size w w' := by
    intro L hL hrt
    have hc := (H L hL).2 (fun b => b < w.heap.size) (fun _ => none) w #[.slice a len cap] (.cons (.c (.tree hrt)) .nil)
      ⟨fun l o h => by simp [nth] at h, fun l l' o o' b h => by simp [nth] at h, fun l o b h => by simp [nth] at h, fun b h => h, fun l c h => (by simp at h), hg⟩
      (fun l c h => by simp at h)
    refine hc.mono ?_
    rintro e w' ⟨c, F', φ', r0, os0, ⟨e1, e2⟩, rfl, hr, hn⟩
    subst e1 e2
    refine ⟨?_, hn.os, hn.tape, hn.output, hn.size, ?_⟩
    · cases hr with | c hv => cases hv with | tree ht => cases ht; rfl
    · intro k hk
      by_cases he : w'.heap[k]? = w.heap[k]?
      · exact he
      · obtain ⟨l, o, h1, _⟩ := hn.keep k hk he
        simp [nth] at h1
  rcases h with ⟨rfl, rfl, rfl, rfl⟩ | ⟨x, rfl, hl, hm, hz, hcell, -⟩
  · exact key [] (by simp) (.lst0 none 0 1 (Nat.zero_le _))
  · have hm' : cap ≤ 9223372036854775807 := hm
    by_cases h0 : len = 0
    · subst h0
      exact key [] (by simp) (.lst0 (some x) cap 1 hm)
    · obtain ⟨h1, h2⟩ := spot_none (hcell 0 (by omega))
      have h2 : x.block < w.heap.size := h2
      obtain ⟨b, o, sp⟩ := x
      have h1 : sp = none := h1
      subst h1
      refine key (zs.take len) (by simp; omega) (.lst b o len cap 1 _ (fun i _ => .int .i64 (zs.getD i 0)) h2 (by simp; omega) hl hm ?_ ?_ ?_)
      · intro r hr
        obtain ⟨y, _, rfl⟩ := List.mem_map.1 hr
        rfl
      · intro i j hi hj
        have hj0 : j = 0 := by omega
        subst hj0
        have h6 : (⟨b, o, none⟩ : Addr).add i = ⟨b, o + i, none⟩ := by unfold Addr.add; split <;> simp_all
        have := hcell i (by omega)
        rw [h6] at this
        simpa using this
      · intro i r j v hr hv
        have hi : i < (zs.take len).length := by
          have := (List.getElem?_eq_some_iff.1 hr).1
          simpa using this
        have hi2 : i < zs.length := by simp at hi; omega
        rw [List.getElem?_map, List.getElem?_eq_getElem hi] at hr
        simp only [Option.map_some, Option.some.injEq] at hr
        subst hr
        cases j with
        | zero =>
          simp only [encI, List.getElem?_cons_zero, Option.some.injEq] at hv
          subst hv
          simp only [List.getElem_take]
          rw [show zs.getD i 0 = zs[i] by simp [hi2]]
          exact .int _ _
        | succ j => simp [encI] at hv
theorem walk_of_pc {f : Nat} (H : ∀ L : List Int, L.length ≤ 9223372036854775807 → PCp f [.c (.lst 1 (L.map encI))] [] (.c (.bool true)) [])
    (hg : globs = []) (a : Option Addr) (len cap : Nat) (zs : List Int) (w : World) (h : IsRow .i64 w a len cap zs) :
    Calls Tryz.prog f #[.slice a len cap] w fun e w' => e = .returned (.bool true) ∧ Below w.heap.size w w' :=
  walk_of_pc' H a len cap zs w (fun g h => by rw [hg] at h; cases h) h
end Go.Proofs.YtlifcpcfhkpejaaGreat

/- Walks of package base, and of the small functions of the reference that say the same. -/
namespace Go.Proofs.YtlifcpcfhkpejaaGreat.Hd
set_option linter.unusedVariables false
set_option linter.unusedSimpArgs false
open Go.RowKit

/-- n is from lo to hi -/
def inB (n lo hi : Int) : Bool := decide (lo ≤ n ∧ n ≤ hi)
theorem inB_true {n lo hi : Int} (h : lo ≤ n ∧ n ≤ hi) : inB n lo hi = true := decide_eq_true h
theorem inB_false {n lo hi : Int} (h : ¬ (lo ≤ n ∧ n ≤ hi)) : inB n lo hi = false := decide_eq_false h
theorem of_inB {n lo hi : Int} (h : inB n lo hi = true) : lo ≤ n ∧ n ≤ hi := of_decide_eq_true h

set_option maxHeartbeats 400000 in
theorem out_any (n lo hi : Int) (w : World) : Calls Tryz.prog 44 #[.int .i64 n, .int .i64 lo, .int .i64 hi] w fun e w' => e = .returned (.bool (!inB n lo hi)) ∧ w = w' := by
  by_cases h1 : n < lo
  · have H := Lib.hid (inB_false (n := n) (lo := lo) (hi := hi) (by omega))
    go_enter Tryz.func44, Tryz.ntmps44
    go_wp2
    go_ret
    exact ⟨ret_bool (by rw [H.out]; rfl), rfl⟩
  · by_cases h2 : hi < n
    · have H := Lib.hid (inB_false (n := n) (lo := lo) (hi := hi) (by omega))
      go_enter Tryz.func44, Tryz.ntmps44
      go_wp2
      go_ret
      exact ⟨ret_bool (by rw [H.out]; simp [h2]), rfl⟩
    · have H := Lib.hid (inB_true (n := n) (lo := lo) (hi := hi) (by omega))
      go_enter Tryz.func44, Tryz.ntmps44
      go_wp2
      go_ret
      exact ⟨ret_bool (by rw [H.out]; simp [h2]), rfl⟩

set_option maxHeartbeats 400000 in
theorem in_any (n lo hi : Int) (w : World) : Calls Tryz.prog 29 #[.int .i64 n, .int .i64 lo, .int .i64 hi] w fun e w' => e = .returned (.bool (inB n lo hi)) ∧ w = w' := by
  by_cases h1 : lo ≤ n
  · by_cases h2 : n ≤ hi
    · have H := Lib.hid (inB_true (n := n) (lo := lo) (hi := hi) (by omega))
      go_enter Tryz.func29, Tryz.ntmps29
      go_wp2
      go_ret
      exact ⟨ret_bool (by rw [H.out]), rfl⟩
    · have H := Lib.hid (inB_false (n := n) (lo := lo) (hi := hi) (by omega))
      go_enter Tryz.func29, Tryz.ntmps29
      go_wp2
      go_ret
      exact ⟨ret_bool (by rw [H.out]), rfl⟩
  · have H := Lib.hid (inB_false (n := n) (lo := lo) (hi := hi) (by omega))
    go_enter Tryz.func29, Tryz.ntmps29
    go_wp2
    go_ret
    exact ⟨ret_bool (by rw [H.out]), rfl⟩

/-! greatest common divisors -/
def GcdRel (a b : Nat) (w : World) (x y : Value) (wr : World) : Prop :=
  ∃ a' b' n : Nat, x = .int .i64 a' ∧ y = .int .i64 b' ∧ Hid (Nat.gcd a' b' = Nat.gcd a b) ∧ a' ≤ 9223372036854775807 ∧ b' ≤ 9223372036854775807 ∧ Hid (wr = w.drewN n)
theorem drewN_add (w : World) (a b : Nat) : (w.drewN a).drewN b = w.drewN (a + b) := by simp [World.drewN, Nat.add_assoc]
theorem gcd_step (a b : Nat) : Nat.gcd b (a % b) = Nat.gcd a b := by rw [Nat.gcd_comm a b, Nat.gcd_rec b a, Nat.gcd_comm]
set_option maxHeartbeats 400000 in
theorem gcd_any (a b : Nat) (A : Int) (w : World) (hA : A = a) (ha : a ≤ 9223372036854775807) (hb : b ≤ 9223372036854775807) :
    Calls Tryz.prog 94 #[.int .i64 A, .int .i64 b] w fun e w' => e = .returned (.int .i64 (Nat.gcd a b)) ∧ ∃ n, w' = w.drewN n := by
  subst hA
  go_enter Tryz.func94, Tryz.ntmps94
  go_wp2
  go_loopw [0, 1] (GcdRel a b w) (fun _ y _ => (intOf y).toNat)
  case atStart => exact ⟨a, b, 0, rfl, rfl, Lib.hid rfl, ha, hb, rfl⟩
  case round =>
    obtain ⟨a', b', n, rfl, rfl, hg, ha', hb', hwr⟩ := hrel
    by_cases hz : b' = 0
    · subst hz
      go_wp2
      go_ret
      exact ⟨ret_int (by have := hg.out; simp at this; rw [this]), n, hwr⟩
    · have h1 : 1 ≤ b' := by omega
      have h2 : a' % b' < b' := Nat.mod_lt _ h1
      have h3 : ((b' : Int) != 0) = true := by simp; omega
      have HG : Hid (Nat.gcd b' (a' % b') = Nat.gcd a b) := (gcd_step a' b').trans hg.out
      clear hz
      go_wp2_with fail
      go_quiet (fail)
      go_roundw
      case rel => (repeat apply Exists.intro); exact ⟨⟨b', a' % b', n + _, rfl, rfl, HG, hb', by omega, (by rw [hwr.out]; exact drewN_add _ _ _)⟩, rfl⟩
      case measure => simp [intOf]; omega

theorem gcd_pos (a b : Nat) (h : 1 ≤ b) : 1 ≤ Nat.gcd a b := Nat.gcd_pos_of_pos_right a h
theorem quo_eq (x : Int) (g : Nat) (hg : 1 ≤ g) (h : (g : Int) ∣ x) : x.tdiv g = x / g := Int.tdiv_eq_ediv_of_dvd h

/-- a fraction in lowest terms -/
def low (x : Int) (d : Nat) : Int × Int := (x / (Nat.gcd x.natAbs d : Int), (d : Int) / (Nat.gcd x.natAbs d : Int))

theorem low_bd (x : Int) (d : Nat) (h : 1 ≤ d) : (low x d).2 ≤ d ∧ 1 ≤ (low x d).2 ∧ -(x.natAbs : Int) ≤ (low x d).1 ∧ (low x d).1 ≤ x.natAbs := by
  have hgp := gcd_pos x.natAbs d h
  have hgl : Nat.gcd x.natAbs d ≤ d := Nat.le_of_dvd h (Nat.gcd_dvd_right _ _)
  have h2 : (low x d).2 = ((d / Nat.gcd x.natAbs d : Nat) : Int) := rfl
  have h3 : 1 ≤ d / Nat.gcd x.natAbs d := Nat.div_pos hgl hgp
  have h4 : d / Nat.gcd x.natAbs d ≤ d := Nat.div_le_self _ _
  have h5 : (low x d).1 = x / (Nat.gcd x.natAbs d : Int) := rfl
  rw [h2, h5]
  generalize Nat.gcd x.natAbs d = g at *
  refine ⟨by omega, by omega, ?_, ?_⟩
  · rcases Int.le_total 0 x with hx | hx
    · have := Int.ediv_nonneg hx (show 0 ≤ (g : Int) by omega); omega
    · have : x ≤ x / g := by
        rw [Int.le_ediv_iff_mul_le (by omega)]
        have := Int.mul_le_mul_of_nonpos_right (a := (g : Int)) (b := 1) (c := x) (by omega) hx
        rw [Int.mul_comm (g : Int) x] at this; omega
      omega
  · rcases Int.le_total 0 x with hx | hx
    · have := Int.ediv_le_self (a := x) (g : Int) hx; omega
    · have : x / (g : Int) ≤ 0 := Int.ediv_nonpos_of_nonpos_of_neg hx (by omega)
      omega

set_option maxHeartbeats 400000 in
theorem fraction_any (x : Int) (d : Nat) (d' : Int) (w : World) (hd' : d' = d) (hx1 : -9223372036854775807 ≤ x) (hx2 : x ≤ 9223372036854775807) (hd : d ≤ 9223372036854775807) (hd1 : 1 ≤ d) :
    Calls Tryz.prog 62 #[.int .i64 x, .int .i64 d'] w fun e w' => e = .returned (.agg #[.int .i64 (low x d).1, .int .i64 (low x d).2]) ∧ w.grownBy w' none := by
  subst hd'
  have hg0 : (Nat.gcd x.natAbs d : Int) ∣ x := Int.ofNat_dvd_left.2 (Nat.gcd_dvd_left _ _)
  have hg1 : (Nat.gcd x.natAbs d : Int) ∣ (d : Int) := Int.natCast_dvd_natCast.2 (Nat.gcd_dvd_right _ _)
  have hgp := gcd_pos x.natAbs d hd1
  have hgl : Nat.gcd x.natAbs d ≤ d := Nat.le_of_dvd hd1 (Nat.gcd_dvd_right _ _)
  have HL : Hid (low x d = (x.tdiv (Nat.gcd x.natAbs d : Int), (d : Int) / (Nat.gcd x.natAbs d : Int))) := by
    show low x d = _; rw [quo_eq _ _ hgp hg0]; rfl
  have hq2 : IntKind.i64.wrap (x.tdiv (Nat.gcd x.natAbs d : Int)) = x.tdiv (Nat.gcd x.natAbs d : Int) := by
    have h := low_bd x d hd1
    rw [HL.out] at h
    exact IntWalk.i64_in _ ⟨by simp at h; omega, by simp at h; omega⟩
  have hq3 : IntKind.i64.wrap ((d : Int) / (Nat.gcd x.natAbs d : Int)) = (d : Int) / (Nat.gcd x.natAbs d : Int) := by
    have h := low_bd x d hd1
    rw [HL.out] at h
    exact IntWalk.i64_in _ ⟨by simp at h; omega, by simp at h; omega⟩
  clear hg0 hg1
  have HG : Hid (∀ A w, A = (x.natAbs : Int) → Calls Tryz.prog 94 #[.int .i64 A, .int .i64 d] w fun e w' => e = .returned (.int .i64 (Nat.gcd x.natAbs d)) ∧ ∃ n, w' = w.drewN n) :=
    fun A w hA => gcd_any x.natAbs d A w hA (by omega) hd
  generalize Nat.gcd x.natAbs d = g at *
  have key : ∀ A, A = (x.natAbs : Int) → max x (-x) = A → True := fun _ _ _ => trivial
  by_cases hs : 0 ≤ x
  all_goals
    go_enter Tryz.func62, Tryz.ntmps62
    go_wp2_with fail
    refine (HG.out _ _ (by omega)).mono ?_
    clear HG key
    rintro e w' ⟨rfl, n, rfl⟩
    go_wp2_with fail
    go_region
    go_wp2_with fail
    refine bodyPost_ret (v := .agg #[.int .i64 (x.tdiv g), .int .i64 ((d : Int) / g)]) (by simp [results, Tryz.results62, go_sem]) rfl ⟨by rw [HL.out], ?_⟩
    exact grown_setCell (grown_setCell (grown_drewN (World.grownBy_alloc _ _ _) _) (Nat.le_refl _) _) (Nat.le_refl _) _

/-! the reference's -/
/-! rounding down -/
theorem down_lo {a b : Int} (hb : 1 ≤ b) (h : a.tmod b < 0) : a.tdiv b - 1 = a / b := by
  rw [Int.tdiv_eq_ediv]; rw [Int.tmod_eq_emod] at h
  have h3 := Int.emod_nonneg a (b := b) (by omega)
  split at h
  · omega
  · rename_i hc; rw [if_neg hc, Int.sign_eq_one_of_pos (by omega)]; omega
theorem down_hi {a b : Int} (hb : 1 ≤ b) (h : 0 ≤ a.tmod b) : a.tdiv b = a / b := by
  rw [Int.tdiv_eq_ediv]; rw [Int.tmod_eq_emod] at h
  have h3 := Int.emod_lt_of_pos a (b := b) (by omega)
  split at h
  · rename_i hc; rw [if_pos hc]; omega
  · omega
theorem tdiv_bd {a b : Int} (hb : 1 ≤ b) (h1 : -9223372036854775807 ≤ a) (h2 : a ≤ 9223372036854775807) : -9223372036854775807 ≤ a.tdiv b ∧ a.tdiv b ≤ 9223372036854775807 := by
  have h := Int.natAbs_tdiv_le_natAbs a b
  omega

set_option maxHeartbeats 400000 in
theorem down_any (a b : Int) (w : World) (h1 : -9223372036854775807 ≤ a) (h2 : a ≤ 9223372036854775807) (hb : 1 ≤ b) (hb2 : b ≤ 9223372036854775807) :
    Calls Tryz.prog 38 #[.int .i64 a, .int .i64 b] w fun e w' => e = .returned (.int .i64 (a / b)) ∧ w = w' := by
  have h3 := tdiv_bd hb h1 h2
  have h4 : IntKind.i64.wrap (a.tdiv b) = a.tdiv b := IntWalk.i64_in _ ⟨by omega, by omega⟩
  by_cases hm : a.tmod b < 0
  · have H := Lib.hid (down_lo hb hm)
    go_enter Tryz.func38, Tryz.ntmps38
    go_wp2
    go_ret
    exact ⟨ret_int (by first | exact H.out | (rw [IntWalk.wrap64_in _ (by omega)]; exact H.out)), rfl⟩
  · have H := Lib.hid (down_hi (a := a) hb (by omega))
    go_enter Tryz.func38, Tryz.ntmps38
    go_wp2
    go_ret
    exact ⟨ret_int H.out, rfl⟩

end Go.Proofs.YtlifcpcfhkpejaaGreat.Hd

/- Walks of package base: comparisons, the first error, lowest terms. -/
namespace Go.Proofs.YtlifcpcfhkpejaaGreat.Hd
set_option linter.unusedVariables false
set_option linter.unusedSimpArgs false
open Go.RowKit

/-! the first error -/
def firstErr : List Int → Int
  | [] => 0
  | x :: r => if x = 0 then firstErr r else x
theorem firstErr_drop (xs : List Int) (k : Nat) (h : k < xs.length) : firstErr (xs.drop k) = if xs.getD k 0 = 0 then firstErr (xs.drop (k + 1)) else xs.getD k 0 := by
  rw [List.drop_eq_getElem_cons h]; simp [firstErr, h]

set_option maxHeartbeats 400000 in
theorem first_any (a : Option Addr) (n cap : Nat) (xs : List Int) (w : World) (hn : n = xs.length) (hm : n ≤ maxLen) (h : At w a (ints xs)) :
    Calls Tryz.prog 52 #[.slice a n cap] w fun e w' => e = .returned (.int .i64 (firstErr xs)) ∧ w = w' := by
  subst hn
  unfold maxLen at hm
  go_enter Tryz.func52, Tryz.ntmps52
  go_wp2
  go_loop [7] (fun i => ∃ k : Nat, k ≤ xs.length ∧ Hid (firstErr (xs.drop k) = firstErr xs) ∧ i = .int .i64 k) (fun i => xs.length - (intOf i).toNat)
  case atStart => exact ⟨0, Nat.zero_le _, by exact Lib.hid rfl, rfl⟩
  case round =>
    obtain ⟨k, hk, hf, rfl⟩ := hrel
    by_cases hlt : k < xs.length
    · obtain ⟨b, off, rfl, hck⟩ := h.int hlt
      have HS := Lib.hid (firstErr_drop xs k hlt)
      generalize xs.getD k 0 = x at hck HS
      by_cases hx : x = 0
      · subst hx
        go_wp2
        go_round
        case rel => exact ⟨k + 1, by omega, (by have := HS.out; rw [if_pos rfl, hf.out] at this; exact this.symm), by go_num⟩
        case measure => simp [intOf]; omega
      · have hx2 : (x != 0) = true := by simp; exact hx
        go_wp2
        go_ret
        exact ⟨ret_int (by have := HS.out; rw [if_neg hx, hf.out] at this; exact this.symm), rfl⟩
    · go_wp2
      go_ret
      exact ⟨ret_int (by rw [← hf.out, List.drop_of_length_le (by omega)]; rfl), rfl⟩
theorem first_lit (xs : List Int) (w : World) (cs : Array Value) (n : Nat) (E : TypeId) (B : Nat) (hB : w.heap.size = B) (hcs : cs = (ints xs).toArray) (hn : n = xs.length) (h2 : n < 1000) :
    Calls Tryz.prog 52 #[.slice (some ⟨B, 0, none⟩) n n] (w.alloc (.cells cs E)) fun e w' => e = .returned (.int .i64 (firstErr xs)) ∧ w.alloc (.cells cs E) = w' := by
  subst hB
  exact first_any _ _ _ xs _ hn (by unfold maxLen; omega) (by subst hcs; exact At.lit _ _ _)

/-! comparisons -/
def cmp3 (x y : Int) : Int := if x < y then -1 else if y < x then 1 else 0
theorem cmp3_lt {x y : Int} (h : x < y) : cmp3 x y = -1 := by simp [cmp3, h]
theorem cmp3_gt {x y : Int} (h : y < x) : cmp3 x y = 1 := by unfold cmp3; rw [if_neg (by omega), if_pos h]
theorem cmp3_eq {x y : Int} (h : x = y) : cmp3 x y = 0 := by subst h; simp [cmp3]

set_option maxHeartbeats 400000 in
theorem isnan_any (x : Int) (w : World) : Calls Tryz.prog 95 #[.int .i64 x] w fun e w' => e = .returned (.bool false) ∧ w = w' := by
  go_enter Tryz.func95, Tryz.ntmps95
  go_wp2
  go_ret
  exact ⟨ret_bool (by simp), rfl⟩

set_option maxHeartbeats 400000 in
theorem cmp_any (x y : Int) (w : World) : Calls Tryz.prog 63 #[.int .i64 x, .int .i64 y] w fun e w' => e = .returned (.int .i64 (cmp3 x y)) ∧ w = w' := by
  rcases Int.lt_trichotomy x y with h | h | h
  · have H := Lib.hid (cmp3_lt h)
    go_enter Tryz.func63, Tryz.ntmps63
    go_wp2_with fail
    refine (isnan_any _ _).mono ?_
    rintro e w1 ⟨rfl, rfl⟩
    go_wp2_with fail
    refine (isnan_any _ _).mono ?_
    rintro e w1 ⟨rfl, rfl⟩
    go_wp2_with fail
    go_ret
    exact ⟨ret_int H.out.symm, rfl⟩
  · subst h
    have H := Lib.hid (cmp3_eq (x := x) rfl)
    go_enter Tryz.func63, Tryz.ntmps63
    go_wp2_with fail
    refine (isnan_any _ _).mono ?_
    rintro e w1 ⟨rfl, rfl⟩
    go_wp2_with fail
    refine (isnan_any _ _).mono ?_
    rintro e w1 ⟨rfl, rfl⟩
    go_wp2_with fail
    go_ret
    exact ⟨ret_int H.out.symm, rfl⟩
  · have H := Lib.hid (cmp3_gt h)
    go_enter Tryz.func63, Tryz.ntmps63
    go_wp2_with fail
    refine (isnan_any _ _).mono ?_
    rintro e w1 ⟨rfl, rfl⟩
    go_wp2_with fail
    refine (isnan_any _ _).mono ?_
    rintro e w1 ⟨rfl, rfl⟩
    go_wp2_with fail
    go_ret
    exact ⟨ret_int H.out.symm, rfl⟩

namespace M64
theorem maskN (a : Nat) (ha : a < 18446744073709551616) : bits .and .u64 (a : Int) 4294967295 = ((a % 4294967296 : Nat) : Int) := by
  have h := bits_and_u64_nat a 4294967295 ha (by omega)
  have e : a &&& 4294967295 = a % 4294967296 := Nat.and_two_pow_sub_one_eq_mod a 32
  rw [e] at h
  exact h
theorem divN (a : Nat) : (a : Int) / 4294967296 = ((a / 4294967296 : Nat) : Int) := by omega
theorem mulN (a b : Nat) : (a : Int) * (b : Int) = ((a * b : Nat) : Int) := (Int.natCast_mul a b).symm
theorem addN (a b : Nat) : (a : Int) + (b : Int) = ((a + b : Nat) : Int) := (Int.natCast_add a b).symm
theorem wrapN (a : Nat) (ha : a < 18446744073709551616) : IntKind.u64.wrap (a : Int) = (a : Int) := by rw [IntKind.wrap_u64]; omega
theorem wrapM (a : Nat) : IntKind.u64.wrap (a : Int) = ((a % 18446744073709551616 : Nat) : Int) := by rw [IntKind.wrap_u64]; omega
end M64

set_option maxHeartbeats 1000000 in
theorem mul64_any (x y : Nat) (hx : x < 18446744073709551616) (hy : y < 18446744073709551616) (w : World) :
    Calls Tryz.prog 96 #[.int .u64 x, .int .u64 y] w fun e w' => e = .returned (.tuple #[.int .u64 ((x * y / 18446744073709551616 : Nat) : Int), .int .u64 ((x * y % 18446744073709551616 : Nat) : Int)]) ∧ w = w' := by
  obtain ⟨bd, bt, bw, hhi⟩ := Lib.mul64_hi x y hx hy
  have ba := Lib.half_mul_le (a := x / 4294967296) (b := y / 4294967296) (by omega) (by omega)
  have bb := Lib.half_mul_le (a := x / 4294967296) (b := y % 4294967296) (by omega) (by omega)
  have bc := Lib.half_mul_le (a := x % 4294967296) (b := y / 4294967296) (by omega) (by omega)
  have ba' : x / 4294967296 * (y / 4294967296) < 18446744073709551616 := by omega
  have bb' : x / 4294967296 * (y % 4294967296) < 18446744073709551616 := by omega
  have bc' : x % 4294967296 * (y / 4294967296) < 18446744073709551616 := by omega
  have bh1 : x / 4294967296 * (y / 4294967296) + (x / 4294967296 * (y % 4294967296) + x % 4294967296 * (y % 4294967296) / 4294967296) / 4294967296 < 18446744073709551616 := by omega
  have bh : x / 4294967296 * (y / 4294967296) + (x / 4294967296 * (y % 4294967296) + x % 4294967296 * (y % 4294967296) / 4294967296) / 4294967296 + ((x / 4294967296 * (y % 4294967296) + x % 4294967296 * (y % 4294967296) / 4294967296) % 4294967296 + x % 4294967296 * (y / 4294967296)) / 4294967296 < 18446744073709551616 := by omega
  go_enter Tryz.func96, Tryz.ntmps96
  go_wp2
  simp only [M64.maskN x hx, M64.maskN y hy, M64.divN, M64.mulN, M64.addN, M64.wrapN _ bd, M64.wrapN _ bb', M64.wrapN _ bt, M64.maskN _ bt, M64.wrapN _ bc', M64.wrapN _ bw, M64.wrapN _ ba', M64.wrapN _ bh1, M64.wrapN _ bh, M64.wrapM (x * y)]
  rw [hhi]
  go_ret2
  exact ⟨rfl, rfl⟩

def CPost (x y : Int) (w : World) (e : Ending) (w' : World) : Prop := e = .returned (.int .i64 (cmp3 x y)) ∧ w = w'

set_option maxHeartbeats 1000000 in
theorem products_any (a b c d : Nat) (w : World) (ha : a ≤ 9223372036854775807) (hb : b ≤ 9223372036854775807) (hc : c ≤ 9223372036854775807) (hd : d ≤ 9223372036854775807) :
    Calls Tryz.prog 64 #[.int .i64 a, .int .i64 b, .int .i64 c, .int .i64 d] w (CPost ((a * b : Nat) : Int) ((c * d : Nat) : Int) w) := by
  have HM : Hid (∀ (x y : Nat) (w : World), x ≤ 9223372036854775807 → y ≤ 9223372036854775807 → Calls Tryz.prog 96 #[.int .u64 x, .int .u64 y] w fun e w' => e = .returned (.tuple #[.int .u64 ((x * y / 18446744073709551616 : Nat) : Int), .int .u64 ((x * y % 18446744073709551616 : Nat) : Int)]) ∧ w = w') :=
    fun x y w hx hy => mul64_any x y (by omega) (by omega) w
  have hp := HM.out a b
  have hq := HM.out c d
  have HP := Lib.hid hp
  have HQ := Lib.hid hq
  clear hp hq HM
  generalize a * b = X at *
  generalize c * d = Y at *
  obtain ⟨h, H1⟩ : ∃ h, Hid (X / 18446744073709551616 = h) := ⟨_, rfl⟩
  obtain ⟨l, H2⟩ : ∃ l, Hid (X % 18446744073709551616 = l) := ⟨_, rfl⟩
  obtain ⟨i, H3⟩ : ∃ i, Hid (Y / 18446744073709551616 = i) := ⟨_, rfl⟩
  obtain ⟨m, H4⟩ : ∃ m, Hid (Y % 18446744073709551616 = m) := ⟨_, rfl⟩
  rw [H1.out, H2.out] at HP
  rw [H3.out, H4.out] at HQ
  rcases Nat.lt_trichotomy h i with hi | hi | hi
  · have HR : Hid (cmp3 (X : Int) Y = -1) := cmp3_lt (by have := H1.out; have := H2.out; have := H3.out; have := H4.out; omega)
    have hne : ((h : Int) != i) = true := by simp; omega
    clear H1 H2 H3 H4
    go_enter Tryz.func64, Tryz.ntmps64
    go_wp2_with fail
    refine (HP.out _ ha hb).mono ?_
    rintro e w1 ⟨rfl, rfl⟩
    go_wp2_with fail
    refine (HQ.out _ hc hd).mono ?_
    rintro e w1 ⟨rfl, rfl⟩
    go_wp2_with fail
    go_ret
    exact ⟨ret_int HR.out.symm, rfl⟩
  · subst hi
    rcases Nat.lt_trichotomy l m with hl | hl | hl
    · have HR : Hid (cmp3 (X : Int) Y = -1) := cmp3_lt (by have := H1.out; have := H2.out; have := H3.out; have := H4.out; omega)
      have hlt : (l : Int) < m := by omega
      clear H1 H2 H3 H4
      go_enter Tryz.func64, Tryz.ntmps64
      go_wp2_with fail
      refine (HP.out _ ha hb).mono ?_
      rintro e w1 ⟨rfl, rfl⟩
      go_wp2_with fail
      refine (HQ.out _ hc hd).mono ?_
      rintro e w1 ⟨rfl, rfl⟩
      go_wp2_with fail
      go_ret
      exact ⟨ret_int HR.out.symm, rfl⟩
    · subst hl
      have HR : Hid (cmp3 (X : Int) Y = 0) := cmp3_eq (by have := H1.out; have := H2.out; have := H3.out; have := H4.out; omega)
      clear H1 H2 H3 H4
      go_enter Tryz.func64, Tryz.ntmps64
      go_wp2_with fail
      refine (HP.out _ ha hb).mono ?_
      rintro e w1 ⟨rfl, rfl⟩
      go_wp2_with fail
      refine (HQ.out _ hc hd).mono ?_
      rintro e w1 ⟨rfl, rfl⟩
      go_wp2_with fail
      go_ret
      exact ⟨ret_int HR.out.symm, rfl⟩
    · have HR : Hid (cmp3 (X : Int) Y = 1) := cmp3_gt (by have := H1.out; have := H2.out; have := H3.out; have := H4.out; omega)
      have hne : ((l : Int) == m) = false := by simp; omega
      clear H1 H2 H3 H4
      go_enter Tryz.func64, Tryz.ntmps64
      go_wp2_with fail
      refine (HP.out _ ha hb).mono ?_
      rintro e w1 ⟨rfl, rfl⟩
      go_wp2_with fail
      refine (HQ.out _ hc hd).mono ?_
      rintro e w1 ⟨rfl, rfl⟩
      go_wp2_with fail
      go_ret
      exact ⟨ret_int HR.out.symm, rfl⟩
  · have HR : Hid (cmp3 (X : Int) Y = 1) := cmp3_gt (by have := H1.out; have := H2.out; have := H3.out; have := H4.out; omega)
    have hne : ((h : Int) != i) = true := by simp; omega
    have hne' : ((h : Int) == i) = false := by simp; omega
    clear H1 H2 H3 H4
    go_enter Tryz.func64, Tryz.ntmps64
    go_wp2_with fail
    refine (HP.out _ ha hb).mono ?_
    rintro e w1 ⟨rfl, rfl⟩
    go_wp2_with fail
    refine (HQ.out _ hc hd).mono ?_
    rintro e w1 ⟨rfl, rfl⟩
    go_wp2_with fail
    go_ret
    exact ⟨ret_int HR.out.symm, rfl⟩

/-! lowest terms -/
def LowRel (g : Nat) (w : World) (x y : Value) (wr : World) : Prop :=
  ∃ a b n : Nat, x = .int .u64 a ∧ y = .int .u64 b ∧ Hid (Nat.gcd a b = g) ∧ a ≤ 9223372036854775807 ∧ b ≤ 9223372036854775807 ∧ Hid (wr = w.drewN n)

set_option maxHeartbeats 1000000 in
theorem blowest_any (x d : Nat) (w : World) (hx : x ≤ 9223372036854775807) (hd : d ≤ 9223372036854775807) :
    Calls Tryz.prog 93 #[.agg #[.int .i64 x, .int .i64 d]] w fun e w' => e = .returned (.bool (decide (Nat.gcd x d = 1))) ∧ w.grownBy w' none := by
  go_enter Tryz.func93, Tryz.ntmps93
  go_wp2_with fail
  go_quiet (fail)
  go_wp2_with fail
  go_loopw [3, 4] (LowRel (Nat.gcd x d) (w.alloc (.cells #[.int .i64 x, .int .i64 d] 30))) (fun _ y _ => (intOf y).toNat)
  case atStart => exact ⟨x, d, _, rfl, rfl, Lib.hid rfl, hx, hd, rfl⟩
  case round =>
    clear hx hd
    obtain ⟨a', b', n, rfl, rfl, hg, ha', hb', hwr⟩ := hrel
    by_cases hz : b' = 0
    · subst hz
      have HG : Hid (a' = Nat.gcd x d) := by have hg2 := hg.out; simp at hg2; exact hg2
      go_wp2
      go_ret
      exact ⟨ret_bool (by have hz := HG.out; rw [Bool.eq_iff_iff]; simp; omega), by rw [hwr.out]; exact grown_drewN (World.grownBy_alloc _ _ _) _⟩
    · have h1 : 1 ≤ b' := by omega
      have h2 : a' % b' < b' := Nat.mod_lt _ h1
      have h3 : ((b' : Int) != 0) = true := by simp; omega
      have HG : Hid (Nat.gcd b' (a' % b') = Nat.gcd x d) := (gcd_step a' b').trans hg.out
      clear hz
      go_wp2_with fail
      go_quiet (fail)
      go_roundw
      case rel => (repeat apply Exists.intro); exact ⟨⟨b', a' % b', n + _, rfl, rfl, HG, hb', by omega, (by rw [hwr.out]; exact drewN_add _ _ _)⟩, rfl⟩
      case measure => simp [intOf]; omega

/-! fractions -/
set_option maxHeartbeats 1000000 in
theorem compare_nonneg (a b c d : Nat) (w : World) (ha : a ≤ 9223372036854775807) (hb : b ≤ 9223372036854775807) (hc : c ≤ 9223372036854775807) (hd : d ≤ 9223372036854775807) :
    Calls Tryz.prog 39 #[.agg #[.int .i64 a, .int .i64 b], .agg #[.int .i64 c, .int .i64 d]] w fun e w' => e = .returned (.int .i64 (cmp3 ((a * d : Nat) : Int) ((c * b : Nat) : Int))) ∧ w.grownBy w' none := by
  go_enter Tryz.func39, Tryz.ntmps39
  go_wp2_with fail
  refine (products_any a d c b _ ha hd hc hb).mono ?_
  rintro e w1 ⟨rfl, rfl⟩
  go_wp2_with fail
  go_ret
  exact ⟨rfl, grown_alloc_r (World.grownBy_alloc _ _ _) _⟩

set_option maxHeartbeats 1000000 in
theorem compare_mixed (a c : Int) (b d : Nat) (w : World) (h1 : a < 0 ∨ c < 0) (h2 : 0 ≤ a ∨ 0 ≤ c) :
    Calls Tryz.prog 39 #[.agg #[.int .i64 a, .int .i64 b], .agg #[.int .i64 c, .int .i64 d]] w fun e w' => e = .returned (.int .i64 (cmp3 a c)) ∧ w.grownBy w' none := by
  by_cases ha : a < 0
  · have hc : ¬ c < 0 := by omega
    clear h1 h2
    go_enter Tryz.func39, Tryz.ntmps39
    go_wp2_with fail
    refine (cmp_any _ _ _).mono ?_
    rintro e w1 ⟨rfl, rfl⟩
    go_wp2_with fail
    go_ret
    exact ⟨rfl, grown_alloc_r (World.grownBy_alloc _ _ _) _⟩
  · have hc : c < 0 := by omega
    clear h1 h2
    go_enter Tryz.func39, Tryz.ntmps39
    go_wp2_with fail
    refine (cmp_any _ _ _).mono ?_
    rintro e w1 ⟨rfl, rfl⟩
    go_wp2_with fail
    go_ret
    exact ⟨rfl, grown_alloc_r (World.grownBy_alloc _ _ _) _⟩

set_option maxHeartbeats 1000000 in
theorem compare_neg (a c : Int) (b d : Nat) (w : World) (h1 : a < 0) (h2 : c < 0) (h3 : -9223372036854775807 ≤ a) (h4 : -9223372036854775807 ≤ c) (hb : b ≤ 9223372036854775807) (hd : d ≤ 9223372036854775807) :
    Calls Tryz.prog 39 #[.agg #[.int .i64 a, .int .i64 b], .agg #[.int .i64 c, .int .i64 d]] w fun e w' => e = .returned (.int .i64 (cmp3 ((c.natAbs * b : Nat) : Int) ((a.natAbs * d : Nat) : Int))) ∧ w.grownBy w' none := by
  obtain ⟨A, rfl⟩ : ∃ A : Nat, a = -(A : Int) := ⟨a.natAbs, by omega⟩
  obtain ⟨C, rfl⟩ : ∃ C : Nat, c = -(C : Int) := ⟨c.natAbs, by omega⟩
  rw [show (-(A : Int)).natAbs = A by omega, show (-(C : Int)).natAbs = C by omega]
  have HC : Hid (∀ w, Calls Tryz.prog 39 #[.agg #[.int .i64 C, .int .i64 d], .agg #[.int .i64 A, .int .i64 b]] w fun e w' => e = .returned (.int .i64 (cmp3 ((C * b : Nat) : Int) ((A * d : Nat) : Int))) ∧ w.grownBy w' none) :=
    fun w => compare_nonneg C d A b w (by omega) hd (by omega) hb
  go_enter Tryz.func39, Tryz.ntmps39
  go_wp2_with fail
  refine (HC.out _).mono ?_
  rintro e w1 ⟨rfl, hg⟩
  clear HC
  go_wp2_with fail
  go_ret
  exact ⟨rfl, (grown_alloc_r (World.grownBy_alloc _ _ _) _).trans hg⟩

theorem compare_any (a c : Int) (b d : Nat) (w : World) (ha : -9223372036854775807 ≤ a ∧ a ≤ 9223372036854775807) (hc : -9223372036854775807 ≤ c ∧ c ≤ 9223372036854775807) (hb : 1 ≤ b ∧ b ≤ 9223372036854775807) (hd : 1 ≤ d ∧ d ≤ 9223372036854775807) :
    Calls Tryz.prog 39 #[.agg #[.int .i64 a, .int .i64 b], .agg #[.int .i64 c, .int .i64 d]] w fun e w' => e = .returned (.int .i64 (cmp3 (a * d) (c * b))) ∧ w.grownBy w' none := by
  by_cases h1 : a < 0
  · by_cases h2 : c < 0
    · have e : cmp3 (a * d) (c * b) = cmp3 ((c.natAbs * b : Nat) : Int) ((a.natAbs * d : Nat) : Int) := by
        have e1 : ((c.natAbs * b : Nat) : Int) = -(c * b) := by rw [Int.natCast_mul, show ((c.natAbs : Nat) : Int) = -c by omega, Int.neg_mul]
        have e2 : ((a.natAbs * d : Nat) : Int) = -(a * d) := by rw [Int.natCast_mul, show ((a.natAbs : Nat) : Int) = -a by omega, Int.neg_mul]
        rw [e1, e2]; unfold cmp3; generalize a * d = X; generalize c * b = Y
        (repeat' split) <;> omega
      rw [e]; exact compare_neg a c b d w h1 h2 ha.1 hc.1 hb.2 hd.2
    · have e : cmp3 (a * d) (c * b) = cmp3 a c := by
        rw [cmp3_lt (show a < c by omega)]
        refine cmp3_lt ?_
        have : a * d ≤ a * 1 := Int.mul_le_mul_of_nonpos_left (by omega) (by omega)
        have : 0 ≤ c * (b : Int) := Int.mul_nonneg (by omega) (by omega)
        omega
      rw [e]; exact compare_mixed a c b d w (.inl h1) (.inr (by omega))
  · by_cases h2 : c < 0
    · have e : cmp3 (a * d) (c * b) = cmp3 a c := by
        rw [cmp3_gt (show c < a by omega)]
        refine cmp3_gt ?_
        have : c * b ≤ c * 1 := Int.mul_le_mul_of_nonpos_left (by omega) (by omega)
        have : 0 ≤ a * (d : Int) := Int.mul_nonneg (by omega) (by omega)
        omega
      rw [e]; exact compare_mixed a c b d w (.inr h2) (.inl (by omega))
    · obtain ⟨A, rfl⟩ := Int.eq_ofNat_of_zero_le (show 0 ≤ a by omega)
      obtain ⟨C, rfl⟩ := Int.eq_ofNat_of_zero_le (show 0 ≤ c by omega)
      rw [← Int.natCast_mul, ← Int.natCast_mul]
      exact compare_nonneg A b C d w (by omega) hb.2 (by omega) hd.2
end Go.Proofs.YtlifcpcfhkpejaaGreat.Hd

/- Walks: rules and traces are looked at (package trace, and the reference). -/
namespace Go.Proofs.YtlifcpcfhkpejaaGreat.Hd
set_option linter.unusedVariables false
set_option linter.unusedSimpArgs false
open Go.RowKit

theorem out_in {n lo hi : Int} (h : lo ≤ n ∧ n ≤ hi) (w : World) : Calls Tryz.prog 44 #[.int .i64 n, .int .i64 lo, .int .i64 hi] w fun e w' => e = .returned (.bool false) ∧ w = w' :=
  (out_any n lo hi w).mono fun e w' ⟨h1, h2⟩ => ⟨by rw [h1, inB_true h]; rfl, h2⟩
theorem out_out {n lo hi : Int} (h : ¬ (lo ≤ n ∧ n ≤ hi)) (w : World) : Calls Tryz.prog 44 #[.int .i64 n, .int .i64 lo, .int .i64 hi] w fun e w' => e = .returned (.bool true) ∧ w = w' :=
  (out_any n lo hi w).mono fun e w' ⟨h1, h2⟩ => ⟨by rw [h1, inB_false h]; rfl, h2⟩
def rulesFault (st wd ls nm dn : Int) : Int :=
  if ¬ (1 ≤ st ∧ st ≤ 100) ∨ ¬ (1 ≤ wd ∧ wd ≤ 100) ∨ ¬ (1 ≤ ls ∧ ls ≤ 10000) then 1
  else if nm < 0 ∨ dn < 1 ∨ Nat.gcd nm.natAbs dn.natAbs ≠ 1 then 3
  else if 10000 < nm ∨ 1000 < dn then 1 else 0
theorem rf_1 {st wd ls nm dn : Int} (h : ¬ (1 ≤ st ∧ st ≤ 100) ∨ ¬ (1 ≤ wd ∧ wd ≤ 100) ∨ ¬ (1 ≤ ls ∧ ls ≤ 10000)) : rulesFault st wd ls nm dn = 1 := by rw [rulesFault, if_pos h]
theorem rf_3 {st wd ls nm dn : Int} (h1 : 1 ≤ st ∧ st ≤ 100) (h2 : 1 ≤ wd ∧ wd ≤ 100) (h3 : 1 ≤ ls ∧ ls ≤ 10000) (h : nm < 0 ∨ dn < 1 ∨ Nat.gcd nm.natAbs dn.natAbs ≠ 1) : rulesFault st wd ls nm dn = 3 := by
  rw [rulesFault, if_neg (by omega), if_pos h]
theorem rf_11 {st wd ls nm dn : Int} (h1 : 1 ≤ st ∧ st ≤ 100) (h2 : 1 ≤ wd ∧ wd ≤ 100) (h3 : 1 ≤ ls ∧ ls ≤ 10000) (h4 : ¬ (nm < 0 ∨ dn < 1 ∨ Nat.gcd nm.natAbs dn.natAbs ≠ 1)) (h : 10000 < nm ∨ 1000 < dn) : rulesFault st wd ls nm dn = 1 := by
  rw [rulesFault, if_neg (by omega), if_neg h4, if_pos h]
theorem rf_0 {st wd ls nm dn : Int} (h1 : 1 ≤ st ∧ st ≤ 100) (h2 : 1 ≤ wd ∧ wd ≤ 100) (h3 : 1 ≤ ls ∧ ls ≤ 10000) (h4 : ¬ (nm < 0 ∨ dn < 1 ∨ Nat.gcd nm.natAbs dn.natAbs ≠ 1)) (h : ¬ (10000 < nm ∨ 1000 < dn)) : rulesFault st wd ls nm dn = 0 := by
  rw [rulesFault, if_neg (by omega), if_neg h4, if_neg h]

set_option maxHeartbeats 2000000 in
theorem checkrules_any (st wd ls nm dn : Int) (w : World) (hb : nm ≤ 9223372036854775807 ∧ dn ≤ 9223372036854775807) :
    Calls Tryz.prog 60 #[.agg #[.int .i64 st, .int .i64 wd, .int .i64 ls, .int .i64 nm, .int .i64 dn]] w fun e w' => e = .returned (.int .i64 (rulesFault st wd ls nm dn)) ∧ w.grownBy w' none := by
  have HL : 0 ≤ nm → 1 ≤ dn → Hid (∀ w, Calls Tryz.prog 93 #[.agg #[.int .i64 nm, .int .i64 dn]] w fun e w' => e = .returned (.bool (decide (Nat.gcd nm.natAbs dn.natAbs = 1))) ∧ w.grownBy w' none) := by
    intro h1 h2 w
    have := blowest_any nm.natAbs dn.natAbs w (by omega) (by omega)
    rwa [show ((nm.natAbs : Nat) : Int) = nm by omega, show ((dn.natAbs : Nat) : Int) = dn by omega] at this
  by_cases h1 : 1 ≤ st ∧ st ≤ 100
  · by_cases h2 : 1 ≤ wd ∧ wd ≤ 100
    · by_cases h3 : 1 ≤ ls ∧ ls ≤ 10000
      · by_cases h4 : nm < 0
        · have H := Lib.hid (rf_3 (nm := nm) (dn := dn) h1 h2 h3 (.inl h4))
          clear HL
          go_enter Tryz.func60, Tryz.ntmps60
          go_wp2_with fail
          refine (out_in h1 _).mono ?_
          rintro e w1 ⟨rfl, rfl⟩
          go_wp2_with fail
          refine (out_in h2 _).mono ?_
          rintro e w1 ⟨rfl, rfl⟩
          go_wp2_with fail
          refine (out_in h3 _).mono ?_
          rintro e w1 ⟨rfl, rfl⟩
          go_wp2_with fail
          go_ret
          exact ⟨ret_int H.out.symm, World.grownBy_alloc _ _ _⟩
        · by_cases h5 : dn < 1
          · have H := Lib.hid (rf_3 (nm := nm) (dn := dn) h1 h2 h3 (.inr (.inl h5)))
            clear HL
            go_enter Tryz.func60, Tryz.ntmps60
            go_wp2_with fail
            refine (out_in h1 _).mono ?_
            rintro e w1 ⟨rfl, rfl⟩
            go_wp2_with fail
            refine (out_in h2 _).mono ?_
            rintro e w1 ⟨rfl, rfl⟩
            go_wp2_with fail
            refine (out_in h3 _).mono ?_
            rintro e w1 ⟨rfl, rfl⟩
            go_wp2_with fail
            go_ret
            exact ⟨ret_int H.out.symm, World.grownBy_alloc _ _ _⟩
          · have HL2 := HL (by omega) (by omega)
            clear HL
            by_cases h6 : Nat.gcd nm.natAbs dn.natAbs = 1
            · have h7 : ¬ (nm < 0 ∨ dn < 1 ∨ Nat.gcd nm.natAbs dn.natAbs ≠ 1) := by omega
              have HD : Hid (decide (Nat.gcd nm.natAbs dn.natAbs = 1) = true) := decide_eq_true h6
              by_cases h8 : 10000 < nm
              · have H := Lib.hid (rf_11 h1 h2 h3 h7 (.inl h8))
                clear h6 h7
                go_enter Tryz.func60, Tryz.ntmps60
                go_wp2_with fail
                refine (out_in h1 _).mono ?_
                rintro e w1 ⟨rfl, rfl⟩
                go_wp2_with fail
                refine (out_in h2 _).mono ?_
                rintro e w1 ⟨rfl, rfl⟩
                go_wp2_with fail
                refine (out_in h3 _).mono ?_
                rintro e w1 ⟨rfl, rfl⟩
                go_wp2_with fail
                refine (HL2.out _).mono ?_
                clear HL2
                rintro e w2 ⟨rfl, hg⟩
                rw [HD.out]
                have hcc : ∀ j, j < 5 → w2.cell? ⟨w.heap.size, j, none⟩ = (#[Value.int .i64 st, .int .i64 wd, .int .i64 ls, .int .i64 nm, .int .i64 dn])[j]? := by
                  intro j hj
                  have h0 := heap_alloc_new w (.cells #[.int .i64 st, .int .i64 wd, .int .i64 ls, .int .i64 nm, .int .i64 dn] 32)
                  simp only [World.cell?, hg.block _ (lt_of_block h0) (by simp), h0]; simp
                have hc3 := hcc 3 (by omega)
                have hc4 := hcc 4 (by omega)
                simp at hc3 hc4
                clear hcc
                go_wp2_with fail
                go_ret
                exact ⟨ret_int H.out.symm, (World.grownBy_alloc _ _ _).trans hg⟩
              · by_cases h9 : 1000 < dn
                · have H := Lib.hid (rf_11 h1 h2 h3 h7 (.inr h9))
                  clear h6 h7
                  go_enter Tryz.func60, Tryz.ntmps60
                  go_wp2_with fail
                  refine (out_in h1 _).mono ?_
                  rintro e w1 ⟨rfl, rfl⟩
                  go_wp2_with fail
                  refine (out_in h2 _).mono ?_
                  rintro e w1 ⟨rfl, rfl⟩
                  go_wp2_with fail
                  refine (out_in h3 _).mono ?_
                  rintro e w1 ⟨rfl, rfl⟩
                  go_wp2_with fail
                  refine (HL2.out _).mono ?_
                  clear HL2
                  rintro e w2 ⟨rfl, hg⟩
                  rw [HD.out]
                  have hcc : ∀ j, j < 5 → w2.cell? ⟨w.heap.size, j, none⟩ = (#[Value.int .i64 st, .int .i64 wd, .int .i64 ls, .int .i64 nm, .int .i64 dn])[j]? := by
                    intro j hj
                    have h0 := heap_alloc_new w (.cells #[.int .i64 st, .int .i64 wd, .int .i64 ls, .int .i64 nm, .int .i64 dn] 32)
                    simp only [World.cell?, hg.block _ (lt_of_block h0) (by simp), h0]; simp
                  have hc3 := hcc 3 (by omega)
                  have hc4 := hcc 4 (by omega)
                  simp at hc3 hc4
                  clear hcc
                  go_wp2_with fail
                  go_ret
                  exact ⟨ret_int H.out.symm, (World.grownBy_alloc _ _ _).trans hg⟩
                · have H := Lib.hid (rf_0 h1 h2 h3 h7 (by omega))
                  clear h6 h7
                  go_enter Tryz.func60, Tryz.ntmps60
                  go_wp2_with fail
                  refine (out_in h1 _).mono ?_
                  rintro e w1 ⟨rfl, rfl⟩
                  go_wp2_with fail
                  refine (out_in h2 _).mono ?_
                  rintro e w1 ⟨rfl, rfl⟩
                  go_wp2_with fail
                  refine (out_in h3 _).mono ?_
                  rintro e w1 ⟨rfl, rfl⟩
                  go_wp2_with fail
                  refine (HL2.out _).mono ?_
                  clear HL2
                  rintro e w2 ⟨rfl, hg⟩
                  rw [HD.out]
                  have hcc : ∀ j, j < 5 → w2.cell? ⟨w.heap.size, j, none⟩ = (#[Value.int .i64 st, .int .i64 wd, .int .i64 ls, .int .i64 nm, .int .i64 dn])[j]? := by
                    intro j hj
                    have h0 := heap_alloc_new w (.cells #[.int .i64 st, .int .i64 wd, .int .i64 ls, .int .i64 nm, .int .i64 dn] 32)
                    simp only [World.cell?, hg.block _ (lt_of_block h0) (by simp), h0]; simp
                  have hc3 := hcc 3 (by omega)
                  have hc4 := hcc 4 (by omega)
                  simp at hc3 hc4
                  clear hcc
                  go_wp2_with fail
                  go_ret
                  exact ⟨ret_int H.out.symm, (World.grownBy_alloc _ _ _).trans hg⟩
            · have H := Lib.hid (rf_3 h1 h2 h3 (.inr (.inr h6)))
              have HD : Hid (decide (Nat.gcd nm.natAbs dn.natAbs = 1) = false) := decide_eq_false h6
              clear h6
              go_enter Tryz.func60, Tryz.ntmps60
              go_wp2_with fail
              refine (out_in h1 _).mono ?_
              rintro e w1 ⟨rfl, rfl⟩
              go_wp2_with fail
              refine (out_in h2 _).mono ?_
              rintro e w1 ⟨rfl, rfl⟩
              go_wp2_with fail
              refine (out_in h3 _).mono ?_
              rintro e w1 ⟨rfl, rfl⟩
              go_wp2_with fail
              refine (HL2.out _).mono ?_
              clear HL2
              rintro e w2 ⟨rfl, hg⟩
              rw [HD.out]
              have hcc : ∀ j, j < 5 → w2.cell? ⟨w.heap.size, j, none⟩ = (#[Value.int .i64 st, .int .i64 wd, .int .i64 ls, .int .i64 nm, .int .i64 dn])[j]? := by
                intro j hj
                have h0 := heap_alloc_new w (.cells #[.int .i64 st, .int .i64 wd, .int .i64 ls, .int .i64 nm, .int .i64 dn] 32)
                simp only [World.cell?, hg.block _ (lt_of_block h0) (by simp), h0]; simp
              have hc3 := hcc 3 (by omega)
              have hc4 := hcc 4 (by omega)
              simp at hc3 hc4
              clear hcc
              go_wp2_with fail
              go_ret
              exact ⟨ret_int H.out.symm, (World.grownBy_alloc _ _ _).trans hg⟩
      · have H := Lib.hid (rf_1 (nm := nm) (dn := dn) (st := st) (wd := wd) (.inr (.inr h3)))
        clear HL
        go_enter Tryz.func60, Tryz.ntmps60
        go_wp2_with fail
        refine (out_in h1 _).mono ?_
        rintro e w1 ⟨rfl, rfl⟩
        go_wp2_with fail
        refine (out_in h2 _).mono ?_
        rintro e w1 ⟨rfl, rfl⟩
        go_wp2_with fail
        refine (out_out h3 _).mono ?_
        rintro e w1 ⟨rfl, rfl⟩
        go_wp2_with fail
        go_ret
        exact ⟨ret_int H.out.symm, World.grownBy_alloc _ _ _⟩
    · have H := Lib.hid (rf_1 (nm := nm) (dn := dn) (st := st) (ls := ls) (.inr (.inl h2)))
      clear HL
      go_enter Tryz.func60, Tryz.ntmps60
      go_wp2_with fail
      refine (out_in h1 _).mono ?_
      rintro e w1 ⟨rfl, rfl⟩
      go_wp2_with fail
      refine (out_out h2 _).mono ?_
      rintro e w1 ⟨rfl, rfl⟩
      go_wp2_with fail
      go_ret
      exact ⟨ret_int H.out.symm, World.grownBy_alloc _ _ _⟩
  · have H := Lib.hid (rf_1 (nm := nm) (dn := dn) (wd := wd) (ls := ls) (.inl h1))
    clear HL
    go_enter Tryz.func60, Tryz.ntmps60
    go_wp2_with fail
    refine (out_out h1 _).mono ?_
    rintro e w1 ⟨rfl, rfl⟩
    go_wp2_with fail
    go_ret
    exact ⟨ret_int H.out.symm, World.grownBy_alloc _ _ _⟩

end Go.Proofs.YtlifcpcfhkpejaaGreat.Hd

/- Walks: slices.IndexFunc and ContainsFunc of numbers, over whatever function that only reads. -/
namespace Go.Proofs.YtlifcpcfhkpejaaGreat.Hd
set_option linter.unusedVariables false
set_option linter.unusedSimpArgs false
open Go.RowKit

/-- the first index from k on at which p holds; -1 -/
def idxFrom (p : Int → Bool) : Nat → List Int → Int
  | _, [] => -1
  | k, x :: r => if p x then k else idxFrom p (k + 1) r
theorem idxFrom_neg (p : Int → Bool) : ∀ (xs : List Int) (k : Nat), (0 ≤ idxFrom p k xs) = (xs.any p = true)
  | [], k => by simp [idxFrom]
  | x :: r, k => by
    by_cases h : p x = true
    · simp [idxFrom, h]
    · have := idxFrom_neg p r (k + 1)
      simp [idxFrom, h, this]
theorem idxFrom_step (p : Int → Bool) (xs : List Int) (k : Nat) (h : k < xs.length) : idxFrom p k (xs.drop k) = if p (xs.getD k 0) then (k : Int) else idxFrom p (k + 1) (xs.drop (k + 1)) := by
  rw [List.drop_eq_getElem_cons h]; simp [idxFrom, h]

/-- a call of function k is entered -/
def Enters (P : Program) (k : Nat) : Prop := ∀ (args : Array Value) (w : World), (callFunc k args).run P w = .ok (.enter k args) w

theorem enters_fn {P : Program} {k : Nat} {fn : Func} (hf : P.funcs[k]? = some fn) (hn : (fn.name == "runtime.NumGoroutine") = false) (hb : fn.body.isNone = false) : Enters P k := by
  intro args w
  have hn' : ¬ fn.name = "runtime.NumGoroutine" := by simpa using hn
  have hb' : ¬ fn.body = none := by intro h; simp [h] at hb
  simp [callFunc, hf, hn', hb']

/-- a predicate as a function value: it only reads -/
def Pred1 (P : Program) (k : Nat) (caps : Array Value) (p : Int → Bool) (xs : List Int) (w : World) : Prop :=
  ∀ x, x ∈ xs → ∀ n, Calls P k (#[.int .i64 x] ++ caps) (w.drewN n) fun e w' => e = .returned (.bool (p x)) ∧ ∃ m, w' = w.drewN m

def IdxRel (p : Int → Bool) (xs : List Int) (w : World) (i : Value) (wr : World) : Prop :=
  ∃ k n : Nat, k ≤ xs.length ∧ Hid (idxFrom p k (xs.drop k) = idxFrom p 0 xs) ∧ i = .int .i64 k ∧ Hid (wr = w.drewN n)

set_option maxHeartbeats 800000 in
theorem indexInt_any (k : Nat) (caps : Array Value) (p : Int → Bool) (a : Option Addr) (n cap : Nat) (xs : List Int) (w : World) (hE : Enters Tryz.prog k) (hp : Pred1 Tryz.prog k caps p xs w)
    (hn : n = xs.length) (hm : n ≤ maxLen) (h : At w a (ints xs)) :
    Calls Tryz.prog 45 #[.slice a n cap, .func (.func k) #[] caps] w fun e w' => e = .returned (.int .i64 (idxFrom p 0 xs)) ∧ ∃ m, w' = w.drewN m := by
  subst hn
  unfold maxLen at hm
  have HP := Lib.hid hp
  unfold Enters at hE
  clear hp
  go_enter Tryz.func45, Tryz.ntmps45
  go_wp2
  go_loopw [8] (IdxRel p xs w) (fun i _ => xs.length - (intOf i).toNat)
  case atStart => exact ⟨0, 0, Nat.zero_le _, by exact Lib.hid rfl, rfl, rfl⟩
  case round =>
    obtain ⟨i, q, hk, hf, rfl, hwr⟩ := hrel
    by_cases hlt : i < xs.length
    · obtain ⟨b, off, rfl, hck⟩ := h.int hlt
      have HS := Lib.hid (idxFrom_step p xs i hlt)
      have HC := Lib.hid (HP.out (xs.getD i 0) (by simp [hlt]) q)
      rw [← hwr.out] at HC
      have hck' : wr.cell? ⟨b, off + i, none⟩ = some (.int .i64 (xs.getD i 0)) := by rw [hwr.out]; exact hck
      clear hck
      generalize xs.getD i 0 = x at hck' HS HC
      by_cases hpx : p x = true
      · go_wp2_with fail
        refine HC.out.mono ?_
        clear HC
        rintro e w1 ⟨rfl, m, hw1⟩
        have HW := Lib.hid hw1
        clear hw1 HP
        go_wp2_with fail
        go_ret
        exact ⟨ret_int (by have := HS.out; rw [if_pos hpx, hf.out] at this; exact this.symm), m, HW.out⟩
      · have hpx' : p x = false := by simpa using hpx
        clear hpx
        go_wp2_with fail
        refine HC.out.mono ?_
        clear HC
        rintro e w1 ⟨rfl, m, hw1⟩
        have HW := Lib.hid hw1
        clear hw1
        go_wp2_with fail
        go_roundw
        case rel => exact ⟨i + 1, m, by omega, (by have := HS.out; rw [hpx', hf.out] at this; simp at this; exact this.symm), by go_num, HW⟩
        case measure => simp [intOf]; omega
    · go_wp2
      go_ret
      exact ⟨ret_int (by rw [← hf.out, List.drop_of_length_le (by omega)]; rfl), q, hwr.out⟩

set_option maxHeartbeats 400000 in
theorem containsInt_any (k : Nat) (caps : Array Value) (p : Int → Bool) (a : Option Addr) (n cap : Nat) (xs : List Int) (w : World) (hE : Enters Tryz.prog k) (hp : Pred1 Tryz.prog k caps p xs w)
    (hn : n = xs.length) (hm : n ≤ maxLen) (h : At w a (ints xs)) :
    Calls Tryz.prog 27 #[.slice a n cap, .func (.func k) #[] caps] w fun e w' => e = .returned (.bool (xs.any p)) ∧ ∃ m, w' = w.drewN m := by
  have HI := Lib.hid (indexInt_any k caps p a n cap xs w hE hp hn hm h)
  have HN := Lib.hid (idxFrom_neg p xs 0)
  clear hE hp h hn
  generalize idxFrom p 0 xs = i at *
  go_enter Tryz.func27, Tryz.ntmps27
  go_wp2_with fail
  refine (HI.out).mono ?_
  rintro e w1 ⟨rfl, m, rfl⟩
  go_wp2_with fail
  go_ret
  exact ⟨ret_bool (by rw [Bool.eq_iff_iff, ← HN.out]; simp), m, rfl⟩
end Go.Proofs.YtlifcpcfhkpejaaGreat.Hd

/- Walks: a trace is looked at (package trace, and the reference). -/
namespace Go.Proofs.YtlifcpcfhkpejaaGreat.Hd
set_option linter.unusedVariables false
set_option linter.unusedSimpArgs false
open Go.RowKit

def okR (n : Int) : Bool := inB n (-10000) 10000
def traceFault (p : List Int) : Int := if 5000 < p.length then 2 else if p.all okR then 0 else 1

set_option maxHeartbeats 400000 in
theorem isreading_any (n : Int) (w : World) : Calls Tryz.prog 26 #[.int .i64 n] w fun e w' => e = .returned (.bool (okR n)) ∧ w = w' := by
  go_enter Tryz.func26, Tryz.ntmps26
  go_wp2_with fail
  refine (out_any _ _ _ _).mono ?_
  rintro e w1 ⟨rfl, rfl⟩
  go_wp2_with fail
  go_ret
  exact ⟨ret_bool (by simp [okR]), rfl⟩

theorem all_take_succ (p : List Int) (k : Nat) (h : k < p.length) : (p.take (k + 1)).all okR = ((p.take k).all okR && okR (p.getD k 0)) := by
  rw [take_snocD p k h]; simp

set_option maxHeartbeats 800000 in
theorem checktrace_any (a : Option Addr) (n cap : Nat) (p : List Int) (w : World) (hn : n = p.length) (hm : n ≤ maxLen) (h : At w a (ints p)) :
    Calls Tryz.prog 9 #[.slice a n cap] w fun e w' => e = .returned (.int .i64 (traceFault p)) ∧ w = w' := by
  subst hn
  unfold maxLen at hm
  by_cases hl : 5000 < p.length
  · have H : Hid (traceFault p = 2) := by show traceFault p = 2; rw [traceFault, if_pos hl]
    go_enter Tryz.func9, Tryz.ntmps9
    go_wp2
    go_ret
    exact ⟨ret_int H.out.symm, rfl⟩
  · have H : Hid (traceFault p = if p.all okR then 0 else 1) := by show traceFault p = _; rw [traceFault, if_neg hl]
    go_enter Tryz.func9, Tryz.ntmps9
    go_wp2
    go_loop [10] (fun i => ∃ k : Nat, k ≤ p.length ∧ Hid ((p.take k).all okR = true) ∧ i = .int .i64 k) (fun i => p.length - (intOf i).toNat)
    case atStart => exact ⟨0, Nat.zero_le _, by exact Lib.hid rfl, rfl⟩
    case round =>
      obtain ⟨k, hk, hf, rfl⟩ := hrel
      by_cases hlt : k < p.length
      · obtain ⟨b, off, rfl, hck⟩ := h.int hlt
        have HS := Lib.hid (all_take_succ p k hlt)
        have HM := Lib.hid (show p.getD k 0 ∈ p by simp [hlt])
        generalize p.getD k 0 = x at hck HS HM
        go_wp2_with fail
        refine (isreading_any _ _).mono ?_
        rintro e w1 ⟨rfl, rfl⟩
        by_cases hx : okR x = true
        · go_wp2_with fail
          go_round
          case rel => exact ⟨k + 1, by omega, (by have := HS.out; rw [hf.out, hx] at this; exact this), by go_num⟩
          case measure => simp [intOf]; omega
        · have hx' : okR x = false := by simpa using hx
          clear hx
          go_wp2_with fail
          go_ret
          exact ⟨ret_int (by rw [H.out, if_neg (by rw [List.all_eq_true]; intro hh; rw [hh x HM.out] at hx'; cases hx')]), rfl⟩
      · go_wp2
        go_ret
        exact ⟨ret_int (by rw [H.out]; have := hf.out; rw [List.take_of_length_le (by omega)] at this; rw [this]; rfl), rfl⟩

set_option maxHeartbeats 400000 in
theorem tracefault1_any (n : Int) (w : World) : Calls Tryz.prog 28 #[.int .i64 n] w fun e w' => e = .returned (.bool (!okR n)) ∧ w = w' := by
  go_enter Tryz.func28, Tryz.ntmps28
  go_wp2_with fail
  refine (in_any _ _ _ _).mono ?_
  rintro e w1 ⟨rfl, rfl⟩
  go_wp2_with fail
  go_ret
  exact ⟨ret_bool (by simp [okR]), rfl⟩

set_option maxHeartbeats 800000 in
theorem tracefault_any (a : Option Addr) (n cap : Nat) (p : List Int) (w : World) (hn : n = p.length) (hm : n ≤ maxLen) (h : At w a (ints p)) :
    Calls Tryz.prog 10 #[.slice a n cap] w fun e w' => e = .returned (.int .i64 (traceFault p)) ∧ ∃ m, w' = w.drewN m := by
  have HC := Lib.hid (containsInt_any 28 #[] (fun n => !okR n) a n cap p w (enters_fn Tryz.func28 (by kernel_rfl) (by kernel_rfl)) (fun x _ q => (tracefault1_any x _).mono fun e w' ⟨h1, h2⟩ => ⟨h1, q, h2.symm⟩) hn hm h)
  have HA : Hid (p.any (fun n => !okR n) = !p.all okR) := by show _ = _; rw [List.all_eq_not_any_not]; simp
  subst hn
  unfold maxLen at hm
  clear h
  by_cases hl : 5000 < p.length
  · have H : Hid (traceFault p = 2) := by show traceFault p = 2; rw [traceFault, if_pos hl]
    go_enter Tryz.func10, Tryz.ntmps10
    go_wp2
    go_ret
    exact ⟨ret_int H.out.symm, 0, rfl⟩
  · have H : Hid (traceFault p = if p.all okR then 0 else 1) := by show traceFault p = _; rw [traceFault, if_neg hl]
    rw [HA.out] at HC
    clear HA
    go_enter Tryz.func10, Tryz.ntmps10
    go_wp2_with fail
    refine HC.out.mono ?_
    clear HC
    rintro e w1 ⟨rfl, m, rfl⟩
    by_cases hx : p.all okR = true
    · have H' : Hid (traceFault p = 0) := by show _ = _; rw [H.out, if_pos hx]
      rw [hx]
      go_wp2_with fail
      go_ret
      exact ⟨ret_int H'.out.symm, m, rfl⟩
    · have hx' : p.all okR = false := by simpa using hx
      have H' : Hid (traceFault p = 1) := by show _ = _; rw [H.out, if_neg hx]
      rw [hx']
      go_wp2_with fail
      go_ret
      exact ⟨ret_int H'.out.symm, m, rfl⟩

/-- both faults -/
def faultOf (p : List Int) (st wd ls nm dn : Int) : Int := firstErr [traceFault p, rulesFault st wd ls nm dn]

set_option maxHeartbeats 800000 in
theorem fault_any (a : Option Addr) (n cap : Nat) (p : List Int) (st wd ls nm dn : Int) (w : World) (hn : n = p.length) (hm : n ≤ maxLen) (h : At w a (ints p)) (hb : nm ≤ 9223372036854775807 ∧ dn ≤ 9223372036854775807) :
    Calls Tryz.prog 35 #[.slice a n cap, .agg #[.int .i64 st, .int .i64 wd, .int .i64 ls, .int .i64 nm, .int .i64 dn]] w fun e w' => e = .returned (.int .i64 (faultOf p st wd ls nm dn)) ∧ w.grownBy w' none := by
  subst hn
  have h0 := heap_alloc_new w (.cells #[.int .i64 st, .int .i64 wd, .int .i64 ls, .int .i64 nm, .int .i64 dn] 32)
  have hc := cells5 h0
  have hat := h.alloc (.cells #[.int .i64 st, .int .i64 wd, .int .i64 ls, .int .i64 nm, .int .i64 dn] 32)
  go_enter Tryz.func35, Tryz.ntmps35
  go_wp2_with fail
  go_region_held3 (fun w' => w'.cell? ⟨w.heap.size, 0, none⟩ = some (.int .i64 st) ∧ w'.cell? ⟨w.heap.size, 1, none⟩ = some (.int .i64 wd) ∧ w'.cell? ⟨w.heap.size, 2, none⟩ = some (.int .i64 ls) ∧ w'.cell? ⟨w.heap.size, 3, none⟩ = some (.int .i64 nm) ∧ w'.cell? ⟨w.heap.size, 4, none⟩ = some (.int .i64 dn)) (go_keep) (first | (go_at_call 9; go_must (refine (checktrace_any _ _ _ p _ rfl hm hat.drew).mono ?_); rintro e w1 ⟨rfl, rfl⟩) | (go_at_call 60; go_must (refine (checkrules_any _ _ _ _ _ _ hb).mono ?_); rintro e w2 ⟨rfl, hg⟩; have hb2 := (hg.block _ (lt_of_block h0) (by simp)).trans h0; have hc := cells5 hb2) | (go_at_call 52; go_must (refine (first_lit [traceFault p, rulesFault st wd ls nm dn] _ _ _ _ _ rfl rfl rfl (by simp)).mono ?_); rintro e w3 ⟨rfl, rfl⟩))
  go_wp2_with fail
  go_ret
  exact ⟨ret_int rfl, grown_alloc_r ((grown_drew_r (World.grownBy_alloc _ _ _)).trans hg) _⟩
end Go.Proofs.YtlifcpcfhkpejaaGreat.Hd

/- The stream of numbers: its state, and the walks of its methods. -/
namespace Go.Proofs.YtlifcpcfhkpejaaGreat.Hd
set_option linter.unusedVariables false
set_option linter.unusedSimpArgs false
open Go.RowKit

/-- the stream lies in block s; at most K numbers have been taken -/
def Str (w : World) (s : Nat) (K : Nat) : Prop :=
  ∃ (aL : Option Addr) (cap : Nat) (L : List Int) (k : Int), w.heap[s]? = some (.cells #[.slice aL L.length cap, .int .i64 k] 25 (0, 0)) ∧
    L.length ≤ maxLen ∧ At w aL (ints L) ∧ (L ≠ [] → ∀ a, aL = some a → a.block < s) ∧ 0 ≤ k ∧ k ≤ K

theorem _root_.Go.Proofs.YtlifcpcfhkpejaaGreat.At.grownE {w w' : World} {a : Option Addr} {L : List Int} {x : Option Nat} (h : At w a (ints L)) (hg : w.grownBy w' x) (hx : L ≠ [] → ∀ p, a = some p → some p.block ≠ x) : At w' a (ints L) := by
  by_cases hL : L = []
  · exact .inl (by simp [hL, ints])
  · exact h.grown hg (hx hL)

theorem Str.drew {w : World} {s K : Nat} (h : Str w s K) : Str w.drew s K := h
theorem Str.drewN {w : World} {s K : Nat} (h : Str w s K) (n : Nat) : Str (w.drewN n) s K := h

theorem Str.grown {w w' : World} {s K : Nat} {x : Option Nat} (h : Str w s K) (hg : w.grownBy w' x) (hx : ∀ b, x = some b → s < b) : Str w' s K := by
  obtain ⟨aL, cap, L, k, hb, hL, hat, hne, hk0, hk1⟩ := h
  exact ⟨aL, cap, L, k, (hg.block s (lt_of_block hb) (fun e => by have := hx s e.symm; omega)).trans hb, hL, hat.grownE hg (fun hl p hp e => by have := hx _ e.symm; have := hne hl p hp; omega), hne, hk0, hk1⟩
theorem Str.quiet {w w' : World} {s K : Nat} (h : Str w s K) (hg : w.grownBy w' none) : Str w' s K := h.grown hg (by simp)
theorem Str.alloc {w : World} {s K : Nat} (h : Str w s K) (o : Obj) : Str (w.alloc o) s K := h.quiet (World.grownBy_alloc w o none)
theorem Str.mono {w : World} {s K K' : Nat} (h : Str w s K) (hk : K ≤ K') : Str w s K' := by
  obtain ⟨aL, cap, L, k, hb, hL, hat, hne, hk0, hk1⟩ := h
  exact ⟨aL, cap, L, k, hb, hL, hat, hne, hk0, by omega⟩
theorem Str.lt {w : World} {s K : Nat} (h : Str w s K) : s < w.heap.size := by
  obtain ⟨aL, cap, L, k, hb, _⟩ := h; exact lt_of_block hb

theorem Str.setCell {w : World} {s K : Nat} (h : Str w s K) {p : Addr} (hp : s < p.block) (v : Value) : Str (w.setCell p v) s K :=
  h.grown (x := some p.block) ⟨rfl, rfl, rfl, by simp, fun j _ hj => heap_setCell_other w p j _ (fun e => hj (by rw [e]))⟩ (by intro b hb; cases hb; exact hp)

end Go.Proofs.YtlifcpcfhkpejaaGreat.Hd

/- Walks: the excess of a trace (package trace, and the reference). -/
namespace Go.Proofs.YtlifcpcfhkpejaaGreat.Hd
set_option linter.unusedVariables false
set_option linter.unusedSimpArgs false
open Go.RowKit

theorem okR_bd {x : Int} (h : okR x = true) : -10000 ≤ x ∧ x ≤ 10000 := of_inB h
theorem okR_get (xs : List Int) (h : xs.all okR = true) (k : Nat) (hk : k < xs.length) : -10000 ≤ xs.getD k 0 ∧ xs.getD k 0 ≤ 10000 :=
  okR_bd (List.all_eq_true.1 h _ (by simp [hk]))
theorem sum_bd (xs : List Int) (h : xs.all okR = true) : -10000 * (xs.length : Int) ≤ xs.sum ∧ xs.sum ≤ 10000 * xs.length := by
  induction xs with
  | nil => simp
  | cons x r ih =>
    simp only [List.all_cons, Bool.and_eq_true] at h
    have h1 := okR_bd h.1
    have h2 := ih h.2
    simp only [List.sum_cons, List.length_cons]
    omega
theorem all_take (xs : List Int) (h : xs.all okR = true) (k : Nat) : (xs.take k).all okR = true := by
  rw [List.all_eq_true] at *; exact fun x hx => h x (List.mem_of_mem_take hx)
theorem all_drop (xs : List Int) (h : xs.all okR = true) (k : Nat) : (xs.drop k).all okR = true := by
  rw [List.all_eq_true] at *; exact fun x hx => h x (List.mem_of_mem_drop hx)
theorem sum_take_bd (xs : List Int) (h : xs.all okR = true) (k : Nat) (hk : k ≤ xs.length) : -10000 * (k : Int) ≤ (xs.take k).sum ∧ (xs.take k).sum ≤ 10000 * k := by
  have := sum_bd (xs.take k) (all_take xs h k)
  rw [List.length_take, Nat.min_eq_left hk] at this; exact this
theorem sum_snoc (xs : List Int) (k : Nat) (h : k < xs.length) : (xs.take (k + 1)).sum = (xs.take k).sum + xs.getD k 0 := by
  rw [take_snocD xs k h]; simp

set_option maxHeartbeats 400000 in
theorem sum_any (a : Option Addr) (n cap : Nat) (xs : List Int) (w : World) (hn : n = xs.length) (hm : n ≤ 5000) (ho : xs.all okR = true) (h : At w a (ints xs)) :
    Calls Tryz.prog 61 #[.slice a n cap] w fun e w' => e = .returned (.int .i64 xs.sum) ∧ w = w' := by
  subst hn
  go_enter Tryz.func61, Tryz.ntmps61
  go_wp2
  go_loop [3, 8] (fun t i => ∃ k : Nat, k ≤ xs.length ∧ i = .int .i64 k ∧ t = .int .i64 (xs.take k).sum) (fun _ i => xs.length - (intOf i).toNat)
  case atStart => exact ⟨0, Nat.zero_le _, rfl, rfl⟩
  case round =>
    obtain ⟨k, hk, rfl, rfl⟩ := hrel
    by_cases hlt : k < xs.length
    · obtain ⟨b, off, rfl, hck⟩ := h.int hlt
      have HS := Lib.hid (sum_snoc xs k hlt)
      have hb1 := sum_take_bd xs ho k hk
      have hb2 := okR_get xs ho k hlt
      generalize xs.getD k 0 = x at hck HS hb2
      generalize (xs.take k).sum = s at *
      go_wp2
      go_round
      case rel => exact ⟨k + 1, by omega, by go_num, by rw [HS.out]⟩
      case measure => simp [intOf]; omega
    · go_wp2
      go_ret
      exact ⟨ret_int (by rw [List.take_of_length_le (by omega)]), rfl⟩

/-! the excess -/
def win (p : List Int) (lo m : Nat) : List Int := (p.drop lo).take m
theorem ints_win (p : List Int) (lo m : Nat) : ((ints p).drop lo).take m = ints (win p lo m) := by simp [ints, win, List.map_take, List.map_drop]
theorem win_all (p : List Int) (h : p.all okR = true) (lo m : Nat) : (win p lo m).all okR = true := all_take _ (all_drop _ h _) _
theorem win_len (p : List Int) (lo m : Nat) (h : lo + m ≤ p.length) : (win p lo m).length = m := by simp [win]; omega
/-- what falls at index i, over windows of W samples -/
def drp (p : List Int) (W i : Nat) : Int := (win p (i - W) W).sum - (win p i W).sum
theorem drp_bd (p : List Int) (h : p.all okR = true) (W i : Nat) (hi : W ≤ i) (hi2 : i + W ≤ p.length) : -20000 * (W : Int) ≤ drp p W i ∧ drp p W i ≤ 20000 * W := by
  have h1 := sum_bd _ (win_all p h (i - W) W)
  have h2 := sum_bd _ (win_all p h i W)
  rw [win_len _ _ _ (by omega)] at h1 h2
  unfold drp; omega
def exn (p : List Int) (W D : Nat) (nm : Int) (i : Nat) : Int := drp p W i * D - W * W * nm
def exf (p : List Int) (W D : Nat) (nm : Int) (i : Nat) : Int × Int := low (exn p W D nm i) (W * D)
def exc (p : List Int) (W : Nat) : Nat := p.length + 1 - 2 * W
def exL (p : List Int) (W D : Nat) (nm : Int) : List (Int × Int) := (List.range (exc p W)).map fun j => exf p W D nm (W + j)
def exR (p : List Int) (W D : Nat) (nm : Int) : List Int := (List.range (exc p W)).map fun j => exn p W D nm (W + j)

def prs (l : List (Int × Int)) : List Value := l.flatMap fun q => [.int .i64 q.1, .int .i64 q.2]
theorem prs_snoc (l : List (Int × Int)) (q : Int × Int) : prs (l ++ [q]) = prs l ++ [.int .i64 q.1, .int .i64 q.2] := by simp [prs]

theorem elem_frac : Elem Tryz.prog 39 30 2 16 := by
  obtain ⟨i, hi, hz, h1, h2⟩ := info_parts (show (Tryz.prog.info? 30).map (fun i => (i.zero, i.size, i.bytes)) = some (some (.agg #[.int .i64 0, .int .i64 0]), 2, 16) by kernel_rfl)
  exact ⟨Tryz.underlying39, i, _, hi, hz, h1, h2, rfl, by omega⟩

theorem mul_bd (x y A B : Int) (hx : -A ≤ x ∧ x ≤ A) (hy : 0 ≤ y ∧ y ≤ B) (hA : 0 ≤ A) : -(A * B) ≤ x * y ∧ x * y ≤ A * B := by
  have h1 : x * y ≤ A * y := Int.mul_le_mul_of_nonneg_right hx.2 hy.1
  have h2 : A * y ≤ A * B := Int.mul_le_mul_of_nonneg_left hy.2 hA
  have h3 : -A * y ≤ x * y := Int.mul_le_mul_of_nonneg_right hx.1 hy.1
  rw [Int.neg_mul] at h3
  omega
theorem exn_bd (p : List Int) (h : p.all okR = true) (W D : Nat) (nm : Int) (i : Nat) (hW : W ≤ 100) (hD : D ≤ 1000) (hn : 0 ≤ nm ∧ nm ≤ 10000) (hi : W ≤ i) (hi2 : i + W ≤ p.length) :
    (-2000000000 ≤ drp p W i * D ∧ drp p W i * D ≤ 2000000000) ∧ (0 ≤ (W : Int) * W ∧ (W : Int) * W ≤ 10000) ∧ (0 ≤ (W : Int) * W * nm ∧ (W : Int) * W * nm ≤ 100000000) := by
  have h1 := drp_bd p h W i hi hi2
  have h2 := mul_bd (drp p W i) D 2000000 1000 (by omega) (by omega) (by omega)
  have h3 := mul_bd (W : Int) W 100 100 (by omega) (by omega) (by omega)
  have h3' : 0 ≤ (W : Int) * W := Int.mul_nonneg (by omega) (by omega)
  have h4 := mul_bd ((W : Int) * W) nm 10000 10000 (by omega) (by omega) (by omega)
  have h4' : 0 ≤ (W : Int) * W * nm := Int.mul_nonneg h3' (by omega)
  omega

theorem sum_win (p : List Int) (b off : Nat) (w : World) (h : At w (some ⟨b, off, none⟩) (ints p)) (ho : p.all okR = true) (lo m c : Nat) (h1 : lo + m ≤ p.length) (h2 : m ≤ 5000) :
    Calls Tryz.prog 61 #[.slice (some ⟨b, off + lo, none⟩) m c] w fun e w' => e = .returned (.int .i64 (win p lo m).sum) ∧ w = w' :=
  sum_any _ _ _ (win p lo m) w (win_len p lo m h1).symm h2 (win_all p ho lo m) (by rw [← ints_win]; exact h.sub lo m)
def ExRel (p : List Int) (W D : Nat) (st ls nm : Int) (w : World) (v5 v7 : Value) (wr : World) : Prop :=
  ∃ (a : Option Addr) (c k : Nat), k ≤ exc p W ∧ v7 = .int .i64 ((W : Int) + k) ∧ v5 = .slice a k c ∧
    wr.ownsRow (w.heap.size + 1) 30 2 (.slice a k c) k (prs ((List.range k).map fun j => exf p W D nm (W + j))) ∧
    wr.heap[w.heap.size]? = some (.cells #[.int .i64 st, .int .i64 W, .int .i64 ls, .int .i64 nm, .int .i64 D] 32 (0, 0)) ∧ w.grownBy wr none

set_option maxHeartbeats 2000000 in
theorem excess_any (a : Option Addr) (n cap : Nat) (p : List Int) (st ls nm : Int) (W D : Nat) (w : World) (hn : n = p.length) (hcap : n ≤ cap) (hc2 : cap ≤ maxLen) (hm : n ≤ 5000) (ho : p.all okR = true) (h : At w a (ints p))
    (hW : 1 ≤ W ∧ W ≤ 100) (hD : 1 ≤ D ∧ D ≤ 1000) (hnm : 0 ≤ nm ∧ nm ≤ 10000) :
    Calls Tryz.prog 36 #[.slice a n cap, .agg #[.int .i64 st, .int .i64 W, .int .i64 ls, .int .i64 nm, .int .i64 D]] w fun e w' =>
      ∃ a' c', e = .returned (.slice a' (exL p W D nm).length c') ∧ w'.ownsRow w.heap.size 30 2 (.slice a' (exL p W D nm).length c') (exL p W D nm).length (prs (exL p W D nm)) ∧ w.grownBy w' none := by
  subst hn
  have h0 := heap_alloc_new w (.cells #[.int .i64 st, .int .i64 W, .int .i64 ls, .int .i64 nm, .int .i64 D] 32)
  have H0 := Lib.hid h0
  clear h0
  go_enter Tryz.func36, Tryz.ntmps36
  go_wp2_with fail
  go_loopw [5, 7] (ExRel p W D st ls nm w) (fun _ i _ => p.length + 1 - (intOf i).toNat)
  case atStart => exact ⟨none, 0, 0, by omega, by simp, rfl, World.ownsRow_nil _ _ _ _, H0.out, World.grownBy_alloc _ _ _⟩
  case round =>
    clear H0
    obtain ⟨a2, c2, k, hk, rfl, rfl, hown, hb, hg⟩ := hrel
    by_cases hlt : W + k + W ≤ p.length
    · have hlt' : (W : Int) + k ≤ p.length - W := by omega
      obtain ⟨b, off, rfl⟩ := h.addr (by rw [length_ints]; omega)
      have hat := h.grown hg (by simp)
      obtain ⟨hB1, hB2, hB3⟩ := exn_bd p ho W D nm (W + k) hW.2 hD.2 hnm (by omega) (by omega)
      have HD : Hid ((win p k W).sum - (win p (W + k) W).sum = drp p W (W + k)) := by show _ = _; rw [drp, Nat.add_sub_cancel_left]
      have hdb := drp_bd p ho W (W + k) (by omega) (by omega)
      have HE : Hid (exf p W D nm (W + k) = low (drp p W (W + k) * D - W * W * nm) (W * D)) := rfl
      have hWD : (1 : Int) ≤ (W : Int) * D ∧ (W : Int) * D ≤ 100000 := by
        have := mul_bd (W : Int) D 100 1000 (by omega) (by omega) (by omega)
        have h2 : (1 : Int) * 1 ≤ (W : Int) * D := Int.mul_le_mul (by omega) (by omega) (by omega) (by omega)
        omega
      have hb' := sum_bd _ (win_all p ho k W)
      have hb'' := sum_bd _ (win_all p ho (W + k) W)
      rw [win_len p k W (by omega)] at hb'
      rw [win_len p (W + k) W (by omega)] at hb''
      have hcc := cells5 hb
      go_wp2_with fail
      go_quiet ((go_at_call 61; exact quiet_same (sum_win p b off _ (hat.drewN _) ho _ _ _ (by omega) (by omega))))
      rw [HD.out]
      clear HD hb' hb'' hat
      generalize drp p W (W + k) = X at *
      go_wp2_with fail
      refine (fraction_any _ (W * D) _ _ (by rw [Int.natCast_mul]) (by omega) (by omega) (by have := Int.natCast_mul W D; omega) (by have := Int.natCast_mul W D; omega)).mono ?_
      rw [← HE.out]
      obtain ⟨q, HQ⟩ : ∃ q, Hid (exf p W D nm (W + k) = q) := ⟨_, rfl⟩
      rw [HQ.out]
      clear HE
      rintro e w2 ⟨rfl, hg2⟩
      have hg2' := hg2
      replace hown := own_kept hown (show wr.grownBy w2 none from ⟨hg2.os, hg2.tape, hg2.output, hg2.size, hg2.block⟩) (by simp)
      replace hb := (hg2.block _ (lt_of_block hb) (by simp)).trans hb
      replace hg := hg.trans (show wr.grownBy w2 none from ⟨hg2.os, hg2.tape, hg2.output, hg2.size, hg2.block⟩)
      clear hg2 hg2' hcc
      have hq1 : (k + 1) * 16 ≤ 140737488355328 := by unfold exc at hk; omega
      have hq2 : k + 1 ≤ maxLen := by unfold maxLen; unfold exc at hk; omega
      have hq3 : w.heap.size + 1 ≤ w2.heap.size := lt_of_block hb
      go_wp2_with (at_builtin; refine wpList_push rfl _ _ _ rfl (w.heap.size + 1) _ _ _ _ elem_frac a2 k c2 _ hown 1 1 [.int .i64 q.1, .int .i64 q.2] rfl rfl rfl (by simp [Value.oneCell']) hq1 hq2 hq3 ?_; intro a3 c3 w4 hown4 hg4 hat4)
      refine ⟨⟨a3, c3, k + 1, by unfold exc; omega, by rw [Int.natCast_add, Int.add_assoc]; rfl, rfl, ?_, ?_, ?_⟩, by simp [intOf]; omega⟩
      · rw [List.range_succ, List.map_append, List.map_singleton, prs_snoc, HQ.out]; exact hown4
      · refine (hg4.block _ (lt_of_block hb) (fun e => ?_)).trans hb
        obtain ⟨p', hp', hpb⟩ := Option.map_eq_some_iff.1 e.symm
        have := (own_lt hown p' hp').1
        omega
      · exact grown_own hg hg4 (by intro b' hb'; obtain ⟨p', hp', hpb⟩ := Option.map_eq_some_iff.1 hb'; have := (own_lt hown p' hp').1; omega)
    · have hk2 : k = exc p W := by unfold exc at *; omega
      have hlt' : (p.length : Int) - W < W + k := by omega
      have HL : Hid (exL p W D nm = (List.range k).map fun j => exf p W D nm (W + j)) := by show _ = _; rw [hk2]; rfl
      clear hk2
      go_wp2_with fail
      go_ret
      refine ⟨a2, c2, ?_, ?_, hg⟩
      · rw [HL.out]; simp
      · rw [HL.out]; simpa using own_base hown (Nat.le_succ _)

set_option maxHeartbeats 800000 in
theorem Excess_bad (a : Option Addr) (n cap : Nat) (p : List Int) (st wd ls nm dn : Int) (w : World) (hn : n = p.length) (hm : n ≤ maxLen) (h : At w a (ints p)) (hb : nm ≤ 9223372036854775807 ∧ dn ≤ 9223372036854775807) (hf : faultOf p st wd ls nm dn ≠ 0) :
    Calls Tryz.prog 13 #[.slice a n cap, .agg #[.int .i64 st, .int .i64 wd, .int .i64 ls, .int .i64 nm, .int .i64 dn]] w fun e w' => e = .returned (.tuple #[.slice none 0 0, .int .i64 (faultOf p st wd ls nm dn)]) ∧ w.grownBy w' none := by
  have hcc := cells5 (heap_alloc_new w (.cells #[.int .i64 st, .int .i64 wd, .int .i64 ls, .int .i64 nm, .int .i64 dn] 32))
  have HX := Lib.hid (fault_any a n cap p st wd ls nm dn (w.alloc (.cells #[.int .i64 st, .int .i64 wd, .int .i64 ls, .int .i64 nm, .int .i64 dn] 32)) hn hm (h.alloc _) hb)
  generalize faultOf p st wd ls nm dn = f at *
  have hf' : (f != 0) = true := by simpa using hf
  clear hf h hn
  go_enter Tryz.func13, Tryz.ntmps13
  go_wp2_with fail
  refine HX.out.mono ?_
  clear HX hcc
  rintro e w2 ⟨rfl, hg⟩
  go_wp2_with fail
  go_ret2
  exact ⟨rfl, (World.grownBy_alloc w _ none).trans hg⟩

set_option maxHeartbeats 800000 in
theorem Excess_good (a : Option Addr) (n cap : Nat) (p : List Int) (st ls nm : Int) (W D : Nat) (w : World) (hn : n = p.length) (hcap : n ≤ cap) (hc2 : cap ≤ maxLen) (hm : n ≤ 5000) (ho : p.all okR = true) (h : At w a (ints p))
    (hW : 1 ≤ W ∧ W ≤ 100) (hD : 1 ≤ D ∧ D ≤ 1000) (hnm : 0 ≤ nm ∧ nm ≤ 10000) (hf : faultOf p st W ls nm D = 0) :
    Calls Tryz.prog 13 #[.slice a n cap, .agg #[.int .i64 st, .int .i64 W, .int .i64 ls, .int .i64 nm, .int .i64 D]] w fun e w' =>
      ∃ a' c', e = .returned (.tuple #[.slice a' (exL p W D nm).length c', .int .i64 0]) ∧ w'.ownsRow w.heap.size 30 2 (.slice a' (exL p W D nm).length c') (exL p W D nm).length (prs (exL p W D nm)) ∧ w.grownBy w' none := by
  have h0 := heap_alloc_new w (.cells #[.int .i64 st, .int .i64 W, .int .i64 ls, .int .i64 nm, .int .i64 D] 32)
  have hcc := cells5 h0
  have HX := Lib.hid (fault_any a n cap p st W ls nm D (w.alloc (.cells #[.int .i64 st, .int .i64 W, .int .i64 ls, .int .i64 nm, .int .i64 D] 32)) hn (by unfold maxLen at *; omega) (h.alloc _) (by omega))
  rw [hf] at HX
  have H0 := Lib.hid h0
  clear h0
  subst hn
  go_enter Tryz.func13, Tryz.ntmps13
  go_wp2_with fail
  refine HX.out.mono ?_
  clear HX hcc
  rintro e w2 ⟨rfl, hg⟩
  have hb := (hg.block _ (lt_of_block H0.out) (by simp)).trans H0.out
  have hg0 : w.grownBy w2 none := (World.grownBy_alloc w _ none).trans hg
  have hcc := cells5 hb
  clear H0 hg hb
  go_wp2_with fail
  refine (excess_any a _ cap p st ls nm W D _ rfl hcap hc2 hm ho (h.grown hg0 (by simp)) hW hD hnm).mono ?_
  rintro e w3 ⟨a', c', rfl, hown, hg3⟩
  clear hcc
  go_wp2_with fail
  go_ret2
  exact ⟨a', c', rfl, own_base hown hg0.size, hg0.trans hg3⟩
end Go.Proofs.YtlifcpcfhkpejaaGreat.Hd

/- Plain law: the runs of an excess, and the best of each run. No program in sight. -/
namespace Go.Proofs.YtlifcpcfhkpejaaGreat.Hd
set_option linter.unusedVariables false
set_option linter.unusedSimpArgs false

section
variable (R : List Int) (T : Int)
/-- index i belongs to a run -/
def isN (i : Nat) : Bool := decide (i < R.length) && decide (T ≤ R.getD i 0)
def lft (x : Int) : Nat → Bool
  | 0 => true
  | k + 1 => if isN R T k then decide (R.getD k 0 < x) && lft x k else true
def rgt (x : Int) : Nat → Nat → Bool
  | 0, _ => true
  | m + 1, k => if isN R T k then decide (R.getD k 0 ≤ x) && rgt x m (k + 1) else true
def bestB (i : Nat) : Bool := isN R T i && (lft R T (R.getD i 0) i && rgt R T (R.getD i 0) (R.length - (i + 1)) (i + 1))
def bestL : List Nat := (List.range R.length).filter (bestB R T)

theorem isN_lt {i : Nat} (h : isN R T i = true) : i < R.length := by simp [isN] at h; exact h.1
theorem isN_ge {i : Nat} (h : isN R T i = true) : T ≤ R.getD i 0 := by simp only [isN, Bool.and_eq_true, decide_eq_true_eq] at h; exact h.2
theorem isN_mk {i : Nat} (h1 : i < R.length) (h2 : T ≤ R.getD i 0) : isN R T i = true := by simp only [isN, Bool.and_eq_true, decide_eq_true_eq]; exact ⟨h1, h2⟩

theorem lft_iff (x : Int) : ∀ n, lft R T x n = true ↔ ∀ k, k < n → (∀ j, k ≤ j → j < n → isN R T j = true) → R.getD k 0 < x := by
  intro n
  induction n with
  | zero => simp [lft]
  | succ n ih =>
    unfold lft
    by_cases h : isN R T n = true
    · rw [if_pos h, Bool.and_eq_true, decide_eq_true_eq, ih]
      constructor
      · rintro ⟨h1, h2⟩ k hk hj
        by_cases hkn : k = n
        · subst hkn; exact h1
        · exact h2 k (by omega) (fun j h3 h4 => hj j h3 (by omega))
      · intro hh
        refine ⟨hh n (by omega) (fun j h3 h4 => by rw [show j = n by omega]; exact h), fun k hk hj => hh k (by omega) (fun j h3 h4 => ?_)⟩
        by_cases hjn : j = n
        · rw [hjn]; exact h
        · exact hj j h3 (by omega)
    · rw [if_neg h]
      constructor
      · intro _ k hk hj
        exact absurd (hj n (by omega) (by omega)) h
      · intro _; rfl

theorem rgt_iff (x : Int) : ∀ m s, rgt R T x m s = true ↔ ∀ k, s ≤ k → k < s + m → (∀ j, s ≤ j → j ≤ k → isN R T j = true) → R.getD k 0 ≤ x := by
  intro m
  induction m with
  | zero => intro s; simp [rgt]; intro k h1 h2; omega
  | succ m ih =>
    intro s
    unfold rgt
    by_cases h : isN R T s = true
    · rw [if_pos h, Bool.and_eq_true, decide_eq_true_eq, ih]
      constructor
      · rintro ⟨h1, h2⟩ k hk hk2 hj
        by_cases hks : k = s
        · subst hks; exact h1
        · exact h2 k (by omega) (by omega) (fun j h3 h4 => hj j (by omega) h4)
      · intro hh
        refine ⟨hh s (by omega) (by omega) (fun j h3 h4 => by rw [show j = s by omega]; exact h), fun k hk hk2 hj => hh k (by omega) (by omega) (fun j h3 h4 => ?_)⟩
        by_cases hjs : j = s
        · rw [hjs]; exact h
        · exact hj j (by omega) h4
    · rw [if_neg h]
      constructor
      · intro _ k hk hk2 hj
        exact absurd (hj s (by omega) (by omega)) h
      · intro _; rfl

theorem bestB_iff (i : Nat) : bestB R T i = true ↔ isN R T i = true ∧ (∀ k, k < i → (∀ j, k ≤ j → j < i → isN R T j = true) → R.getD k 0 < R.getD i 0) ∧
    (∀ k, i < k → (∀ j, i < j → j ≤ k → isN R T j = true) → R.getD k 0 ≤ R.getD i 0) := by
  unfold bestB
  rw [Bool.and_eq_true, Bool.and_eq_true, lft_iff, rgt_iff]
  constructor
  · rintro ⟨h1, h2, h3⟩
    refine ⟨h1, h2, fun k hk hj => ?_⟩
    have := isN_lt R T (hj k hk (Nat.le_refl _))
    exact h3 k (by omega) (by omega) (fun j h4 h5 => hj j (by omega) h5)
  · rintro ⟨h1, h2, h3⟩
    exact ⟨h1, h2, fun k hk _ hj => h3 k (by omega) (fun j h4 h5 => hj j (by omega) h5)⟩

/-! the machine of the program -/
def flushO (s : Option Nat × List Nat) : List Nat := match s.1 with | some b => s.2 ++ [b] | none => s.2
def pst : Nat → Option Nat × List Nat
  | 0 => (none, [])
  | k + 1 =>
    if R.getD k 0 < T then (none, flushO (pst k))
    else match (pst k).1 with
      | none => (some k, (pst k).2)
      | some b => if R.getD b 0 < R.getD k 0 then (some k, (pst k).2) else pst k

def PInv (k : Nat) (s : Option Nat × List Nat) : Prop :=
  ∃ st, st ≤ k ∧ (st = 0 ∨ isN R T (st - 1) = false) ∧ (∀ j, st ≤ j → j < k → isN R T j = true) ∧ s.2 = (List.range st).filter (bestB R T) ∧
    ((s.1 = none ∧ st = k) ∨ ∃ b, s.1 = some b ∧ st ≤ b ∧ b < k ∧ (∀ j, st ≤ j → j < b → R.getD j 0 < R.getD b 0) ∧ (∀ j, b < j → j < k → R.getD j 0 ≤ R.getD b 0))

theorem filter_single (p : Nat → Bool) (st b k : Nat) (h1 : st ≤ b) (h2 : b < k) (h : ∀ j, st ≤ j → j < k → (p j = true ↔ j = b)) : (List.range k).filter p = (List.range st).filter p ++ [b] := by
  have low : ∀ m, st ≤ m → m ≤ b → (List.range m).filter p = (List.range st).filter p := by
    intro m hm hb
    induction m with
    | zero => rw [show st = 0 by omega]
    | succ m ih =>
      by_cases hs : st = m + 1
      · rw [hs]
      · rw [List.range_succ, List.filter_append, ih (by omega) (by omega)]
        have : p m = false := by
          cases hp : p m with
          | false => rfl
          | true => have := (h m (by omega) (by omega)).1 hp; omega
        simp [this]
  have hb : (List.range (b + 1)).filter p = (List.range st).filter p ++ [b] := by
    rw [List.range_succ, List.filter_append, low b h1 (Nat.le_refl _)]
    simp [(h b h1 h2).2 rfl]
  have high : ∀ m, b + 1 ≤ m → m ≤ k → (List.range m).filter p = (List.range st).filter p ++ [b] := by
    intro m hm hk
    induction m with
    | zero => omega
    | succ m ih =>
      by_cases hs : b = m
      · rw [← hs]; exact hb
      · rw [List.range_succ, List.filter_append, ih (by omega) (by omega)]
        have : p m = false := by
          cases hp : p m with
          | false => rfl
          | true => have := (h m (by omega) (by omega)).1 hp; omega
        simp [this]
  exact high k h2 (Nat.le_refl _)

theorem close_run {k st b : Nat} (hs0 : st = 0 ∨ isN R T (st - 1) = false) (hall : ∀ j, st ≤ j → j < k → isN R T j = true) (hend : isN R T k = false) (h1 : st ≤ b) (h2 : b < k)
    (hl : ∀ j, st ≤ j → j < b → R.getD j 0 < R.getD b 0) (hr : ∀ j, b < j → j < k → R.getD j 0 ≤ R.getD b 0) :
    (List.range k).filter (bestB R T) = (List.range st).filter (bestB R T) ++ [b] := by
  refine filter_single _ st b k h1 h2 fun j hj hjk => ?_
  rw [bestB_iff]
  constructor
  · rintro ⟨h3, h4, h5⟩
    rcases Nat.lt_trichotomy j b with h | h | h
    · have := h5 b h (fun i hi hib => hall i (by omega) (by omega))
      have := hl j hj h
      omega
    · exact h
    · have := h4 b h (fun i hi hij => hall i (by omega) (by omega))
      have := hr j h hjk
      omega
  · rintro rfl
    refine ⟨hall j hj hjk, fun i hi hin => ?_, fun i hi hin => ?_⟩
    · refine hl i ?_ hi
      rcases hs0 with h0 | h0
      · omega
      · rcases Nat.lt_or_ge i st with h | h
        · have := hin (st - 1) (by omega) (by omega); rw [h0] at this; cases this
        · exact h
    · refine hr i hi ?_
      rcases Nat.lt_or_ge i k with h | h
      · exact h
      · have := hin k (by omega) h; rw [hend] at this; cases this

theorem PInv_flush {k : Nat} {s : Option Nat × List Nat} (h : PInv R T k s) (hend : isN R T k = false) : flushO s = (List.range k).filter (bestB R T) := by
  obtain ⟨st, hk, hs0, hall, ho, hb⟩ := h
  rcases hb with ⟨h1, h2⟩ | ⟨b, h1, h2, h3, h4, h5⟩
  · simp [flushO, h1, ho, h2]
  · rw [close_run R T hs0 hall hend h2 h3 h4 h5]
    simp [flushO, h1, ho]

theorem pst_inv : ∀ k, k ≤ R.length → PInv R T k (pst R T k) := by
  intro k
  induction k with
  | zero => intro _; exact ⟨0, Nat.le_refl _, .inl rfl, fun j h1 h2 => by omega, rfl, .inl ⟨rfl, rfl⟩⟩
  | succ k ih =>
    intro hk
    have hi := ih (by omega)
    unfold pst
    by_cases ht : R.getD k 0 < T
    · rw [if_pos ht]
      have hn : isN R T k = false := by simp only [isN, Bool.and_eq_false_iff, decide_eq_false_iff_not]; right; omega
      refine ⟨k + 1, Nat.le_refl _, .inr hn, fun j h1 h2 => by omega, ?_, .inl ⟨rfl, rfl⟩⟩
      rw [PInv_flush R T hi hn, List.range_succ, List.filter_append]
      have : bestB R T k = false := by simp [bestB, hn]
      simp [this]
    · rw [if_neg ht]
      have hn : isN R T k = true := isN_mk R T (by omega) (by omega)
      obtain ⟨st, h1, hs0, hall, ho, hb⟩ := hi
      have hall' : ∀ j, st ≤ j → j < k + 1 → isN R T j = true := fun j h3 h4 => by
        by_cases hjk : j = k
        · rw [hjk]; exact hn
        · exact hall j h3 (by omega)
      rcases hb with ⟨hb1, hb2⟩ | ⟨b, hb1, hb2, hb3, hb4, hb5⟩
      · rw [hb1]
        exact ⟨st, by omega, hs0, hall', ho, .inr ⟨k, rfl, by omega, by omega, fun j h3 h4 => by omega, fun j h3 h4 => by omega⟩⟩
      · rw [hb1]
        simp only
        by_cases hc : R.getD b 0 < R.getD k 0
        · rw [if_pos hc]
          refine ⟨st, by omega, hs0, hall', ho, .inr ⟨k, rfl, by omega, by omega, fun j h3 h4 => ?_, fun j h3 h4 => by omega⟩⟩
          rcases Nat.lt_trichotomy j b with h | h | h
          · have := hb4 j h3 h; omega
          · rw [h]; exact hc
          · have := hb5 j h h4; omega
        · rw [if_neg hc]
          refine ⟨st, by omega, hs0, hall', ho, .inr ⟨b, hb1, hb2, by omega, hb4, fun j h3 h4 => ?_⟩⟩
          by_cases hjk : j = k
          · rw [hjk]; omega
          · exact hb5 j h3 (by omega)

/-- **the machine finds the best of each run** -/
theorem flush_pst : flushO (pst R T R.length) = bestL R T :=
  PInv_flush R T (pst_inv R T R.length (Nat.le_refl _)) (by simp [isN])

theorem pst_lt : ∀ k b, (pst R T k).1 = some b → b < k := by
  intro k
  induction k with
  | zero => intro b h; simp [pst] at h
  | succ k ih =>
    intro b h
    unfold pst at h
    split at h
    · simp at h
    · split at h
      · simp at h; omega
      · rename_i b' hb'
        split at h
        · simp at h; omega
        · have := ih b h; omega
theorem pst_len : ∀ k, (flushO (pst R T k)).length ≤ k := by
  have key : ∀ k, (pst R T k).2.length + (if (pst R T k).1.isSome then 1 else 0) ≤ k := by
    intro k
    induction k with
    | zero => simp [pst]
    | succ k ih =>
      unfold pst
      split
      · unfold flushO; cases h : (pst R T k).1 <;> simp [h] at ih ⊢ <;> omega
      · cases h : (pst R T k).1 with
        | none => simp [h] at ih ⊢; omega
        | some b => simp only; split <;> simp [h] at ih ⊢ <;> omega
  intro k
  have := key k
  unfold flushO; cases h : (pst R T k).1 <;> simp [h] at this ⊢ <;> omega
end
end Go.Proofs.YtlifcpcfhkpejaaGreat.Hd

/- Walks: the events of a trace (package trace). -/
namespace Go.Proofs.YtlifcpcfhkpejaaGreat.Hd
set_option linter.unusedVariables false
set_option linter.unusedSimpArgs false
open Go.RowKit

theorem prs_get : ∀ (l : List (Int × Int)) (k : Nat), k < l.length → (prs l)[k * 2]? = some (.int .i64 (l.getD k (0, 0)).1) ∧ (prs l)[k * 2 + 1]? = some (.int .i64 (l.getD k (0, 0)).2)
  | [], k, h => by simp at h
  | q :: r, 0, _ => by simp [prs]
  | q :: r, k + 1, h => by
    have := prs_get r k (by simpa using h)
    have e : prs (q :: r) = .int .i64 q.1 :: .int .i64 q.2 :: prs r := rfl
    rw [e, show (k + 1) * 2 = k * 2 + 1 + 1 by omega]
    simpa using this
theorem prs_len (l : List (Int × Int)) : (prs l).length = l.length * 2 := by induction l with
  | nil => rfl
  | cons q r ih => have e : prs (q :: r) = .int .i64 q.1 :: .int .i64 q.2 :: prs r := rfl; rw [e]; simp [ih]; omega
theorem _root_.Go.Proofs.YtlifcpcfhkpejaaGreat.At.pair {w : World} {a : Option Addr} {l : List (Int × Int)} (h : At w a (prs l)) {k : Nat} (hk : k < l.length) :
    ∃ b off, a = some ⟨b, off, none⟩ ∧ w.cell? ⟨b, off + k * 2, none⟩ = some (.int .i64 (l.getD k (0, 0)).1) ∧ w.cell? ⟨b, off + k * 2 + 1, none⟩ = some (.int .i64 (l.getD k (0, 0)).2) := by
  have hl := prs_len l
  rcases h with h | ⟨b, off, ha, hc⟩
  · rw [h] at hl; simp at hl; omega
  · have h1 := hc (k * 2) (by omega)
    have h2 := hc (k * 2 + 1) (by omega)
    rw [(prs_get l k hk).1] at h1
    rw [(prs_get l k hk).2] at h2
    exact ⟨b, off, ha, h1, by rw [Nat.add_assoc]; exact h2⟩

theorem elem_event : Elem Tryz.prog 36 44 2 16 := by
  obtain ⟨i, hi, hz, h1, h2⟩ := info_parts (show (Tryz.prog.info? 44).map (fun i => (i.zero, i.size, i.bytes)) = some (some (.agg #[.int .i64 0, .int .i64 0]), 2, 16) by kernel_rfl)
  exact ⟨Tryz.underlying36, i, _, hi, hz, h1, h2, rfl, by omega⟩

/-- an event at an index, of a fraction -/
def evF (x : Int × Int) (i W : Nat) (st : Int) : Int × Int := (((i : Int) + W) * st, (2 * x.1 + x.2) / (2 * x.2))

/-- where the variables of Detected lie -/
structure DLay (W : World) (Br Ba Bb Bo base : Nat) (aF : Option Addr) : Prop where
  r : W.heap.size ≤ Br ∧ Br < base
  a : W.heap.size ≤ Ba ∧ Ba < base
  b : W.heap.size ≤ Bb ∧ Bb < base
  o : W.heap.size ≤ Bo ∧ Bo < base
  ra : Br ≠ Ba ∧ Br ≠ Bb ∧ Br ≠ Bo ∧ Ba ≠ Bb ∧ Ba ≠ Bo ∧ Bb ≠ Bo
  f : ∀ p, aF = some p → p.block < base ∧ p.block ≠ Bb ∧ p.block ≠ Bo

/-- what they hold -/
structure DSt (W : World) (Br Ba Bb Bo base : Nat) (aF : Option Addr) (cF : Nat) (F : List (Int × Int)) (st wd ls nm dn : Int) (evs : List (Int × Int)) (best : Int) (w : World) : Prop where
  r : w.heap[Br]? = some (.cells #[.int .i64 st, .int .i64 wd, .int .i64 ls, .int .i64 nm, .int .i64 dn] 32 (0, 0))
  a : w.heap[Ba]? = some (.cells #[.slice aF F.length cF] 39 (0, 0))
  b : w.heap[Bb]? = some (.cells #[.int .i64 best] 3 (0, 0))
  o : ∃ ao co, w.heap[Bo]? = some (.cells #[.slice ao evs.length co] 36 (0, 0)) ∧ w.ownsRow base 44 2 (.slice ao evs.length co) evs.length (prs evs)
  at_ : At w aF (prs F)
  g : W.grownBy w none
  sz : base ≤ w.heap.size

theorem DSt.quiet {W : World} {Br Ba Bb Bo base : Nat} {aF : Option Addr} {cF : Nat} {F : List (Int × Int)} {st wd ls nm dn : Int} {evs : List (Int × Int)} {best : Int} {w w' : World}
    (h : DSt W Br Ba Bb Bo base aF cF F st wd ls nm dn evs best w) (hg : w.grownBy w' none) : DSt W Br Ba Bb Bo base aF cF F st wd ls nm dn evs best w' := by
  obtain ⟨ao, co, h1, h2⟩ := h.o
  exact ⟨blk_apart h.r hg (by simp), blk_apart h.a hg (by simp), blk_apart h.b hg (by simp), ⟨ao, co, blk_apart h1 hg (by simp), own_kept h2 hg (by simp)⟩, h.at_.grown hg (by simp), h.g.trans hg, Nat.le_trans h.sz hg.size⟩

theorem DSt.best {W : World} {Br Ba Bb Bo base : Nat} {aF : Option Addr} {cF : Nat} {F : List (Int × Int)} {st wd ls nm dn : Int} {evs : List (Int × Int)} {best : Int} {w : World}
    (h : DSt W Br Ba Bb Bo base aF cF F st wd ls nm dn evs best w) (hl : DLay W Br Ba Bb Bo base aF) (x : Int) : DSt W Br Ba Bb Bo base aF cF F st wd ls nm dn evs x (w.setCell ⟨Bb, 0, none⟩ (.int .i64 x)) := by
  obtain ⟨ao, co, h1, h2⟩ := h.o
  obtain ⟨n1, n2, n3, n4, n5, n6⟩ := hl.ra
  have hg : w.grownBy (w.setCell ⟨Bb, 0, none⟩ (.int .i64 x)) (some Bb) := ⟨rfl, rfl, rfl, by simp, fun j _ hj => heap_setCell_other w ⟨Bb, 0, none⟩ j _ (fun e => hj (by simp [e]))⟩
  refine ⟨(hg.block _ (lt_of_block h.r) (by simpa using n2)).trans h.r, (hg.block _ (lt_of_block h.a) (by simpa using n4)).trans h.a, one_setCell h.b,
    ⟨ao, co, (hg.block _ (lt_of_block h1) (by simpa using Ne.symm n6)).trans h1, own_kept h2 hg (fun b hb => by cases hb; exact .inl hl.b.2)⟩, h.at_.grown hg (fun p hp => by simpa using (hl.f p hp).2.1), grown_setCell h.g hl.b.1 _, by simpa using h.sz⟩

/-- what the operations of flush's statement leave -/
def FT (Br Bx base : Nat) (ao : Option Addr) (co : Nat) (evs : List (Int × Int)) (b : Nat) (st wd : Int) (x : Int × Int) (B30 : Nat) (q : Int × Int) (Bo : Nat) (j : Nat) (v : Value) (w : World) : Prop :=
  match j with
  | 0 => v = .slice ao evs.length co
  | 1 => v = .int .i64 b
  | 2 => v = .pointer (some ⟨Br, 1, none⟩)
  | 3 => v = .int .i64 wd
  | 4 => v = .int .i64 ((b : Int) + wd)
  | 5 => v = .pointer (some ⟨Br, 0, none⟩)
  | 6 => v = .int .i64 st
  | 7 => v = .int .i64 (((b : Int) + wd) * st)
  | 8 => v = .pointer (some ⟨Bx, 0, none⟩)
  | 9 => v = .int .i64 x.1
  | 10 => v = .int .i64 (2 * x.1)
  | 11 | 14 => v = .pointer (some ⟨Bx, 1, none⟩)
  | 12 | 15 => v = .int .i64 x.2
  | 13 => v = .int .i64 (2 * x.1 + x.2)
  | 16 => v = .int .i64 (2 * x.2)
  | 17 => v = .int .i64 ((2 * x.1 + x.2) / (2 * x.2))
  | 18 => v = .agg #[.int .i64 q.1, .int .i64 q.2]
  | 19 => v = .slice (some ⟨B30, 0, none⟩) 1 1
  | 20 => ∃ ao' co', v = .slice ao' (evs.length + 1) co' ∧ w.ownsRow base 44 2 (.slice ao' (evs.length + 1) co') (evs.length + 1) (prs (evs ++ [q]))
  | _ => True

theorem FT_indep {Br Bx base : Nat} {ao : Option Addr} {co : Nat} {evs : List (Int × Int)} {b : Nat} {st wd : Int} {x : Int × Int} {B30 : Nat} {q : Int × Int} {Bo j : Nat} {v : Value} {w w' : World} (hj : j ≠ 20)
    (h : FT Br Bx base ao co evs b st wd x B30 q Bo j v w) : FT Br Bx base ao co evs b st wd x B30 q Bo j v w' := by
  unfold FT at *
  split at h <;> first | exact h | (exfalso; exact hj rfl) | trivial

/-- the world while it runs -/
def FI (w1 : World) (q : Int × Int) (ao : Option Addr) (Bo base n : Nat) (evs : List (Int × Int)) (D : Nat → Bool) (w : World) : Prop :=
  (D 19 = false → ∃ m, w = w1.drewN m) ∧ (D 19 = true → D 20 = false → ∃ m, w = (w1.alloc (.cells #[.int .i64 q.1, .int .i64 q.2] 44)).drewN m) ∧ (D 20 = true → D 21 = false → w1.grownBy w (blk ao)) ∧
  (D 21 = true → ∃ w20 ao' co', w = w20.setCell ⟨Bo, 0, none⟩ (.slice ao' (n + 1) co') ∧ w20.ownsRow base 44 2 (.slice ao' (n + 1) co') (n + 1) (prs (evs ++ [q])) ∧ w1.grownBy w20 (blk ao))

theorem FI_heap {w1 : World} {q : Int × Int} {ao : Option Addr} {Bo base n : Nat} {evs : List (Int × Int)} {D : Nat → Bool} {w : World} (h : FI w1 q ao Bo base n evs D w) (h21 : D 21 = false) {k : Nat} {o : Obj} (hk : w1.heap[k]? = some o) (hne : blk ao ≠ some k) : w.heap[k]? = some o := by
  by_cases h19 : D 19 = true
  · by_cases h20 : D 20 = true
    · exact ((h.2.2.1 h20 h21).block k (lt_of_block hk) (fun e => hne e.symm)).trans hk
    · obtain ⟨m, rfl⟩ := h.2.1 h19 (by simpa using h20)
      exact (heap_alloc_old w1 _ (lt_of_block hk)).trans hk
  · obtain ⟨m, rfl⟩ := h.1 (by simpa using h19)
    exact hk

theorem FI_heap' {w1 w : World} {ao : Option Addr} (hg : w1.grownBy w (blk ao)) {k : Nat} {o : Obj} (hk : w1.heap[k]? = some o) (hne : blk ao ≠ some k) : w.heap[k]? = some o :=
  (hg.block k (lt_of_block hk) (fun e => hne e.symm)).trans hk

theorem FI_step {w1 : World} {q : Int × Int} {ao : Option Addr} {Bo base n : Nat} {evs : List (Int × Int)} {D : Nat → Bool} {w : World} (j : Nat) (h1 : j ≠ 19) (h2 : j ≠ 20) (h3 : j ≠ 21) (h : FI w1 q ao Bo base n evs D w) : FI w1 q ao Bo base n evs (fun i => i == j || D i) w := by
  have e19 : (fun i => i == j || D i) 19 = D 19 := by simp; omega
  have e20 : (fun i => i == j || D i) 20 = D 20 := by simp; omega
  have e21 : (fun i => i == j || D i) 21 = D 21 := by simp; omega
  unfold FI at *
  rw [e19, e20, e21]; exact h

set_option maxRecDepth 100000 in
set_option maxHeartbeats 2000000 in
theorem flush_pos {W : World} {Br Ba Bb Bo base : Nat} {aF : Option Addr} {cF : Nat} {F : List (Int × Int)} {st wd ls nm dn : Int} {evs : List (Int × Int)} (b : Nat) (w : World) (hl : DLay W Br Ba Bb Bo base aF)
    (h : DSt W Br Ba Bb Bo base aF cF F st wd ls nm dn evs b w) (hb : b < F.length) (hF : F.length ≤ 5001) (hx : -2100000000 ≤ (F.getD b (0, 0)).1 ∧ (F.getD b (0, 0)).1 ≤ 2100000000 ∧ 1 ≤ (F.getD b (0, 0)).2 ∧ (F.getD b (0, 0)).2 ≤ 100000)
    (hst : 1 ≤ st ∧ st ≤ 100) (hwd : 1 ≤ wd ∧ wd ≤ 100) (hev : evs.length ≤ 5001) :
    Calls Tryz.prog 37 #[.pointer (some ⟨Bb, 0, none⟩), .pointer (some ⟨Ba, 0, none⟩), .pointer (some ⟨Bo, 0, none⟩), .pointer (some ⟨Br, 0, none⟩)] w fun e w' => e = .returned (.tuple #[]) ∧
      DSt W Br Ba Bb Bo base aF cF F st wd ls nm dn (evs ++ [evF (F.getD b (0, 0)) b wd.toNat st]) (-1) w' := by
  obtain ⟨ao, co, ho0, hown⟩ := h.o
  obtain ⟨bF, oF, rfl, hp1, hp2⟩ := h.at_.pair hb
  have HD := Lib.hid h
  have HEV : Hid (evF (F.getD b (0, 0)) b wd.toNat st = (((b : Int) + wd) * st, (2 * (F.getD b (0, 0)).1 + (F.getD b (0, 0)).2) / (2 * (F.getD b (0, 0)).2))) := by show _ = _; unfold evF; rw [Int.toNat_of_nonneg (by omega)]
  generalize F.getD b (0, 0) = x at *
  obtain ⟨q, HQ⟩ : ∃ q, Hid (evF x b wd.toNat st = q) := ⟨_, rfl⟩
  rw [HQ.out] at HEV
  rw [HQ.out]
  have hq1 : Hid (((b : Int) + wd) * st = q.1) := by show _ = _; rw [HEV.out]
  have hq2 : Hid ((2 * x.1 + x.2) / (2 * x.2) = q.2) := by show _ = _; rw [HEV.out]
  have hm := mul_bd ((b : Int) + wd) st 5200 100 (by omega) (by omega) (by omega)
  have hcb := cells1 h.b
  have hca := cells1 h.a
  have hfb := free1 h.b
  have hsz := h.sz
  have hbB := hl.b.2
  have hn : ∀ k, blk ao = some k → base ≤ k := fun k hk => (own_blk hown k hk).1
  clear HEV
  obtain ⟨w1, hw1⟩ : ∃ w1, w1 = w.alloc (.cells #[.int .i64 x.1, .int .i64 x.2] 30) := ⟨_, rfl⟩
  have ho1 : w1.heap[Bo]? = some (.cells #[.slice ao evs.length co] 36 (0, 0)) := by rw [hw1]; exact (heap_alloc_old w _ (lt_of_block ho0)).trans ho0
  have hb1 : w1.heap[Bb]? = some (.cells #[.int .i64 b] 3 (0, 0)) := by rw [hw1]; exact (heap_alloc_old w _ (lt_of_block h.b)).trans h.b
  have hr1 : w1.heap[Br]? = some (.cells #[.int .i64 st, .int .i64 wd, .int .i64 ls, .int .i64 nm, .int .i64 dn] 32 (0, 0)) := by rw [hw1]; exact (heap_alloc_old w _ (lt_of_block h.r)).trans h.r
  have hx1 : w1.heap[w.heap.size]? = some (.cells #[.int .i64 x.1, .int .i64 x.2] 30 (0, 0)) := by rw [hw1]; exact heap_alloc_new w _
  have hbn : ∀ k, k < base → blk ao ≠ some k := fun k hk e => by have := hn k e; omega
  have hbn' : blk ao ≠ some w.heap.size := fun e => by have := (own_blk hown _ e).2; omega
  have hown1 : w1.ownsRow base 44 2 (.slice ao evs.length co) evs.length (prs evs) := by rw [hw1]; exact hown.alloc _
  have HW := Lib.hid hw1
  clear hw1 h ho0 hown
  have HH : Hid ((∀ k, k < base → blk ao ≠ some k) ∧ (blk ao ≠ some w.heap.size) ∧ (∀ k, blk ao = some k → base ≤ k) ∧ w1.heap[Bo]? = some (.cells #[.slice ao evs.length co] 36 (0, 0)) ∧ w1.heap[Bb]? = some (.cells #[.int .i64 b] 3 (0, 0)) ∧ w1.heap[Br]? = some (.cells #[.int .i64 st, .int .i64 wd, .int .i64 ls, .int .i64 nm, .int .i64 dn] 32 (0, 0)) ∧ w1.heap[w.heap.size]? = some (.cells #[.int .i64 x.1, .int .i64 x.2] 30 (0, 0))) := ⟨hbn, hbn', hn, ho1, hb1, hr1, hx1⟩
  clear hbn hbn' hn ho1 hb1 hr1 hx1
  go_enter Tryz.func37, Tryz.ntmps37
  go_wp2_with fail
  rw [← HW.out]
  obtain ⟨hbn, hbn', hn, ho1, hb1, hr1, hx1⟩ := HH.out
  refine wp_region_typed2 (by kernel_rfl) (FT Br w.heap.size base ao co evs b st wd x w1.heap.size q Bo) (FI w1 q ao Bo base evs.length evs) (by kernel_rfl) (by kernel_rfl) ?_ ?_ ?_
  · exact ⟨fun _ => ⟨1, rfl⟩, fun h => by simp at h, fun h => by simp at h, fun h => by simp at h⟩
  · intro j o D a w' hoj hnD hd hcl hf hI
    have hj : j < 22 := (Array.getElem?_eq_some_iff.1 hoj).1
    obtain rfl | rfl | rfl | rfl | rfl | rfl | rfl | rfl | rfl | rfl | rfl | rfl | rfl | rfl | rfl | rfl | rfl | rfl | rfl | rfl | rfl | rfl : j = 0 ∨ j = 1 ∨ j = 2 ∨ j = 3 ∨ j = 4 ∨ j = 5 ∨ j = 6 ∨ j = 7 ∨ j = 8 ∨ j = 9 ∨ j = 10 ∨ j = 11 ∨ j = 12 ∨ j = 13 ∨ j = 14 ∨ j = 15 ∨ j = 16 ∨ j = 17 ∨ j = 18 ∨ j = 19 ∨ j = 20 ∨ j = 21 := by omega
    all_goals (obtain rfl := Option.some.inj hoj; rw [if_pos (wanted_plain rfl _)])
    · have h21 : D 21 = false := by
        cases h : D 21 with
        | false => rfl
        | true => have := hcl 21 _ rfl h ⟨0, .phase⟩ (by simp) rfl; rw [this] at hnD; cases hnD
      have h2 := hf.var 2 (by kernel_rfl)
      simp at h2
      have hc := cells1 (FI_heap hI h21 ho1 (hbn _ hl.o.2))
      exact wp_value (v := .slice ao evs.length co) (by simp [execOp, go_sem, h2, hc]) ⟨_, rfl, rfl, fun _ _ _ h => h, FI_step 0 (by omega) (by omega) (by omega) hI⟩
    · have h21 : D 21 = false := by
        cases h : D 21 with
        | false => rfl
        | true => have := hcl 21 _ rfl h ⟨1, .phase⟩ (by simp) rfl; rw [this] at hnD; cases hnD
      have h0 := hf.var 0 (by kernel_rfl)
      simp at h0
      have hc := cells1 (FI_heap hI h21 hb1 (hbn _ hl.b.2))
      exact wp_value (v := .int .i64 b) (by simp [execOp, go_sem, h0, hc]) ⟨_, rfl, rfl, fun _ _ _ h => h, FI_step 1 (by omega) (by omega) (by omega) hI⟩
    · have h3 := hf.var 3 (by kernel_rfl)
      simp at h3
      exact wp_value (v := .pointer (some ⟨Br, 1, none⟩)) (by simp [execOp, go_sem, h3]) ⟨_, rfl, rfl, fun _ _ _ h => h, FI_step 2 (by omega) (by omega) (by omega) hI⟩
    · have h21 : D 21 = false := by
        cases h : D 21 with
        | false => rfl
        | true => have := hcl 21 _ rfl h ⟨3, .phase⟩ (by simp) rfl; rw [this] at hnD; cases hnD
      have h13 : a.tmps[13]?.getD undef = _ := hf.got 2 13 rfl (hd ⟨2, .data⟩ (by simp) rfl)
      have hc := (cells5 (FI_heap hI h21 hr1 (hbn _ hl.r.2))).2.1
      exact wp_value (v := .int .i64 wd) (by simp [execOp, go_sem, h13, hc]) ⟨_, rfl, rfl, fun _ _ _ h => h, FI_step 3 (by omega) (by omega) (by omega) hI⟩
    · have h12 : a.tmps[12]?.getD undef = _ := hf.got 1 12 rfl (hd ⟨1, .data⟩ (by simp) rfl)
      have h14 : a.tmps[14]?.getD undef = _ := hf.got 3 14 rfl (hd ⟨3, .data⟩ (by simp) rfl)
      exact wp_value (v := .int .i64 ((b : Int) + wd)) (by simp [execOp, go_sem, h12, h14]; exact IntWalk.i64_in _ ⟨by omega, by omega⟩) ⟨_, rfl, rfl, fun _ _ _ h => h, FI_step 4 (by omega) (by omega) (by omega) hI⟩
    · have h3 := hf.var 3 (by kernel_rfl)
      simp at h3
      exact wp_value (v := .pointer (some ⟨Br, 0, none⟩)) (by simp [execOp, go_sem, h3]) ⟨_, rfl, rfl, fun _ _ _ h => h, FI_step 5 (by omega) (by omega) (by omega) hI⟩
    · have h21 : D 21 = false := by
        cases h : D 21 with
        | false => rfl
        | true => have := hcl 21 _ rfl h ⟨6, .phase⟩ (by simp) rfl; rw [this] at hnD; cases hnD
      have h16 : a.tmps[16]?.getD undef = _ := hf.got 5 16 rfl (hd ⟨5, .data⟩ (by simp) rfl)
      have hc := (cells5 (FI_heap hI h21 hr1 (hbn _ hl.r.2))).1
      exact wp_value (v := .int .i64 st) (by simp [execOp, go_sem, h16, hc]) ⟨_, rfl, rfl, fun _ _ _ h => h, FI_step 6 (by omega) (by omega) (by omega) hI⟩
    · have h15 : a.tmps[15]?.getD undef = _ := hf.got 4 15 rfl (hd ⟨4, .data⟩ (by simp) rfl)
      have h17 : a.tmps[17]?.getD undef = _ := hf.got 6 17 rfl (hd ⟨6, .data⟩ (by simp) rfl)
      exact wp_value (v := .int .i64 (((b : Int) + wd) * st)) (by simp [execOp, go_sem, h15, h17]; exact IntWalk.i64_in _ ⟨by omega, by omega⟩) ⟨_, rfl, rfl, fun _ _ _ h => h, FI_step 7 (by omega) (by omega) (by omega) hI⟩
    · have h4 := hf.var 4 (by kernel_rfl)
      simp at h4
      exact wp_value (v := .pointer (some ⟨w.heap.size, 0, none⟩)) (by simp [execOp, go_sem, h4]) ⟨_, rfl, rfl, fun _ _ _ h => h, FI_step 8 (by omega) (by omega) (by omega) hI⟩
    · have h21 : D 21 = false := by
        cases h : D 21 with
        | false => rfl
        | true => have := hcl 21 _ rfl h ⟨9, .phase⟩ (by simp) rfl; rw [this] at hnD; cases hnD
      have h19 : a.tmps[19]?.getD undef = _ := hf.got 8 19 rfl (hd ⟨8, .data⟩ (by simp) rfl)
      have hc := (cells2 (FI_heap hI h21 hx1 hbn')).1
      exact wp_value (v := .int .i64 x.1) (by simp [execOp, go_sem, h19, hc]) ⟨_, rfl, rfl, fun _ _ _ h => h, FI_step 9 (by omega) (by omega) (by omega) hI⟩
    · have h20 : a.tmps[20]?.getD undef = _ := hf.got 9 20 rfl (hd ⟨9, .data⟩ (by simp) rfl)
      exact wp_value (v := .int .i64 (2 * x.1)) (by simp [execOp, go_sem, h20]; exact IntWalk.i64_in _ ⟨by omega, by omega⟩) ⟨_, rfl, rfl, fun _ _ _ h => h, FI_step 10 (by omega) (by omega) (by omega) hI⟩
    · have h4 := hf.var 4 (by kernel_rfl)
      simp at h4
      exact wp_value (v := .pointer (some ⟨w.heap.size, 1, none⟩)) (by simp [execOp, go_sem, h4]) ⟨_, rfl, rfl, fun _ _ _ h => h, FI_step 11 (by omega) (by omega) (by omega) hI⟩
    · have h21 : D 21 = false := by
        cases h : D 21 with
        | false => rfl
        | true => have := hcl 21 _ rfl h ⟨12, .phase⟩ (by simp) rfl; rw [this] at hnD; cases hnD
      have h22 : a.tmps[22]?.getD undef = _ := hf.got 11 22 rfl (hd ⟨11, .data⟩ (by simp) rfl)
      have hc := (cells2 (FI_heap hI h21 hx1 hbn')).2
      exact wp_value (v := .int .i64 x.2) (by simp [execOp, go_sem, h22, hc]) ⟨_, rfl, rfl, fun _ _ _ h => h, FI_step 12 (by omega) (by omega) (by omega) hI⟩
    · have h21 : a.tmps[21]?.getD undef = _ := hf.got 10 21 rfl (hd ⟨10, .data⟩ (by simp) rfl)
      have h23 : a.tmps[23]?.getD undef = _ := hf.got 12 23 rfl (hd ⟨12, .data⟩ (by simp) rfl)
      exact wp_value (v := .int .i64 (2 * x.1 + x.2)) (by simp [execOp, go_sem, h21, h23]; exact IntWalk.i64_in _ ⟨by omega, by omega⟩) ⟨_, rfl, rfl, fun _ _ _ h => h, FI_step 13 (by omega) (by omega) (by omega) hI⟩
    · have h4 := hf.var 4 (by kernel_rfl)
      simp at h4
      exact wp_value (v := .pointer (some ⟨w.heap.size, 1, none⟩)) (by simp [execOp, go_sem, h4]) ⟨_, rfl, rfl, fun _ _ _ h => h, FI_step 14 (by omega) (by omega) (by omega) hI⟩
    · have h21 : D 21 = false := by
        cases h : D 21 with
        | false => rfl
        | true => have := hcl 21 _ rfl h ⟨15, .phase⟩ (by simp) rfl; rw [this] at hnD; cases hnD
      have h25 : a.tmps[25]?.getD undef = _ := hf.got 14 25 rfl (hd ⟨14, .data⟩ (by simp) rfl)
      have hc := (cells2 (FI_heap hI h21 hx1 hbn')).2
      exact wp_value (v := .int .i64 x.2) (by simp [execOp, go_sem, h25, hc]) ⟨_, rfl, rfl, fun _ _ _ h => h, FI_step 15 (by omega) (by omega) (by omega) hI⟩
    · have h26 : a.tmps[26]?.getD undef = _ := hf.got 15 26 rfl (hd ⟨15, .data⟩ (by simp) rfl)
      exact wp_value (v := .int .i64 (2 * x.2)) (by simp [execOp, go_sem, h26]; exact IntWalk.i64_in _ ⟨by omega, by omega⟩) ⟨_, rfl, rfl, fun _ _ _ h => h, FI_step 16 (by omega) (by omega) (by omega) hI⟩
    · have h24 : a.tmps[24]?.getD undef = _ := hf.got 13 24 rfl (hd ⟨13, .data⟩ (by simp) rfl)
      have h27 : a.tmps[27]?.getD undef = _ := hf.got 16 27 rfl (hd ⟨16, .data⟩ (by simp) rfl)
      refine wp_call _ _ _ _ rfl Tryz.func38 (by kernel_rfl) (by kernel_rfl) _ (by simp [eval_tmp, h24, h27]) (down_any (2 * x.1 + x.2) (2 * x.2) w' (by omega) (by omega) (by omega) (by omega)) ?_
      rintro e w'' ⟨rfl, rfl⟩
      exact ⟨_, rfl, _, rfl, rfl, fun _ _ _ h => h, FI_step 17 (by omega) (by omega) (by omega) hI⟩
    · have h18 : a.tmps[18]?.getD undef = _ := hf.got 7 18 rfl (hd ⟨7, .data⟩ (by simp) rfl)
      have h28 : a.tmps[28]?.getD undef = _ := hf.got 17 28 rfl (hd ⟨17, .data⟩ (by simp) rfl)
      exact wp_value (v := .agg #[.int .i64 q.1, .int .i64 q.2]) (by simp [execOp, go_sem, h18, h28, hq1.out, hq2.out]) ⟨_, rfl, rfl, fun _ _ _ h => h, FI_step 18 (by omega) (by omega) (by omega) hI⟩
    · have h29 : a.tmps[29]?.getD undef = _ := hf.got 18 29 rfl (hd ⟨18, .data⟩ (by simp) rfl)
      obtain ⟨m, rfl⟩ := hI.1 hnD
      have h20 : D 20 = false := by
        cases h : D 20 with
        | false => rfl
        | true => have := hcl 20 _ rfl h ⟨19, .data⟩ (by simp) rfl; rw [this] at hnD; cases hnD
      have h21 : D 21 = false := by
        cases h : D 21 with
        | false => rfl
        | true => have := hcl 21 _ rfl h ⟨19, .phase⟩ (by simp) rfl; rw [this] at hnD; cases hnD
      exact wp_value (v := .slice (some ⟨w1.heap.size, 0, none⟩) 1 1) (w' := (w1.alloc (.cells #[.int .i64 q.1, .int .i64 q.2] 44)).drewN m) (by simp [execOp, go_sem, h29]; rfl) ⟨_, rfl, rfl, fun i u hi h => FT_indep (fun e => by rw [e, h20] at hi; cases hi) h, ⟨fun h => by simp at h, fun _ _ => ⟨m, rfl⟩, fun h => by simp [h20] at h, fun h => by simp [h21] at h⟩⟩
    · have h11 : a.tmps[11]?.getD undef = _ := hf.got 0 11 rfl (hd ⟨0, .data⟩ (by simp) rfl)
      have h30 : a.tmps[30]?.getD undef = _ := hf.got 19 30 rfl (hd ⟨19, .data⟩ (by simp) rfl)
      have h21 : D 21 = false := by
        cases h : D 21 with
        | false => rfl
        | true => have := hcl 21 _ rfl h ⟨20, .phase⟩ (by simp) rfl; rw [this] at hnD; cases hnD
      obtain ⟨m, rfl⟩ := hI.2.1 (hd ⟨19, .data⟩ (by simp) rfl) hnD
      have hbb := heap_alloc_new w1 (.cells #[.int .i64 q.1, .int .i64 q.2] 44)
      refine wp_push_at _ _ _ rfl base _ _ _ _ elem_event ao evs.length co _ (own_drewN (hown1.alloc _) m) w1.heap.size 1 1 (0, 0) [.int .i64 q.1, .int .i64 q.2] hbb (by simp [eval_tmp, h11]) (by simp [eval_tmp, h30]) rfl (by simp [Value.oneCell']) (by omega) (by unfold maxLen; omega) ?_ ?_
      · have := lt_of_block hx1; simp; omega
      · intro a' c' w' h1 h2 _
        refine ⟨_, rfl, ⟨a', c', rfl, by rw [prs_snoc]; exact h1⟩, fun i u hi h => FT_indep (fun e => by rw [e, hnD] at hi; cases hi) h, fun h => ?_, fun h1 h2 => ?_, fun _ _ => ?_, fun h => by simp [h21] at h⟩
        · have h19 : D 19 = true := hd ⟨19, .data⟩ (by simp) rfl
          simp [h19] at h
        · simp at h2
        · exact (World.grownBy_alloc w1 _ (blk ao)).trans (show (w1.alloc (.cells #[.int .i64 q.1, .int .i64 q.2] 44)).grownBy w' (blk ao) from ⟨h2.os, h2.tape, h2.output, h2.size, h2.block⟩)
    · have h2 := hf.var 2 (by kernel_rfl)
      simp at h2
      obtain ⟨ao', co', h31, hown'⟩ := hf.got 20 31 rfl (hd ⟨20, .data⟩ (by simp) rfl)
      have hho := FI_heap hI hnD ho1 (hbn _ hl.o.2)
      have hc := cells1 hho
      have hfz := free1 hho
      have hg := hI.2.2.1 (hd ⟨20, .data⟩ (by simp) rfl) hnD
      have hgs : w'.grownBy (w'.setCell ⟨Bo, 0, none⟩ (.slice ao' (evs.length + 1) co')) (some Bo) := ⟨rfl, rfl, rfl, by simp, fun j _ hj => heap_setCell_other w' ⟨Bo, 0, none⟩ j _ (fun e => hj (by simp [e]))⟩
      refine wp_skip (w' := w'.setCell ⟨Bo, 0, none⟩ (.slice ao' (evs.length + 1) co')) (by simp [execOp, go_sem, h2, h31, hc, hfz]) ⟨undef, rfl, trivial, fun i u hi h => ?_, fun h => ?_, fun _ h => ?_, fun _ h => by simp at h, fun _ => ⟨w', ao', co', rfl, hown', hg⟩⟩
      · by_cases hi20 : i = 20
        · subst hi20
          obtain ⟨a'', c'', hv, ho''⟩ := h
          exact ⟨a'', c'', hv, own_kept ho'' hgs (fun b hb => by cases hb; exact .inl hl.o.2)⟩
        · exact FT_indep hi20 h
      · have h19 : D 19 = true := hd ⟨19, .phase⟩ (by simp) rfl
        simp [h19] at h
      · have h20 : D 20 = true := hd ⟨20, .data⟩ (by simp) rfl
        simp [h20] at h
  · intro a w' hf hI
    obtain ⟨w20, ao', co', rfl, hown', hg⟩ := hI.2.2.2 (by simp)
    have hDS : DSt W Br Ba Bb Bo base (some ⟨bF, oF, none⟩) cF F st wd ls nm dn (evs ++ [q]) b (w20.setCell ⟨Bo, 0, none⟩ (.slice ao' (evs.length + 1) co')) := by
      have h0 := HD.out
      obtain ⟨n1, n2, n3, n4, n5, n6⟩ := hl.ra
      have hgw : w.grownBy w20 (blk ao) := by
        have : w.grownBy w1 (blk ao) := by rw [HW.out]; exact World.grownBy_alloc w _ _
        exact this.trans hg
      have hk : ∀ (k : Nat) (o : Obj), w.heap[k]? = some o → k < base → k ≠ Bo → (w20.setCell ⟨Bo, 0, none⟩ (.slice ao' (evs.length + 1) co')).heap[k]? = some o := fun k o h1 h2 h3 =>
        blk_other ((hgw.block k (lt_of_block h1) (fun e => hbn k h2 e.symm)).trans h1) h3 _
      have hgs : w20.grownBy (w20.setCell ⟨Bo, 0, none⟩ (.slice ao' (evs.length + 1) co')) (some Bo) := ⟨rfl, rfl, rfl, by simp, fun j _ hj => heap_setCell_other w20 ⟨Bo, 0, none⟩ j _ (fun e => hj (by simp [e]))⟩
      refine ⟨hk _ _ h0.r hl.r.2 n3, hk _ _ h0.a hl.a.2 n5, hk _ _ h0.b hl.b.2 n6, ⟨ao', co', ?_, ?_⟩, ?_, ?_, ?_⟩
      · rw [List.length_append, List.length_singleton]
        exact one_setCell (FI_heap' hg ho1 (hbn _ hl.o.2))
      · rw [List.length_append, List.length_singleton]; exact own_kept hown' hgs (fun b hb => by cases hb; exact .inl hl.o.2)
      · have h1 := h0.at_.grown hgw (fun p hp e => by have := (hl.f p hp).1; exact hbn _ this e.symm)
        exact h1.grown hgs (fun p hp => by simpa using (hl.f p hp).2.2)
      · exact grown_setCell (grown_own h0.g hgw (fun k hk => by have := hn k hk; have := hl.b; omega)) hl.o.1 _
      · have := h0.sz; have := hgw.size; simp; omega
    obtain ⟨f, rfl, hfo, hfn⟩ := hf.frame 32 rfl rfl
    have e0 : f 0 = _ := hfo 0 (by kernel_rfl)
    have e3 : f 3 = _ := hfo 3 (by kernel_rfl)
    simp at e0 e3
    rw [show (List.range 32).map f = [f 0, f 1, f 2, f 3, f 4, f 5, f 6, f 7, f 8, f 9, f 10, f 11, f 12, f 13, f 14, f 15, f 16, f 17, f 18, f 19, f 20, f 21, f 22, f 23, f 24, f 25, f 26, f 27, f 28, f 29, f 30, f 31] from rfl]
    rw [e0, e3]
    clear hfo hf e0 e3
    clear hfn hI
    have hcb' := cells1 hDS.b
    have hfb' := free1 hDS.b
    have HDS := Lib.hid (hDS.best hl (-1))
    clear hDS hbn hbn' hn ho1 hb1 hr1 hx1 hown1 hown' hg hcb hca hfb hp1 hp2
    go_wp2_with fail
    go_end0
    exact ⟨rfl, HDS.out⟩

set_option maxHeartbeats 800000 in
theorem flush_neg {W : World} {Br Ba Bb Bo base : Nat} {aF : Option Addr} {cF : Nat} {F : List (Int × Int)} {st wd ls nm dn : Int} {evs : List (Int × Int)} (w : World) (hl : DLay W Br Ba Bb Bo base aF)
    (h : DSt W Br Ba Bb Bo base aF cF F st wd ls nm dn evs (-1) w) :
    Calls Tryz.prog 37 #[.pointer (some ⟨Bb, 0, none⟩), .pointer (some ⟨Ba, 0, none⟩), .pointer (some ⟨Bo, 0, none⟩), .pointer (some ⟨Br, 0, none⟩)] w fun e w' => e = .returned (.tuple #[]) ∧
      DSt W Br Ba Bb Bo base aF cF F st wd ls nm dn evs (-1) w' := by
  have hcb := cells1 h.b
  have hfb := free1 h.b
  have HD := Lib.hid (h.best hl (-1))
  clear h
  go_enter Tryz.func37, Tryz.ntmps37
  go_wp2_with fail
  go_end0
  exact ⟨rfl, HD.out⟩
end Go.Proofs.YtlifcpcfhkpejaaGreat.Hd

/- Plain facts on fractions in lowest terms; and the walk of Detected. -/
namespace Go.Proofs.YtlifcpcfhkpejaaGreat.Hd
set_option linter.unusedVariables false
set_option linter.unusedSimpArgs false
open Go.RowKit

theorem low_spec (x : Int) (u : Nat) (hu : 1 ≤ u) : ∃ g : Nat, 1 ≤ g ∧ x = g * (low x u).1 ∧ (u : Int) = g * (low x u).2 ∧ 1 ≤ (low x u).2 := by
  have hg0 : (Nat.gcd x.natAbs u : Int) ∣ x := Int.ofNat_dvd_left.2 (Nat.gcd_dvd_left _ _)
  have hg1 : (Nat.gcd x.natAbs u : Int) ∣ (u : Int) := Int.natCast_dvd_natCast.2 (Nat.gcd_dvd_right _ _)
  exact ⟨Nat.gcd x.natAbs u, gcd_pos _ _ hu, (Int.mul_ediv_cancel' hg0).symm, (Int.mul_ediv_cancel' hg1).symm, (low_bd x u hu).2.1⟩
theorem low_lt (x ls : Int) (u : Nat) (hu : 1 ≤ u) : (low x u).1 < ls * (low x u).2 ↔ x < ls * u := by
  obtain ⟨g, hg, h1, h2, _⟩ := low_spec x u hu
  have e : ls * (u : Int) = g * (ls * (low x u).2) := by rw [h2, Int.mul_left_comm]
  have e' : x < ls * u ↔ (g : Int) * (low x u).1 < g * (ls * (low x u).2) := by rw [← h1, ← e]
  rw [e']
  exact (Int.mul_lt_mul_left (by omega)).symm
theorem low_cmp (x y : Int) (u : Nat) (hu : 1 ≤ u) : (low y u).1 * (low x u).2 < (low x u).1 * (low y u).2 ↔ y < x := by
  obtain ⟨g, hg, h1, h2, h3⟩ := low_spec x u hu
  obtain ⟨k, hk, k1, k2, k3⟩ := low_spec y u hu
  have hu' : (0 : Int) < u := by omega
  have e1 : y * (u : Int) = ((k : Int) * g) * ((low y u).1 * (low x u).2) := by
    calc y * (u : Int) = (k * (low y u).1) * (g * (low x u).2) := by rw [← k1, ← h2]
      _ = _ := by simp only [Int.mul_assoc, Int.mul_comm, Int.mul_left_comm]
  have e2 : x * (u : Int) = ((k : Int) * g) * ((low x u).1 * (low y u).2) := by
    calc x * (u : Int) = (g * (low x u).1) * (k * (low y u).2) := by rw [← h1, ← k2]
      _ = _ := by simp only [Int.mul_assoc, Int.mul_comm, Int.mul_left_comm]
  have hkg : (0 : Int) < (k : Int) * g := Int.mul_pos (by omega) (by omega)
  have e3 : y < x ↔ y * (u : Int) < x * u := (Int.mul_lt_mul_right hu').symm
  rw [e3, e1, e2]
  exact (Int.mul_lt_mul_left hkg).symm
theorem low_round (x : Int) (u : Nat) (hu : 1 ≤ u) : (2 * (low x u).1 + (low x u).2) / (2 * (low x u).2) = (2 * x + u) / (2 * u) := by
  obtain ⟨g, hg, h1, h2, h3⟩ := low_spec x u hu
  have e1 : 2 * x + (u : Int) = g * (2 * (low x u).1 + (low x u).2) := by
    rw [Int.mul_add, ← h2, Int.mul_left_comm, ← h1]
  have e2 : 2 * (u : Int) = g * (2 * (low x u).2) := by rw [Int.mul_left_comm, ← h2]
  rw [e1, e2, Int.mul_ediv_mul_of_pos _ _ (by omega)]
theorem cmp3_pos (x y : Int) : 0 < cmp3 x y ↔ y < x := by unfold cmp3; (repeat' split) <;> omega

theorem compareI_any (a c b d : Int) (w : World) (ha : -9223372036854775807 ≤ a ∧ a ≤ 9223372036854775807) (hc : -9223372036854775807 ≤ c ∧ c ≤ 9223372036854775807) (hb : 1 ≤ b ∧ b ≤ 9223372036854775807) (hd : 1 ≤ d ∧ d ≤ 9223372036854775807) :
    Calls Tryz.prog 39 #[.agg #[.int .i64 a, .int .i64 b], .agg #[.int .i64 c, .int .i64 d]] w fun e w' => e = .returned (.int .i64 (cmp3 (a * d) (c * b))) ∧ w.grownBy w' none := by
  obtain ⟨B, rfl⟩ := Int.eq_ofNat_of_zero_le (show 0 ≤ b by omega)
  obtain ⟨D, rfl⟩ := Int.eq_ofNat_of_zero_le (show 0 ≤ d by omega)
  exact compare_any a c B D w ha hc (by omega) (by omega)

/-- an event at an index, of a raw excess -/
def evR (R : List Int) (W D : Nat) (st : Int) (i : Nat) : Int × Int := (((i : Int) + W) * st, (2 * R.getD i 0 + (W * D : Nat)) / (2 * (W * D : Nat)))
def evsOf (p : List Int) (W D : Nat) (nm ls st : Int) : List (Int × Int) := (bestL (exR p W D nm) (ls * (W * D : Nat))).map (evR (exR p W D nm) W D st)
theorem exL_get (p : List Int) (W D : Nat) (nm : Int) (k : Nat) (h : k < exc p W) : (exL p W D nm).getD k (0, 0) = low ((exR p W D nm).getD k 0) (W * D) := by simp [exL, exR, exf, h]
theorem evF_evR (p : List Int) (W D : Nat) (nm st : Int) (k : Nat) (h : k < exc p W) (hu : 1 ≤ W * D) : evF ((exL p W D nm).getD k (0, 0)) k W st = evR (exR p W D nm) W D st k := by
  rw [exL_get p W D nm k h]; unfold evF evR; rw [low_round _ _ hu]

/-- the machine's state, as the variables hold it -/
def bestV (s : Option Nat × List Nat) : Int := match s.1 with | none => -1 | some b => b
def DRel (W : World) (Br Ba Bb Bo base : Nat) (aF : Option Addr) (cF : Nat) (p : List Int) (Wd D : Nat) (st ls nm : Int) (v25 : Value) (wr : World) : Prop :=
  ∃ k : Nat, k ≤ exc p Wd ∧ v25 = .int .i64 k ∧ DSt W Br Ba Bb Bo base aF cF (exL p Wd D nm) st Wd ls nm D ((pst (exR p Wd D nm) (ls * (Wd * D : Nat)) k).2.map (evR (exR p Wd D nm) Wd D st)) (bestV (pst (exR p Wd D nm) (ls * (Wd * D : Nat)) k)) wr

theorem exL_bd (p : List Int) (W D : Nat) (nm : Int) (ho : p.all okR = true) (hW : 1 ≤ W ∧ W ≤ 100) (hD : 1 ≤ D ∧ D ≤ 1000) (hnm : 0 ≤ nm ∧ nm ≤ 10000) (b : Nat) (hb : b < exc p W) :
    -2100000000 ≤ ((exL p W D nm).getD b (0, 0)).1 ∧ ((exL p W D nm).getD b (0, 0)).1 ≤ 2100000000 ∧ 1 ≤ ((exL p W D nm).getD b (0, 0)).2 ∧ ((exL p W D nm).getD b (0, 0)).2 ≤ 100000 := by
  have hu : 1 ≤ W * D := Nat.mul_pos hW.1 hD.1
  have hu2 : W * D ≤ 100000 := Nat.mul_le_mul hW.2 hD.2
  rw [exL_get p W D nm b hb]
  have h1 := low_bd ((exR p W D nm).getD b 0) (W * D) hu
  have h2 : (exR p W D nm).getD b 0 = exn p W D nm (W + b) := by simp [exR, hb]
  obtain ⟨hB1, hB2, hB3⟩ := exn_bd p ho W D nm (W + b) hW.2 hD.2 hnm (by omega) (by unfold exc at hb; omega)
  rw [h2] at h1 ⊢
  unfold exn at h1 ⊢
  omega

theorem pst_low (R : List Int) (T : Int) (k : Nat) (h : R.getD k 0 < T) : pst R T (k + 1) = (none, flushO (pst R T k)) := by rw [pst, if_pos h]
theorem pst_none (R : List Int) (T : Int) (k : Nat) (h : ¬ R.getD k 0 < T) (hs : (pst R T k).1 = none) : pst R T (k + 1) = (some k, (pst R T k).2) := by rw [pst, if_neg h, hs]
theorem pst_up (R : List Int) (T : Int) (k b : Nat) (h : ¬ R.getD k 0 < T) (hs : (pst R T k).1 = some b) (hc : R.getD b 0 < R.getD k 0) : pst R T (k + 1) = (some k, (pst R T k).2) := by rw [pst, if_neg h, hs]; simp only; rw [if_pos hc]
theorem pst_same (R : List Int) (T : Int) (k b : Nat) (h : ¬ R.getD k 0 < T) (hs : (pst R T k).1 = some b) (hc : ¬ R.getD b 0 < R.getD k 0) : pst R T (k + 1) = pst R T k := by rw [pst, if_neg h, hs]; simp only; rw [if_neg hc]
theorem pst_len2 (R : List Int) (T : Int) (k : Nat) : (pst R T k).2.length ≤ k := by
  have := pst_len R T k
  unfold flushO at this; split at this
  · simp at this; omega
  · exact this

theorem _root_.Go.Proofs.YtlifcpcfhkpejaaGreat.At.pair' {w : World} {b off : Nat} {l : List (Int × Int)} (h : At w (some ⟨b, off, none⟩) (prs l)) {k : Nat} (hk : k < l.length) :
    w.cell? ⟨b, off + k * 2, none⟩ = some (.int .i64 (l.getD k (0, 0)).1) ∧ w.cell? ⟨b, off + k * 2 + 1, none⟩ = some (.int .i64 (l.getD k (0, 0)).2) := by
  obtain ⟨b', off', e, h1, h2⟩ := h.pair hk
  cases e
  exact ⟨h1, h2⟩

/-- flush, whatever the state -/
theorem flush_any {W : World} {Br Ba Bb Bo base : Nat} {aF : Option Addr} {cF : Nat} {p : List Int} {Wd D : Nat} {st ls nm : Int} (s : Option Nat × List Nat) (w : World) (hl : DLay W Br Ba Bb Bo base aF) (ho : p.all okR = true) (hlen : p.length ≤ 5000)
    (hW : 1 ≤ Wd ∧ Wd ≤ 100) (hD : 1 ≤ D ∧ D ≤ 1000) (hnm : 0 ≤ nm ∧ nm ≤ 10000) (hst : 1 ≤ st ∧ st ≤ 100) (hs : ∀ b, s.1 = some b → b < exc p Wd) (hs2 : s.2.length ≤ 5001)
    (h : DSt W Br Ba Bb Bo base aF cF (exL p Wd D nm) st Wd ls nm D (s.2.map (evR (exR p Wd D nm) Wd D st)) (bestV s) w) :
    Calls Tryz.prog 37 #[.pointer (some ⟨Bb, 0, none⟩), .pointer (some ⟨Ba, 0, none⟩), .pointer (some ⟨Bo, 0, none⟩), .pointer (some ⟨Br, 0, none⟩)] w fun e w' => e = .returned (.tuple #[]) ∧
      DSt W Br Ba Bb Bo base aF cF (exL p Wd D nm) st Wd ls nm D ((flushO s).map (evR (exR p Wd D nm) Wd D st)) (-1) w' := by
  cases hb : s.1 with
  | none =>
    have e : bestV s = -1 := by simp [bestV, hb]
    have e2 : flushO s = s.2 := by simp [flushO, hb]
    rw [e] at h; rw [e2]
    exact flush_neg w hl h
  | some b =>
    have e : bestV s = b := by simp [bestV, hb]
    have e2 : flushO s = s.2 ++ [b] := by simp [flushO, hb]
    have hbl := hs b hb
    have hFl : (exL p Wd D nm).length = exc p Wd := by simp [exL]
    have hu : 1 ≤ Wd * D := Nat.mul_pos hW.1 hD.1
    have hu2 : Wd * D ≤ 100000 := Nat.mul_le_mul hW.2 hD.2
    rw [e] at h; rw [e2, List.map_append, List.map_singleton, ← evF_evR p Wd D nm st b hbl hu]
    have hx : -2100000000 ≤ ((exL p Wd D nm).getD b (0, 0)).1 ∧ ((exL p Wd D nm).getD b (0, 0)).1 ≤ 2100000000 ∧ 1 ≤ ((exL p Wd D nm).getD b (0, 0)).2 ∧ ((exL p Wd D nm).getD b (0, 0)).2 ≤ 100000 := by
      rw [exL_get p Wd D nm b hbl]
      have h1 := low_bd ((exR p Wd D nm).getD b 0) (Wd * D) hu
      have h2 : (exR p Wd D nm).getD b 0 = exn p Wd D nm (Wd + b) := by simp [exR, hbl]
      obtain ⟨hB1, hB2, hB3⟩ := exn_bd p ho Wd D nm (Wd + b) hW.2 hD.2 hnm (by omega) (by unfold exc at hbl; omega)
      rw [h2] at h1 ⊢
      unfold exn at h1 ⊢
      omega
    have := flush_pos b w hl h (by rw [hFl]; exact hbl) (by rw [hFl]; unfold exc; omega) hx hst (by omega) (by simpa using hs2)
    simpa using this

set_option maxHeartbeats 800000 in
theorem Detected_bad (a : Option Addr) (n cap : Nat) (p : List Int) (st wd ls nm dn : Int) (w : World) (hn : n = p.length) (hm : n ≤ maxLen) (h : At w a (ints p)) (hb : nm ≤ 9223372036854775807 ∧ dn ≤ 9223372036854775807) (hf : faultOf p st wd ls nm dn ≠ 0) :
    Calls Tryz.prog 12 #[.slice a n cap, .agg #[.int .i64 st, .int .i64 wd, .int .i64 ls, .int .i64 nm, .int .i64 dn]] w fun e w' => e = .returned (.tuple #[.slice none 0 0, .int .i64 (faultOf p st wd ls nm dn)]) ∧ w.grownBy w' none := by
  have hcc := cells5 (heap_alloc_new w (.cells #[.int .i64 st, .int .i64 wd, .int .i64 ls, .int .i64 nm, .int .i64 dn] 32))
  have HX := Lib.hid (fault_any a n cap p st wd ls nm dn (w.alloc (.cells #[.int .i64 st, .int .i64 wd, .int .i64 ls, .int .i64 nm, .int .i64 dn] 32)) hn hm (h.alloc _) hb)
  generalize faultOf p st wd ls nm dn = f at *
  have hf' : (f != 0) = true := by simpa using hf
  clear hf h hn
  go_enter Tryz.func12, Tryz.ntmps12
  go_wp2_with fail
  refine HX.out.mono ?_
  clear HX hcc
  rintro e w2 ⟨rfl, hg⟩
  go_wp2_with fail
  go_ret2
  exact ⟨rfl, (World.grownBy_alloc w _ none).trans hg⟩

/-- what Detected leaves -/
def DetPost (w : World) (E : List (Int × Int)) (e : Ending) (w' : World) : Prop :=
  w.grownBy w' none ∧ if 100 < E.length then e = .returned (.tuple #[.slice none 0 0, .int .i64 2]) else ∃ a' c', e = .returned (.tuple #[.slice a' E.length c', .int .i64 0]) ∧ w'.ownsRow w.heap.size 44 2 (.slice a' E.length c') E.length (prs E)

set_option maxRecDepth 100000 in
set_option maxHeartbeats 2000000 in
theorem Detected_good (a : Option Addr) (n cap : Nat) (p : List Int) (st ls nm : Int) (W D : Nat) (w : World) (hn : n = p.length) (hcap : n ≤ cap) (hc2 : cap ≤ maxLen) (hm : n ≤ 5000) (ho : p.all okR = true) (h : At w a (ints p))
    (hst : 1 ≤ st ∧ st ≤ 100) (hls : 1 ≤ ls ∧ ls ≤ 10000) (hW : 1 ≤ W ∧ W ≤ 100) (hD : 1 ≤ D ∧ D ≤ 1000) (hnm : 0 ≤ nm ∧ nm ≤ 10000) (hf : faultOf p st W ls nm D = 0) :
    Calls Tryz.prog 12 #[.slice a n cap, .agg #[.int .i64 st, .int .i64 W, .int .i64 ls, .int .i64 nm, .int .i64 D]] w (DetPost w (evsOf p W D nm ls st)) := by
  have h0 := heap_alloc_new w (.cells #[.int .i64 st, .int .i64 W, .int .i64 ls, .int .i64 nm, .int .i64 D] 32)
  have hcc := cells5 h0
  have HX := Lib.hid (fault_any a n cap p st W ls nm D (w.alloc (.cells #[.int .i64 st, .int .i64 W, .int .i64 ls, .int .i64 nm, .int .i64 D] 32)) hn (by unfold maxLen at *; omega) (h.alloc _) (by omega))
  rw [hf] at HX
  have H0 := Lib.hid h0
  clear h0
  subst hn
  have hm' := hm
  go_enter Tryz.func12, Tryz.ntmps12
  go_wp2_with fail
  refine HX.out.mono ?_
  clear HX hcc
  rintro e w2 ⟨rfl, hg⟩
  have hb := (hg.block _ (lt_of_block H0.out) (by simp)).trans H0.out
  have hg0 : w.grownBy w2 none := (World.grownBy_alloc w _ none).trans hg
  have hcc := cells5 (blk_apart hb (World.grownBy_alloc w2 (.cells #[.slice none 0 0] 36) none) (by simp))
  have hat := (h.grown hg0 (by simp)).alloc (.cells #[.slice none 0 0] 36)
  clear H0 hg
  go_wp2_with fail
  refine (excess_any a _ cap p st ls nm W D _ rfl hcap hc2 hm ho hat hW hD hnm).mono ?_
  rintro e w3 ⟨aF, cF, rfl, hownF, hg3⟩
  have hsz2 : w.heap.size < w2.heap.size := lt_of_block hb
  have hBo := (hg3.block _ (lt_of_block (heap_alloc_new w2 (.cells #[.slice none 0 0] 36))) (by simp)).trans (heap_alloc_new w2 (.cells #[.slice none 0 0] 36))
  have hBr := blk_apart (blk_apart hb (World.grownBy_alloc w2 (.cells #[.slice none 0 0] 36) none) (by simp)) hg3 (by simp)
  have hsz3 := lt_of_block hBo
  have hgW3 : w.grownBy w3 none := (hg0.trans (World.grownBy_alloc w2 _ none)).trans hg3
  have hFl : (exL p W D nm).length = exc p W := by simp [exL]
  have hRl : (exR p W D nm).length = exc p W := by simp [exR]
  have hexc : exc p W ≤ 5001 := by unfold exc; omega
  have hlay : DLay w w.heap.size w3.heap.size (w3.heap.size + 1) w2.heap.size (w3.heap.size + 2) aF :=
    ⟨by omega, by omega, by omega, by omega, by omega, fun q hq => by have := own_lt hownF q hq; simp at this; omega⟩
  obtain ⟨w5, hw5⟩ : ∃ w5, w5 = (w3.alloc (.cells #[.slice aF (exL p W D nm).length cF] 39)).alloc (.cells #[.int .i64 (-1)] 3) := ⟨_, rfl⟩
  have hD5 : DSt w w.heap.size w3.heap.size (w3.heap.size + 1) w2.heap.size (w3.heap.size + 2) aF cF (exL p W D nm) st W ls nm D [] (-1) w5 := by
    have hg35 : w3.grownBy w5 none := by rw [hw5]; exact grown_alloc_r (World.grownBy_alloc w3 _ none) _
    refine ⟨blk_apart hBr hg35 (by simp), ?_, ?_, ⟨none, 0, blk_apart hBo hg35 (by simp), World.ownsRow_nil _ _ _ _⟩, (own_at hownF).grown hg35 (by simp), hgW3.trans hg35, by rw [hw5]; simp⟩
    · rw [hw5]; exact (heap_alloc_old _ _ (by simp)).trans (heap_alloc_new w3 _)
    · rw [hw5]; have := heap_alloc_new (w3.alloc (.cells #[.slice aF (exL p W D nm).length cF] 39)) (.cells #[.int .i64 (-1)] 3); simpa using this
  have HW5 := Lib.hid hw5
  have HD5 := Lib.hid hD5
  have HR0 : Hid ((pst (exR p W D nm) (ls * (W * D : Nat)) 0) = (none, [])) := rfl
  have HF := Lib.hid hFl
  have HRl := Lib.hid hRl
  have hFb : (exL p W D nm).length ≤ 5001 := by rw [hFl]; exact hexc
  have hlt3 : w2.heap.size < w3.heap.size := hsz3
  clear hcc hw5 hD5 hBo hBr hb hat hownF hg3 hFl hRl hsz3
  go_wp2_with fail
  rw [← HW5.out]
  have hca := cells1 HD5.out.a
  go_wp2_with fail
  go_loopw [25] (DRel w w.heap.size w3.heap.size (w3.heap.size + 1) w2.heap.size (w3.heap.size + 2) aF cF p W D st ls nm) (fun i _ => (exL p W D nm).length - (intOf i).toNat)
  case atStart => exact ⟨0, by omega, rfl, HD5.out⟩
  case round =>
    clear hca HD5
    obtain ⟨k, hk, rfl, hst'⟩ := hrel
    have hcc := cells5 hst'.r
    have hcb := cells1 hst'.b
    have hfb := free1 hst'.b
    have hca := cells1 hst'.a
    have hszr := hst'.sz
    have hne1 : w.heap.size < wr.heap.size := by omega
    have hne2 : w2.heap.size < wr.heap.size := by omega
    have hne3 : w3.heap.size < wr.heap.size := by omega
    have hne4 : w3.heap.size + 1 < wr.heap.size := by omega
    have hu : 1 ≤ W * D := Nat.mul_pos hW.1 hD.1
    have hlen2 := pst_len2 (exR p W D nm) (ls * (W * D : Nat)) k
    have hbst : ∀ b, (pst (exR p W D nm) (ls * (W * D : Nat)) k).1 = some b → b < k := pst_lt _ _ k
    by_cases hlt : k < (exL p W D nm).length
    · have hlt' : k < exc p W := by rw [← HF.out]; exact hlt
      obtain ⟨bF, oF, rfl, hp1, hp2⟩ := hst'.at_.pair hlt
      have hxb := exL_bd p W D nm ho hW hD hnm k hlt'
      have HX1 : Hid (((exL p W D nm).getD k (0, 0)).1 < ls * ((exL p W D nm).getD k (0, 0)).2 ↔ (exR p W D nm).getD k 0 < ls * (W * D : Nat)) := by
        show _ ↔ _; rw [exL_get p W D nm k hlt']; exact low_lt _ _ _ hu
      have HST := Lib.hid hst'
      have HBS := Lib.hid hbst
      obtain ⟨x, HXQ⟩ : ∃ x, Hid ((exL p W D nm).getD k (0, 0) = x) := ⟨_, rfl⟩
      rw [HXQ.out] at hp1 hp2 hxb HX1
      have hm := mul_bd ls x.2 10000 100000 (by omega) (by omega) (by omega)
      clear hst' hbst
      by_cases hc : x.1 < ls * x.2
      · have hP := pst_low _ _ _ (HX1.out.1 hc)
        have HP := Lib.hid hP
        clear hP
        go_wp2_with fail
        refine (flush_any (pst (exR p W D nm) (ls * (W * D : Nat)) k) _ hlay ho hm' hW hD hnm hst (fun b hb => by have := HBS.out b hb; omega) (by omega) (HST.out.quiet (World.grownBy_alloc _ _ _))).mono ?_
        rintro e w6 ⟨rfl, hst6⟩
        have H6 := Lib.hid hst6
        clear hst6
        go_wp2_with fail
        exact ⟨⟨k + 1, by omega, by go_num, by rw [HP.out]; exact H6.out⟩, by simp [intOf]; omega⟩
      · have hnl : ¬ (exR p W D nm).getD k 0 < ls * (W * D : Nat) := fun h => hc (HX1.out.2 h)
        have HNL := Lib.hid hnl
        clear hnl
        cases hbs : (pst (exR p W D nm) (ls * (W * D : Nat)) k).1 with
        | none =>
          have e1 : bestV (pst (exR p W D nm) (ls * (W * D : Nat)) k) = -1 := by unfold bestV; rw [hbs]
          rw [e1] at hcb
          have HP := Lib.hid (pst_none _ _ _ HNL.out hbs)
          clear e1 hbs
          go_wp2_with fail
          go_quiet (fail)
          go_wp2_with fail
          refine ⟨⟨k + 1, by omega, by go_num, ?_⟩, by simp [intOf]; omega⟩
          rw [HP.out]
          exact ((HST.out.quiet (World.grownBy_alloc _ _ _)).quiet (grown_drewN (grown_refl _ _) _)).best hlay k
        | some b =>
          have e1 : bestV (pst (exR p W D nm) (ls * (W * D : Nat)) k) = b := by unfold bestV; rw [hbs]
          rw [e1] at hcb
          have hbk := HBS.out b hbs
          have HE1 := Lib.hid e1
          have HB := Lib.hid hbs
          obtain ⟨bF', oF', hab, hy1, hy2⟩ := HST.out.at_.pair (k := b) (by omega)
          cases hab
          have hyb := exL_bd p W D nm ho hW hD hnm b (by omega)
          have HX2 : Hid (((exL p W D nm).getD b (0, 0)).1 * ((exL p W D nm).getD k (0, 0)).2 < ((exL p W D nm).getD k (0, 0)).1 * ((exL p W D nm).getD b (0, 0)).2 ↔ (exR p W D nm).getD b 0 < (exR p W D nm).getD k 0) := by
            show _ ↔ _; rw [exL_get p W D nm k hlt', exL_get p W D nm b (by omega)]; exact low_cmp _ _ _ hu
          obtain ⟨y, HYQ⟩ : ∃ y, Hid ((exL p W D nm).getD b (0, 0) = y) := ⟨_, rfl⟩
          rw [HXQ.out, HYQ.out] at HX2
          rw [HYQ.out] at hy1 hy2 hyb
          have hbF := (hlay.f _ rfl).1
          simp only at hbF
          have hbFl : bF < wr.heap.size := by omega
          have h0b : (0 : Int) ≤ (b : Int) := by omega
          have hbi : (b : Int) < ((exL p W D nm).length : Int) := by omega
          have hbl : b < (exL p W D nm).length := by omega
          clear e1 hbs
          have S1 := heap_alloc_new wr (.cells #[.int .i64 x.1, .int .i64 x.2] 30)
          have HS1 := Lib.hid S1
          clear S1
          by_cases hup : (exR p W D nm).getD b 0 < (exR p W D nm).getD k 0
          all_goals
            have HUP := Lib.hid hup
            have hcm := HX2.out
            have hcm2 := cmp3_pos (x.1 * y.2) (y.1 * x.2)
            have HCM : Hid ((0 < cmp3 (x.1 * y.2) (y.1 * x.2)) ↔ (exR p W D nm).getD b 0 < (exR p W D nm).getD k 0) := hcm2.trans hcm
            clear hcm hcm2 hup
            go_wp2_with fail
            go_region_held3 (fun w' => w'.cell? ⟨w3.heap.size + 1, 0, none⟩ = some (.int .i64 b) ∧ w'.cell? ⟨w3.heap.size, 0, none⟩ = some (.slice (some ⟨bF, oF, none⟩) (exL p W D nm).length cF) ∧ w'.cell? ⟨wr.heap.size, 0, none⟩ = some (.int .i64 x.1) ∧ w'.cell? ⟨wr.heap.size, 1, none⟩ = some (.int .i64 x.2) ∧ w'.cell? ⟨bF, oF + b * 2, none⟩ = some (.int .i64 y.1) ∧ w'.cell? ⟨bF, oF + b * 2 + 1, none⟩ = some (.int .i64 y.2)) (go_keep) (first | (go_at_call 39; go_must (refine (compareI_any x.1 y.1 x.2 y.2 _ (by omega) (by omega) (by omega) (by omega)).mono ?_); rintro e w7 ⟨rfl, hg7⟩; have hst7 := (HST.out.quiet (World.grownBy_alloc wr (.cells #[.int .i64 x.1, .int .i64 x.2] 30) none)).quiet (show World.grownBy _ w7 none from ⟨hg7.os, hg7.tape, hg7.output, hg7.size, hg7.block⟩); have k1 := cells1 hst7.b; have k2 := cells1 hst7.a; have k3 := cells2 ((hg7.block _ (lt_of_block HS1.out) (by simp)).trans HS1.out); have k4 := hst7.at_.pair' (k := b) hbl; rw [HE1.out] at k1; rw [HYQ.out] at k4; have H7 := Lib.hid hst7; clear hst7))
            have hfz7 := free1 H7.out.b
          · have hpos : 0 < cmp3 (x.1 * y.2) (y.1 * x.2) := HCM.out.2 HUP.out
            have HP := Lib.hid (pst_up _ _ _ _ (Int.not_lt.2 HNL.out) HB.out HUP.out)
            go_wp2_with fail
            refine ⟨⟨k + 1, by omega, by go_num, ?_⟩, by simp [intOf]; omega⟩
            rw [HP.out]
            exact H7.out.best hlay k
          · have hpos : ¬ 0 < cmp3 (x.1 * y.2) (y.1 * x.2) := fun h => Int.not_lt.2 HUP.out (HCM.out.1 h)
            have hpos' : decide (0 < cmp3 (x.1 * y.2) (y.1 * x.2)) = false := decide_eq_false hpos
            have HP := Lib.hid (pst_same _ _ _ _ (Int.not_lt.2 HNL.out) HB.out (Int.not_lt.2 HUP.out))
            go_wp2_with fail
            refine ⟨⟨k + 1, by omega, by go_num, ?_⟩, by simp [intOf]; omega⟩
            rw [HP.out]
            exact H7.out
    · have hk2 : k = exc p W := by have := HF.out; omega
      have HE : Hid ((flushO (pst (exR p W D nm) (ls * (W * D : Nat)) k)).map (evR (exR p W D nm) W D st) = evsOf p W D nm ls st) := by
        show _ = _; rw [hk2, ← HRl.out, flush_pst]; rfl
      have HST := Lib.hid hst'
      have HBS := Lib.hid hbst
      clear hst' hbst
      go_wp2_with fail
      refine (flush_any (pst (exR p W D nm) (ls * (W * D : Nat)) k) _ hlay ho hm' hW hD hnm hst (fun b hb => by have := HBS.out b hb; omega) (by omega) HST.out).mono ?_
      rw [HE.out]
      rintro e w6 ⟨rfl, hst6⟩
      generalize evsOf p W D nm ls st = E at *
      obtain ⟨ao, co, hBo6, hown6⟩ := hst6.o
      have hco := cells1 hBo6
      have hg6 := hst6.g
      by_cases hE : 100 < E.length
      · clear hst6 hcc hcb hfb hca
        go_wp2_with fail
        go_ret2
        exact ⟨hg6, by rw [if_pos hE]; rfl⟩
      · clear hst6 hcc hcb hfb hca
        go_wp2_with fail
        go_ret2
        exact ⟨hg6, by rw [if_neg hE]; exact ⟨ao, co, rfl, own_base hown6 (by have := hgW3.size; omega)⟩⟩
end Go.Proofs.YtlifcpcfhkpejaaGreat.Hd

/- Walks: the events of a trace, as the reference finds them. -/
namespace Go.Proofs.YtlifcpcfhkpejaaGreat.Hd
set_option linter.unusedVariables false
set_option linter.unusedSimpArgs false
open Go.RowKit

/-- what the variables of the reference's function hold -/
structure RSt (Br Bx Bu : Nat) (aR : Option Addr) (cR : Nat) (R : List Int) (st wd ls nm dn u : Int) (w : World) : Prop where
  r : w.heap[Br]? = some (.cells #[.int .i64 st, .int .i64 wd, .int .i64 ls, .int .i64 nm, .int .i64 dn] 32 (0, 0))
  x : w.heap[Bx]? = some (.cells #[.slice aR R.length cR] 22 (0, 0))
  u : w.heap[Bu]? = some (.cells #[.int .i64 u] 3 (0, 0))
  at_ : At w aR (ints R)
theorem RSt.kept {Br Bx Bu : Nat} {aR : Option Addr} {cR : Nat} {R : List Int} {st wd ls nm dn u : Int} {w w' : World} {row : Option Nat} {B : Nat} (h : RSt Br Bx Bu aR cR R st wd ls nm dn u w) (hg : w.grownBy w' row)
    (hl : Br < B ∧ Bx < B ∧ Bu < B ∧ ∀ p, aR = some p → p.block < B) (hr : ∀ b, row = some b → B ≤ b) : RSt Br Bx Bu aR cR R st wd ls nm dn u w' :=
  ⟨blk_apart h.r hg (fun k hk => by have := hr k hk; omega), blk_apart h.x hg (fun k hk => by have := hr k hk; omega), blk_apart h.u hg (fun k hk => by have := hr k hk; omega), h.at_.apart hg hl.2.2.2 hr⟩
theorem RSt.drewN {Br Bx Bu : Nat} {aR : Option Addr} {cR : Nat} {R : List Int} {st wd ls nm dn u : Int} {w : World} (h : RSt Br Bx Bu aR cR R st wd ls nm dn u w) (n : Nat) : RSt Br Bx Bu aR cR R st wd ls nm dn u (w.drewN n) := ⟨h.r, h.x, h.u, h.at_⟩

end Go.Proofs.YtlifcpcfhkpejaaGreat.Hd

/- Walks: slices.Equal of pairs of numbers; the self-test of package trace; the trace of steps. -/
namespace Go.Proofs.YtlifcpcfhkpejaaGreat.Hd
set_option linter.unusedVariables false
set_option linter.unusedSimpArgs false
open Go.RowKit

end Go.Proofs.YtlifcpcfhkpejaaGreat.Hd

/- Walks: where a trace ends (package trace, and the reference). -/
namespace Go.Proofs.YtlifcpcfhkpejaaGreat.Hd
set_option linter.unusedVariables false
set_option linter.unusedSimpArgs false
open Go.RowKit

end Go.Proofs.YtlifcpcfhkpejaaGreat.Hd

/- Contracts of package trace and of the reference for every input, and the self-test of the laws. -/
namespace Go.Proofs.YtlifcpcfhkpejaaGreat.Hd
set_option linter.unusedVariables false
set_option linter.unusedSimpArgs false
open Go.RowKit

theorem firstErr2 {a b : Int} (h : firstErr [a, b] = 0) : a = 0 ∧ b = 0 := by
  simp only [firstErr] at h
  split at h <;> simp_all

theorem fault0 {p : List Int} {st wd ls nm dn : Int} (h : faultOf p st wd ls nm dn = 0) :
    p.all okR = true ∧ p.length ≤ 5000 ∧ (1 ≤ st ∧ st ≤ 100) ∧ (1 ≤ wd ∧ wd ≤ 100) ∧ (1 ≤ ls ∧ ls ≤ 10000) ∧ (0 ≤ nm ∧ nm ≤ 10000) ∧ (1 ≤ dn ∧ dn ≤ 1000) := by
  obtain ⟨h1, h2⟩ := firstErr2 h
  unfold traceFault at h1
  unfold rulesFault at h2
  (repeat' split at h1) <;> (repeat' split at h2) <;> first | contradiction | skip
  rename_i a b c d e
  exact ⟨by assumption, by omega, by omega, by omega, by omega, by omega, by omega⟩

def exE (p : List Int) (st wd ls nm dn : Int) : List (Int × Int) := if faultOf p st wd ls nm dn = 0 then exL p wd.toNat dn.toNat nm else []
def evA (p : List Int) (st wd ls nm dn : Int) : List (Int × Int) := evsOf p wd.toNat dn.toNat nm ls st
def evE (p : List Int) (st wd ls nm dn : Int) : List (Int × Int) := if faultOf p st wd ls nm dn = 0 then if 100 < (evA p st wd ls nm dn).length then [] else evA p st wd ls nm dn else []
def evErr (p : List Int) (st wd ls nm dn : Int) : Int := if faultOf p st wd ls nm dn = 0 then if 100 < (evA p st wd ls nm dn).length then 2 else 0 else faultOf p st wd ls nm dn
/-- a row of pairs and an error -/
def RowPost (w : World) (T : TypeId) (E : List (Int × Int)) (er : Int) (e : Ending) (w' : World) : Prop :=
  ∃ a c, e = .returned (.tuple #[.slice a E.length c, .int .i64 er]) ∧ w'.ownsRow w.heap.size T 2 (.slice a E.length c) E.length (prs E) ∧ w.grownBy w' none

theorem Excess_all (a : Option Addr) (n cap : Nat) (p : List Int) (st wd ls nm dn : Int) (w : World) (hn : n = p.length) (hcap : n ≤ cap) (hc2 : cap ≤ maxLen) (h : At w a (ints p)) (hb : nm ≤ 9223372036854775807 ∧ dn ≤ 9223372036854775807) :
    Calls Tryz.prog 13 #[.slice a n cap, .agg #[.int .i64 st, .int .i64 wd, .int .i64 ls, .int .i64 nm, .int .i64 dn]] w (RowPost w 30 (exE p st wd ls nm dn) (faultOf p st wd ls nm dn)) := by
  by_cases hf : faultOf p st wd ls nm dn = 0
  · obtain ⟨ho, hl, h1, h2, h3, h4, h5⟩ := fault0 hf
    obtain ⟨W, rfl⟩ := Int.eq_ofNat_of_zero_le (show 0 ≤ wd by omega)
    obtain ⟨D, rfl⟩ := Int.eq_ofNat_of_zero_le (show 0 ≤ dn by omega)
    refine (Excess_good a n cap p st ls nm W D w hn hcap hc2 (by omega) ho h (by omega) (by omega) h4 hf).mono ?_
    rintro e w' ⟨a', c', rfl, h7, h8⟩
    have hE : exE p st W ls nm D = exL p W D nm := by rw [exE, if_pos hf]; simp
    rw [RowPost, hE, hf]
    exact ⟨a', c', rfl, h7, h8⟩
  · refine (Excess_bad a n cap p st wd ls nm dn w hn (by omega) h hb hf).mono ?_
    rintro e w' ⟨rfl, h8⟩
    have hE : exE p st wd ls nm dn = [] := by rw [exE, if_neg hf]
    rw [RowPost, hE]
    exact ⟨none, 0, rfl, World.ownsRow_nil _ _ _ _, h8⟩

theorem Detected_all (a : Option Addr) (n cap : Nat) (p : List Int) (st wd ls nm dn : Int) (w : World) (hn : n = p.length) (hcap : n ≤ cap) (hc2 : cap ≤ maxLen) (h : At w a (ints p)) (hb : nm ≤ 9223372036854775807 ∧ dn ≤ 9223372036854775807) :
    Calls Tryz.prog 12 #[.slice a n cap, .agg #[.int .i64 st, .int .i64 wd, .int .i64 ls, .int .i64 nm, .int .i64 dn]] w (RowPost w 44 (evE p st wd ls nm dn) (evErr p st wd ls nm dn)) := by
  by_cases hf : faultOf p st wd ls nm dn = 0
  · obtain ⟨ho, hl, h1, h2, h3, h4, h5⟩ := fault0 hf
    obtain ⟨W, rfl⟩ := Int.eq_ofNat_of_zero_le (show 0 ≤ wd by omega)
    obtain ⟨D, rfl⟩ := Int.eq_ofNat_of_zero_le (show 0 ≤ dn by omega)
    refine (Detected_good a n cap p st ls nm W D w hn hcap hc2 (by omega) ho h h1 h3 (by omega) (by omega) h4 hf).mono ?_
    rintro e w' ⟨h8, h9⟩
    have hE : evA p st W ls nm D = evsOf p W D nm ls st := by rw [evA]; simp
    rw [← hE] at h9
    rw [RowPost, evE, evErr, if_pos hf, if_pos hf]
    split at h9
    · rename_i h10
      rw [if_pos h10, if_pos h10]
      exact ⟨none, 0, h9, World.ownsRow_nil _ _ _ _, h8⟩
    · rename_i h10
      rw [if_neg h10, if_neg h10]
      obtain ⟨a', c', h11, h12⟩ := h9
      exact ⟨a', c', h11, h12, h8⟩
  · refine (Detected_bad a n cap p st wd ls nm dn w hn (by omega) h hb hf).mono ?_
    rintro e w' ⟨rfl, h8⟩
    rw [RowPost, evE, evErr, if_neg hf, if_neg hf]
    exact ⟨none, 0, rfl, World.ownsRow_nil _ _ _ _, h8⟩

end Go.Proofs.YtlifcpcfhkpejaaGreat.Hd

/- Contracts that were walked by hand, told for the abstract walk. -/
namespace Go.Proofs.YtlifcpcfhkpejaaGreat
set_option linter.unusedVariables false
set_option linter.unusedSimpArgs false
open Abs

/-- two numbers -/
def encQ (q : Int × Int) : List V := [.int .i64 q.1, .int .i64 q.2]
theorem ints_of {F : Nat → Prop} {w : World} : ∀ {xs : List Int} {ys : List Value}, P2 (Abs.RT F w) ys (xs.map (V.int .i64)) → ys = ints xs
  | [], ys, h => by have := h.nil_inv; subst this; rfl
  | x :: r, ys, h => by
    obtain ⟨y, t, rfl, h1, h2⟩ := h.cons_inv
    cases h1
    rw [ints_of h2]; rfl
theorem flat_encI : ∀ l : List Int, (l.map encI).flatten = l.map (V.int .i64)
  | [] => rfl
  | x :: r => by simp only [List.map_cons, List.flatten_cons, flat_encI r]; rfl
theorem flat_encQ : ∀ l : List (Int × Int), (l.map encQ).flatten = (l.flatMap fun q => [q.1, q.2]).map (V.int .i64)
  | [] => rfl
  | x :: r => by simp only [List.map_cons, List.flatten_cons, flat_encQ r, List.flatMap_cons, List.map_append]; rfl
theorem prs_ints : ∀ l : List (Int × Int), Hd.prs l = ints (l.flatMap fun q => [q.1, q.2])
  | [] => rfl
  | x :: r => by
    have := prs_ints r
    unfold Hd.prs ints at *
    simp only [List.flatMap_cons, List.map_append, this]; rfl
theorem lst_bd {F : Nat → Prop} {w : World} {a : Option Addr} {n cap sz : Nat} {rows : List (List V)} (h : Abs.RT F w (.slice a n cap) (.lst sz rows)) : n ≤ cap ∧ cap ≤ maxLen := by
  cases h with
  | lst0 _ _ _ h => exact ⟨Nat.zero_le _, h⟩
  | lst b off _ _ _ _ f hF hn hc hm => exact ⟨hc, hm⟩
theorem lst_ints {F : Nat → Prop} {w : World} {c : Value} {l : List Int} (h : Abs.RT F w c (.lst 1 (l.map encI))) : ∃ a cap, c = .slice a l.length cap ∧ At w a (ints l) ∧ l.length ≤ cap ∧ cap ≤ maxLen := by
  obtain ⟨a, cap, ys, rfl, hat, hp, -⟩ := h.cells
  rw [flat_encI] at hp
  rw [List.length_map] at h ⊢
  have := lst_bd h
  exact ⟨a, cap, rfl, by rw [← ints_of hp]; exact hat, this.1, this.2⟩
theorem lst_inv {F : Nat → Prop} {φ : Nat → Option Value} {w : World} {c : Value} {sz : Nat} {rows : List (List V)} (h : RS F φ w c (.c (.lst sz rows))) : Abs.RT F w c (.lst sz rows) := by
  cases h with | c h => cases h with | tree h => exact h
theorem agg_inv {F : Nat → Prop} {φ : Nat → Option Value} {w : World} {c : Value} {xs : List Int} (h : RS F φ w c (.agg (xs.map (V.int .i64)))) : c = .agg (ints xs).toArray := by
  cases h with | agg cs _ h =>
    have : ∀ {xs : List Int} {ys : List Value}, P2 (RV F φ w) ys (xs.map (V.int .i64)) → ys = ints xs := by
      intro xs
      induction xs with
      | nil => intro ys h; have := h.nil_inv; subst this; rfl
      | cons x r ih =>
        intro ys h
        obtain ⟨y, t, rfl, h1, h2⟩ := h.cons_inv
        cases h1 with | tree h1 => cases h1; rw [ih h2]; rfl
    rw [← this h]
/-- a row of pairs made, and numbers behind it -/
theorem pc_rowN {f : Nat} {args : List S} {E : List (Int × Int)} {T : TypeId} {tl : List Int} (hf : ∃ fn, Tryz.prog.funcs[f]? = some fn ∧ (fn.name == "runtime.NumGoroutine") = false ∧ fn.body.isNone = false)
    (H : ∀ (F : Nat → Prop) (φ : Nat → Option Value) (w : World) (cs : Array Value), P2 (RS F φ w) cs.toList args → Calls Tryz.prog f cs w fun e w' => ∃ a c, e = .returned (.tuple (Value.slice a E.length c :: ints tl).toArray) ∧ w'.ownsRow w.heap.size T 2 (.slice a E.length c) E.length (Hd.prs E) ∧ w.grownBy w' none) :
    PCp f args [] (.tup (.c (.row 0) :: tl.map fun n => .c (.int .i64 n))) [.row T 2 (E.map encQ)] := by
  refine ⟨hf, fun F φ w cs hp hrp hφ => ?_⟩
  have hφ0 : φ 0 = none := by
    cases h : φ 0 with
    | none => rfl
    | some c => have := hφ 0 c h; simp at this
  refine (H F φ w cs hp).mono ?_
  rintro e w' ⟨a, c, rfl, hown, hg⟩
  refine ⟨_, F, addφ φ 0 (.slice a E.length c), _, _, ⟨rfl, rfl⟩, rfl, .tup _ _ (by simp [ints]) ?_, nx_made (by simp) hφ0 _ rfl _ hg.os hg.tape hg.output (fun d => absurd d id) hg.size (fun b hb => hg.block b hb (by simp)) ?_ ?_⟩
  · intro j x y h1 h2
    match j with
    | 0 => simp at h1 h2; subst h1 h2; exact .c (.row 0 _ (by simp [addφ]))
    | j + 1 =>
      simp only [List.getElem?_cons_succ, List.getElem?_map, ints] at h1 h2
      cases hk : tl[j]? with
      | none => rw [hk] at h1; simp at h1
      | some n => rw [hk] at h1 h2; simp at h1 h2; subst h1 h2; exact .c (.tree (.int _ _))
  · intro b hb'
    rcases hown.2 with ⟨hv, _⟩ | ⟨g, cap, cur, hv, h1, _⟩
    · simp only [Value.slice.injEq] at hv; obtain ⟨rfl, _, rfl⟩ := hv; simp [hb] at hb'
    · simp only [Value.slice.injEq] at hv
      obtain ⟨rfl, _, rfl⟩ := hv
      cases c with
      | zero => simp [hb] at hb'
      | succ m => simp [hb] at hb'; omega
  · refine RO.mkrow (c := .slice a E.length c) (xs := Hd.prs E) (by simp [addφ]) ?_ ?_ ?_ ?_
    · intro b hb' hF
      have := hrp.bd b hF
      rcases hown.2 with ⟨hv, _⟩ | ⟨g, cap, cur, hv, h1, _⟩
      · simp only [Value.slice.injEq] at hv; obtain ⟨rfl, _, rfl⟩ := hv; simp [hb] at hb'
      · simp only [Value.slice.injEq] at hv
        obtain ⟨rfl, _, rfl⟩ := hv
        cases c with
        | zero => simp [hb] at hb'
        | succ m => simp [hb] at hb'; omega
    · rw [List.length_map]
      refine ⟨hown.1, hown.2.imp id ?_⟩
      rintro ⟨g, cap, cur, h1, h2, h3⟩
      exact ⟨g, cap, cur, h1, Nat.zero_le _, h3⟩
    · rw [flat_encQ, prs_ints]
      unfold ints
      refine ⟨by simp, fun j x y h1 h2 => ?_⟩
      rw [List.getElem?_map] at h1 h2
      cases hk : (E.flatMap fun q => [q.1, q.2])[j]? with
      | none => rw [hk] at h1; simp at h1
      | some n => rw [hk] at h1 h2; simp at h1 h2; subst h1 h2; exact .int _ _
    · intro r hr
      obtain ⟨q, _, rfl⟩ := List.mem_map.1 hr
      rfl
theorem pc_row {f : Nat} {args : List S} {E : List (Int × Int)} {T : TypeId} {er : Int} (hf : ∃ fn, Tryz.prog.funcs[f]? = some fn ∧ (fn.name == "runtime.NumGoroutine") = false ∧ fn.body.isNone = false)
    (H : ∀ (F : Nat → Prop) (φ : Nat → Option Value) (w : World) (cs : Array Value), P2 (RS F φ w) cs.toList args → Calls Tryz.prog f cs w (Hd.RowPost w T E er)) :
    PCp f args [] (.tup [.c (.row 0), .c (.int .i64 er)]) [.row T 2 (E.map encQ)] := pc_rowN (tl := [er]) hf H
/-- a result that is a value alone -/
theorem pc_int {f : Nat} {args : List S} {n : Int} (hf : ∃ fn, Tryz.prog.funcs[f]? = some fn ∧ (fn.name == "runtime.NumGoroutine") = false ∧ fn.body.isNone = false)
    (H : ∀ (F : Nat → Prop) (φ : Nat → Option Value) (w : World) (cs : Array Value), P2 (RS F φ w) cs.toList args → Calls Tryz.prog f cs w fun e w' => e = .returned (.int .i64 n) ∧ w.grownBy w' none) :
    PCp f args [] (.c (.int .i64 n)) [] := by
  refine ⟨hf, fun F φ w cs hp hrp hφ => (H F φ w cs hp).mono ?_⟩
  rintro e w' ⟨rfl, hg⟩
  refine ⟨_, F, φ, _, _, ⟨rfl, rfl⟩, rfl, .c (.tree (.int _ _)), ⟨fun _ h => h, fun _ _ h => h, fun _ _ h => .inl h, hg.os, hg.tape, hg.output, fun d => absurd d id, hg.size, fun b hb hne => (hne (hg.block b hb (by simp))).elim, fun b h => .inl h, ?_, ?_, ?_⟩⟩
  · intro l o h; simp [chOf, chGet] at h
  · intro l o b h; simp [chOf, chGet] at h
  · intro l l' o o' b h; simp [chOf, chGet] at h
abbrev encRu (st wd ls nm dn : Int) : List V := [.int .i64 st, .int .i64 wd, .int .i64 ls, .int .i64 nm, .int .i64 dn]
theorem excess_pc (p : List Int) (st wd ls nm dn : Int) (hb : nm ≤ 9223372036854775807 ∧ dn ≤ 9223372036854775807) :
    PCp 13 [.c (.lst 1 (p.map encI)), .agg (encRu st wd ls nm dn)] [] (.tup [.c (.row 0), .c (.int .i64 (Hd.faultOf p st wd ls nm dn))]) [.row 30 2 ((Hd.exE p st wd ls nm dn).map encQ)] := by
  refine pc_row ⟨_, Tryz.func13, by kernel_rfl, by kernel_rfl⟩ fun F φ w cs hp => ?_
  obtain ⟨x, xs, e1, r1, hp⟩ := hp.cons_inv
  obtain ⟨y, ys, e2, r2, hp⟩ := hp.cons_inv
  have e3 := hp.nil_inv
  subst e3 e2
  obtain ⟨a, cap, rfl, hat, h1, h2⟩ := lst_ints (lst_inv r1)
  have := agg_inv (xs := [st, wd, ls, nm, dn]) r2
  subst this
  rw [show cs = #[.slice a p.length cap, .agg #[.int .i64 st, .int .i64 wd, .int .i64 ls, .int .i64 nm, .int .i64 dn]] from Array.ext' e1]
  exact Hd.Excess_all a _ cap p st wd ls nm dn w rfl h1 h2 hat hb
theorem detected_pc (p : List Int) (st wd ls nm dn : Int) (hb : nm ≤ 9223372036854775807 ∧ dn ≤ 9223372036854775807) :
    PCp 12 [.c (.lst 1 (p.map encI)), .agg (encRu st wd ls nm dn)] [] (.tup [.c (.row 0), .c (.int .i64 (Hd.evErr p st wd ls nm dn))]) [.row 44 2 ((Hd.evE p st wd ls nm dn).map encQ)] := by
  refine pc_row ⟨_, Tryz.func12, by kernel_rfl, by kernel_rfl⟩ fun F φ w cs hp => ?_
  obtain ⟨x, xs, e1, r1, hp⟩ := hp.cons_inv
  obtain ⟨y, ys, e2, r2, hp⟩ := hp.cons_inv
  have e3 := hp.nil_inv
  subst e3 e2
  obtain ⟨a, cap, rfl, hat, h1, h2⟩ := lst_ints (lst_inv r1)
  have := agg_inv (xs := [st, wd, ls, nm, dn]) r2
  subst this
  rw [show cs = #[.slice a p.length cap, .agg #[.int .i64 st, .int .i64 wd, .int .i64 ls, .int .i64 nm, .int .i64 dn]] from Array.ext' e1]
  exact Hd.Detected_all a _ cap p st wd ls nm dn w rfl h1 h2 hat hb
end Go.Proofs.YtlifcpcfhkpejaaGreat

/- Drums, sections, rules and plans are made, by the abstract walk. -/
namespace Go.Proofs.YtlifcpcfhkpejaaGreat
set_option linter.unusedVariables false
set_option linter.unusedSimpArgs false
open Abs

def iterN {A : Type} (f : Nat → A → A) : Nat → A → A
  | 0, a => a
  | n + 1, a => f n (iterN f n a)
structure Pc where
  key : ByteArray
  kind : ByteArray
  long : Int
instance : Inhabited Pc := ⟨⟨default, default, 0⟩⟩
end Go.Proofs.YtlifcpcfhkpejaaGreat

/- Checks of drums, sections and rules, by the abstract walk. -/
namespace Go.Proofs.YtlifcpcfhkpejaaGreat
set_option linter.unusedVariables false
set_option linter.unusedSimpArgs false
open Abs

def leB (a b : ByteArray) : Bool := Op.bytesLess a.toList b.toList || a.toList == b.toList
theorem drop_cons {α : Type} {l : List α} {k : Nat} (h : k < l.length) : l.drop k = l[k] :: l.drop (k + 1) := List.drop_eq_getElem_cons h

set_option maxRecDepth 100000 in
set_option maxHeartbeats 4000000 in
theorem first_pc (l : List Int) (hl : l.length ≤ 1000000) : PCp 52 [.c (.lst 1 (l.map encI))] [] (.c (.int .i64 (firstErr l))) [] := by
  have hlm : (l.map encI).length = l.length := List.length_map ..
  refine fn_sound (mt := mts) tab_fits tab_mixed Tryz.func52 (by rfl) (by kernel_rfl) (by kernel_rfl) Tryz.results52 (Nat.le_of_ble_eq_true (by kernel_rfl)) ?_
  conv => whnf
  refine loop_count (l.length) [] [5, 6, 7] (fun k (_ : Unit) => ⟨[(5, .c (.lst 1 (l.map encI))), (6, .c (.int .i64 (l.map encI).length)), (7, .c (.int .i64 k))], [], 0⟩) (fun k (_ : Unit) => firstErr (l.drop k) = firstErr l) (()) ?_ ?_ ?_
  · conv => whnf
    exact ⟨rfl, rfl⟩
  · intro k _ hk hi
    rw [drop_cons hk, firstErr] at hi
    conv => whnf
    repeat' (first | ((first | refine Split.mk (fun h => ?_) (fun h => ?_) | refine CondG.mk (fun h => ?_) (fun h => ?_)) <;> (try simp only [decide_eq_true_eq, decide_eq_false_iff_not, Bool.not_eq_true', Bool.not_eq_false', beq_iff_eq, beq_eq_false_iff_ne] at h) <;> (first | (exfalso; first | omega | exact h trivial) | (conv => whnf))) | (refine Ask.mk (by first | omega | (unfold roomOK; simp [cutRows]; done) | (unfold roomOK; simp [cutRows]; omega)) ?_; conv => whnf) | (refine AppG.mk (by first | omega | (unfold roomOK; simp [cutRows]; done) | (unfold roomOK; simp [cutRows]; omega)) ?_; conv => whnf) | (refine SliceG.fr ?_; conv => whnf) | fail)
    refine idx_map k hk rfl ?_
    conv => whnf
    repeat' (first | ((first | refine Split.mk (fun h => ?_) (fun h => ?_) | refine CondG.mk (fun h => ?_) (fun h => ?_)) <;> (try simp only [decide_eq_true_eq, decide_eq_false_iff_not, Bool.not_eq_true', Bool.not_eq_false', beq_iff_eq, beq_eq_false_iff_ne] at h) <;> (first | (exfalso; first | omega | exact h trivial) | (conv => whnf))) | (refine Ask.mk (by first | omega | (unfold roomOK; simp [cutRows]; done) | (unfold roomOK; simp [cutRows]; omega)) ?_; conv => whnf) | (refine AppG.mk (by first | omega | (unfold roomOK; simp [cutRows]; done) | (unfold roomOK; simp [cutRows]; omega)) ?_; conv => whnf) | (refine SliceG.fr ?_; conv => whnf) | fail)
    · exact fini (by rw [← hi, if_neg (by simpa using h)])
    · refine count_next () hk (by rw [wrap_succ hk (by omega)]; rfl) ?_
      rw [← hi, if_pos (by simpa using h)]
  · intro _ hi
    rw [List.drop_of_length_le (Nat.le_refl _)] at hi
    conv => whnf
    repeat' (first | ((first | refine Split.mk (fun h => ?_) (fun h => ?_) | refine CondG.mk (fun h => ?_) (fun h => ?_)) <;> (try simp only [decide_eq_true_eq, decide_eq_false_iff_not, Bool.not_eq_true', Bool.not_eq_false', beq_iff_eq, beq_eq_false_iff_ne] at h) <;> (first | (exfalso; first | omega | exact h trivial) | (conv => whnf))) | (refine Ask.mk (by first | omega | (unfold roomOK; simp [cutRows]; done) | (unfold roomOK; simp [cutRows]; omega)) ?_; conv => whnf) | (refine AppG.mk (by first | omega | (unfold roomOK; simp [cutRows]; done) | (unfold roomOK; simp [cutRows]; omega)) ?_; conv => whnf) | (refine SliceG.fr ?_; conv => whnf) | fail)
    exact fini (by rw [← hi]; rfl)
end Go.Proofs.YtlifcpcfhkpejaaGreat

/- Strings are ordered; lists whose keys rise, and what is looked for in them. -/
namespace Go.Proofs.YtlifcpcfhkpejaaGreat
set_option linter.unusedVariables false
set_option linter.unusedSimpArgs false
open Abs

theorem ltL_irr : ∀ a : List UInt8, Op.bytesLess a a = false
  | [] => rfl
  | a :: r => by
    have ih := ltL_irr r
    simp [Op.bytesLess, ih]
theorem ltL_trans : ∀ {a b c : List UInt8}, Op.bytesLess a b = true → Op.bytesLess b c = true → Op.bytesLess a c = true
  | [], [], c, h, h2 => h2
  | [], b :: s, [], h, h2 => by simp [Op.bytesLess] at h2
  | [], b :: s, c :: t, h, h2 => rfl
  | a :: r, [], c, h, h2 => by simp [Op.bytesLess] at h
  | a :: r, b :: s, [], h, h2 => by simp [Op.bytesLess] at h2
  | a :: r, b :: s, c :: t, h, h2 => by
    simp only [Op.bytesLess, Bool.or_eq_true, decide_eq_true_eq, Bool.and_eq_true, beq_iff_eq] at h h2 ⊢
    rcases h with h | ⟨h, h'⟩
    · rcases h2 with h2 | ⟨h2, h2'⟩
      · exact .inl (UInt8.lt_trans h h2)
      · subst h2; exact .inl h
    · subst h
      rcases h2 with h2 | ⟨h2, h2'⟩
      · exact .inl h2
      · exact .inr ⟨h2, ltL_trans h' h2'⟩
theorem ltL_tri : ∀ a b : List UInt8, Op.bytesLess a b = true ∨ a = b ∨ Op.bytesLess b a = true
  | [], [] => .inr (.inl rfl)
  | [], _ :: _ => .inl rfl
  | _ :: _, [] => .inr (.inr rfl)
  | a :: r, b :: s => by
    have ih := ltL_tri r s
    simp only [Op.bytesLess, Bool.or_eq_true, decide_eq_true_eq, Bool.and_eq_true, beq_iff_eq]
    rcases Nat.lt_trichotomy a.toNat b.toNat with h | h | h
    · exact .inl (.inl (UInt8.lt_iff_toNat_lt.2 h))
    · have e := UInt8.toNat_inj.1 h
      subst e
      rcases ih with h1 | h1 | h1
      · exact .inl (.inr ⟨rfl, h1⟩)
      · exact .inr (.inl (by rw [h1]))
      · exact .inr (.inr (.inr ⟨rfl, h1⟩))
    · exact .inr (.inr (.inl (UInt8.lt_iff_toNat_lt.2 h)))
theorem toList_eq' {a b : ByteArray} : a.toList = b.toList ↔ a = b := by
  rw [ByteArray.toList_eq, ByteArray.toList_eq]
  exact ⟨fun h => ByteArray.ext (Array.toList_inj.1 h), fun h => by rw [h]⟩
def ltB (a b : ByteArray) : Bool := Op.bytesLess a.toList b.toList
theorem ltB_irr (a : ByteArray) : ltB a a = false := ltL_irr _
theorem ltB_trans {a b c : ByteArray} (h : ltB a b = true) (h2 : ltB b c = true) : ltB a c = true := ltL_trans h h2
theorem ltB_tri (a b : ByteArray) : ltB a b = true ∨ a = b ∨ ltB b a = true := by
  rcases ltL_tri a.toList b.toList with h | h | h
  · exact .inl h
  · exact .inr (.inl (toList_eq'.1 h))
  · exact .inr (.inr h)
theorem ltB_asym {a b : ByteArray} (h : ltB a b = true) : ltB b a = false := by
  cases h2 : ltB b a with
  | false => rfl
  | true => have := ltB_trans h h2; rw [ltB_irr] at this; cases this
theorem ltB_ne {a b : ByteArray} (h : ltB a b = true) : a ≠ b := by
  intro e; subst e; rw [ltB_irr] at h; cases h
theorem leB_iff {a b : ByteArray} : leB a b = true ↔ ltB a b = true ∨ a = b := by
  unfold leB ltB
  rw [Bool.or_eq_true, beq_iff_eq, toList_eq']
theorem leB_not {a b : ByteArray} : leB a b = false ↔ ltB b a = true := by
  constructor
  · intro h
    have h1 : ¬ (ltB a b = true ∨ a = b) := fun e => by rw [← leB_iff, h] at e; cases e
    rcases ltB_tri a b with h2 | h2 | h2
    · exact absurd (.inl h2) h1
    · exact absurd (.inr h2) h1
    · exact h2
  · intro h
    cases h2 : leB a b with
    | false => rfl
    | true =>
      rcases leB_iff.1 h2 with h3 | h3
      · rw [ltB_asym h3] at h; cases h
      · subst h3; rw [ltB_irr] at h; cases h
theorem cmpL_lt : ∀ a b : List UInt8, Lib.compareBytes a b < 0 ↔ Op.bytesLess a b = true
  | [], [] => by simp [Lib.compareBytes, Op.bytesLess]
  | [], _ :: _ => by simp [Lib.compareBytes, Op.bytesLess]
  | _ :: _, [] => by simp [Lib.compareBytes, Op.bytesLess]
  | a :: r, b :: s => by
    have ih := cmpL_lt r s
    unfold Lib.compareBytes Op.bytesLess
    simp only [Bool.or_eq_true, decide_eq_true_eq, Bool.and_eq_true, beq_iff_eq]
    split
    · rename_i h; simp [h]
    · rename_i h
      split
      · rename_i h2
        simp only [h, false_or]
        constructor
        · intro h3; omega
        · rintro ⟨h3, _⟩; subst h3; exact absurd h2 (UInt8.lt_irrefl _)
      · rename_i h2
        have hab : a = b := by
          rw [UInt8.lt_iff_toNat_lt] at h h2
          exact UInt8.toNat_inj.1 (by omega)
        rw [ih]; simp [h, hab]
theorem cmpL_zero : ∀ a b : List UInt8, Lib.compareBytes a b = 0 ↔ a = b
  | [], [] => by simp [Lib.compareBytes]
  | [], _ :: _ => by simp [Lib.compareBytes]
  | _ :: _, [] => by simp [Lib.compareBytes]
  | x :: xs, y :: ys => by
    have ih := cmpL_zero xs ys
    unfold Lib.compareBytes
    split
    · rename_i h
      constructor
      · intro e; cases e
      · intro e; cases e; exact absurd h (UInt8.lt_irrefl x)
    · split
      · rename_i h
        constructor
        · intro e; cases e
        · intro e; cases e; exact absurd h (UInt8.lt_irrefl x)
      · rename_i h1 h2
        have hxy : x = y := by
          rw [UInt8.lt_iff_toNat_lt] at h1 h2
          exact UInt8.toNat_inj.1 (by omega)
        rw [ih, hxy]; simp
theorem cmp_lt {a b : ByteArray} : cmpS a b < 0 ↔ ltB a b = true := by
  unfold cmpS ltB; rw [cmpL_lt, ByteArray.toList_eq, ByteArray.toList_eq]
theorem cmp_zero {a b : ByteArray} : cmpS a b = 0 ↔ a = b := by
  unfold cmpS
  rw [cmpL_zero]
  exact ⟨fun h => ByteArray.ext (Array.toList_inj.1 h), fun h => by rw [h]⟩

instance lawB : LawfulBEq ByteArray where
  eq_of_beq {a b} h := by
    obtain ⟨x⟩ := a
    obtain ⟨y⟩ := b
    have : x = y := eq_of_beq (show (x == y) = true from h)
    rw [this]
  rfl {a} := by
    obtain ⟨x⟩ := a
    exact show (x == x) = true from beq_self_eq_true x

/-! keys that rise -/
section
variable {α : Type} {key : α → ByteArray}
def Rise (key : α → ByteArray) (l : List α) : Prop := l.Pairwise fun x y => ltB (key x) (key y) = true
theorem Rise.at {l : List α} (h : Rise key l) {i j : Nat} (hij : i < j) (hj : j < l.length) : ltB (key (l[i]'(by omega))) (key l[j]) = true := List.pairwise_iff_getElem.1 h i j (by omega) hj hij
/-- errors of a list, one behind another, with the key before -/
def seqErr (e : Bool → ByteArray → α → Int) (key : α → ByteArray) : Bool → ByteArray → List α → Int
  | _, _, [] => 0
  | f, b, x :: r => if e f b x = 0 then seqErr e key false (key x) r else e f b x
theorem seqErr_low {e : Bool → ByteArray → α → Int} (he : ∀ b x, e false b x = 0 → ltB b (key x) = true) : ∀ {l : List α} {b : ByteArray}, seqErr e key false b l = 0 → (∀ x ∈ l, ltB b (key x) = true) ∧ Rise key l
  | [], _, _ => ⟨by simp, List.Pairwise.nil⟩
  | x :: r, b, h => by
    simp only [seqErr] at h
    split at h
    · rename_i h0
      obtain ⟨h1, h2⟩ := seqErr_low he h
      have h3 := he b x h0
      refine ⟨?_, List.pairwise_cons.2 ⟨h1, h2⟩⟩
      intro y hy
      rcases List.mem_cons.1 hy with rfl | hy
      · exact h3
      · exact ltB_trans h3 (h1 y hy)
    · rename_i h0; exact absurd h h0
theorem seqErr_rise {e : Bool → ByteArray → α → Int} (he : ∀ b x, e false b x = 0 → ltB b (key x) = true) {l : List α} {f : Bool} {b : ByteArray} (h : seqErr e key f b l = 0) : Rise key l := by
  cases l with
  | nil => exact List.Pairwise.nil
  | cons x r =>
    simp only [seqErr] at h
    split at h
    · obtain ⟨h1, h2⟩ := seqErr_low he h
      exact List.pairwise_cons.2 ⟨h1, h2⟩
    · rename_i h0; exact absurd h h0
theorem seqErr_all {e : Bool → ByteArray → α → Int} : ∀ {l : List α} {f : Bool} {b : ByteArray}, seqErr e key f b l = 0 → ∀ x ∈ l, ∃ f b, e f b x = 0
  | [], _, _, _, x, hx => by simp at hx
  | y :: r, f, b, h, x, hx => by
    simp only [seqErr] at h
    split at h
    · rename_i h0
      rcases List.mem_cons.1 hx with rfl | hx
      · exact ⟨f, b, h0⟩
      · exact seqErr_all h x hx
    · rename_i h0; exact absurd h h0
theorem seqErr_drop {e : Bool → ByteArray → α → Int} {l : List α} {k : Nat} {f : Bool} {b : ByteArray} (h : k < l.length) : seqErr e key f b (l.drop k) = if e f b l[k] = 0 then seqErr e key false (key l[k]) (l.drop (k + 1)) else e f b l[k] := by
  rw [List.drop_eq_getElem_cons h, seqErr]
/-- the key before -/
def befK (key : α → ByteArray) (l : List α) (k : Nat) : ByteArray := if k = 0 then ⟨#[]⟩ else match l[k - 1]? with | some x => key x | none => ⟨#[]⟩
theorem befK_succ {l : List α} {k : Nat} (h : k < l.length) : befK key l (k + 1) = key l[k] := by
  unfold befK
  rw [if_neg (by omega), Nat.add_sub_cancel, List.getElem?_eq_getElem h]
theorem befK_pos {l : List α} {k : Nat} (h : k ≤ l.length) (h0 : 0 < k) : befK key l k = key (l[k - 1]'(by omega)) := by
  unfold befK
  rw [if_neg (by omega), List.getElem?_eq_getElem (show k - 1 < l.length by omega)]
end
theorem all_succ' {α : Type} {p : α → Bool} {l : List α} {k : Nat} {hk : k < l.length} (hi : ∀ i (h : i < l.length), i < k → p l[i] = false) (h : p l[k] = false) : ∀ i (h : i < l.length), i < k + 1 → p l[i] = false := by
  intro i hi1 hi2
  rcases Nat.lt_or_ge i k with h3 | h3
  · exact hi i hi1 h3
  · have : i = k := by omega
    subst this; exact h
/-! searching in two halves -/
def cntL {α : Type} (c : α → Int) (l : List α) : Nat := (l.takeWhile fun x => decide (c x < 0)).length
def hitL {α : Type} (c : α → Int) (l : List α) : Bool := match l[cntL c l]? with | some x => c x == 0 | none => false
theorem cntL_at {α : Type} {c : α → Int} : ∀ {l : List α} {i : Nat}, i ≤ l.length → (∀ k (h : k < l.length), k < i → c l[k] < 0) → (∀ k (h : k < l.length), i ≤ k → ¬ c l[k] < 0) → cntL c l = i
  | [], i, hi, _, _ => by simp at hi; subst hi; rfl
  | a :: r, i, hi, h1, h2 => by
    unfold cntL
    cases i with
    | zero =>
      have := h2 0 (by simp) (Nat.le_refl _)
      simp only [List.getElem_cons_zero] at this
      simp [List.takeWhile_cons, this]
    | succ i =>
      have h3 := h1 0 (by simp) (by omega)
      simp only [List.getElem_cons_zero] at h3
      have ih := cntL_at (c := c) (l := r) (i := i) (by simpa using hi) (fun k hk hki => by have := h1 (k + 1) (by simpa using hk) (by omega); simpa using this) (fun k hk hki => by have := h2 (k + 1) (by simpa using hk) (by omega); simpa using this)
      simp only [List.takeWhile_cons, h3, decide_true, if_true, List.length_cons]
      unfold cntL at ih
      rw [ih]
theorem mid_eq {i j : Nat} (h : i + j ≤ 4000000) : IntKind.i64.wrap (shV .shr .u64 (IntKind.u64.wrap (IntKind.i64.wrap ((i : Int) + (j : Int)))) 1) = (((i + j) / 2 : Nat) : Int) := by
  have e1 : IntKind.i64.wrap ((i : Int) + (j : Int)) = ((i + j : Nat) : Int) := by rw [wrap_in (by omega) (by omega)]; omega
  have e2 : IntKind.u64.wrap ((i + j : Nat) : Int) = ((i + j : Nat) : Int) := IntWalk.u64_in _ ⟨by omega, by omega⟩
  rw [e1, e2]
  have e3 : shV .shr .u64 ((i + j : Nat) : Int) 1 = (((i + j) / 2 : Nat) : Int) := by
    show Int.fdiv ((i + j : Nat) : Int) 2 = _
    rw [Int.fdiv_eq_ediv_of_nonneg _ (by omega)]; omega
  rw [e3, wrap_in (by omega) (by omega)]
theorem cntL_cons {α : Type} (c : α → Int) (a : α) (r : List α) : cntL c (a :: r) = if c a < 0 then cntL c r + 1 else 0 := by
  unfold cntL
  rw [List.takeWhile_cons]
  by_cases h : c a < 0 <;> simp [h]
theorem find_rise {α : Type} {key : α → ByteArray} {c : α → Int} {k : ByteArray} (hc : ∀ x, (c x < 0 ↔ ltB (key x) k = true) ∧ (c x = 0 ↔ key x = k)) : ∀ {l : List α}, Rise key l → (l.find? fun x => decide (key x = k)) = if hitL c l then l[cntL c l]? else none
  | [], _ => by simp [hitL, cntL]
  | a :: r, h => by
    obtain ⟨h1, h2⟩ := List.pairwise_cons.1 h
    have ih := find_rise hc h2
    by_cases ha : c a < 0
    · have hne : ¬ key a = k := fun e => by have := (hc a).2.2 e; omega
      have hh : hitL c (a :: r) = hitL c r := by unfold hitL; rw [cntL_cons, if_pos ha, List.getElem?_cons_succ]
      rw [List.find?_cons, hh, cntL_cons, if_pos ha, List.getElem?_cons_succ, ← ih]
      simp [hne]
    · have hh : hitL c (a :: r) = (c a == 0) := by unfold hitL; rw [cntL_cons, if_neg ha]; rfl
      rw [List.find?_cons, hh, cntL_cons, if_neg ha]
      by_cases h0 : c a = 0
      · simp [(hc a).2.1 h0, h0]
      · have hne : ¬ key a = k := fun e => h0 ((hc a).2.2 e)
        have hlt : ltB k (key a) = true := by
          rcases ltB_tri (key a) k with h3 | h3 | h3
          · exact absurd ((hc a).1.2 h3) ha
          · exact absurd h3 hne
          · exact h3
        have hn : r.find? (fun x => decide (key x = k)) = none := by
          rw [List.find?_eq_none]
          intro x hx
          have h3 := ltB_trans hlt (h1 x hx)
          simpa using (ltB_ne h3).symm
        simp [hne, h0, hn]
theorem rise_mono {α : Type} {key : α → ByteArray} {c : α → Int} {k : ByteArray} (hc : ∀ x, c x < 0 ↔ ltB (key x) k = true) {l : List α} (h : Rise key l) : ∀ i j (hj : j < l.length) (hij : i ≤ j), c l[j] < 0 → c (l[i]'(by omega)) < 0 := by
  intro i j hj hij hlt
  rcases Nat.lt_or_ge i j with h1 | h1
  · exact (hc _).2 (ltB_trans (h.at h1 hj) ((hc _).1 hlt))
  · have : i = j := by omega
    subst this; exact hlt
theorem rise_nodup {α : Type} {key : α → ByteArray} {l : List α} (h : Rise key l) : (l.map key).Nodup := by
  rw [List.Nodup, List.pairwise_map]
  exact h.imp fun h => ltB_ne h
/-- what is found is there once -/
theorem rise_find {α : Type} {key : α → ByteArray} {l : List α} (h : Rise key l) {x : α} (hx : x ∈ l) : (l.find? fun y => decide (key y = key x)) = some x := by
  induction l with
  | nil => simp at hx
  | cons a r ih =>
    obtain ⟨h1, h2⟩ := List.pairwise_cons.1 h
    rw [List.find?_cons]
    rcases List.mem_cons.1 hx with rfl | hx
    · simp
    · have := ltB_ne (h1 x hx)
      simp [this, ih h2 hx]
end Go.Proofs.YtlifcpcfhkpejaaGreat

/- Ducts and cables in them: what is computed, as functions on lists. -/
namespace Go.Proofs.YtlifcpcfhkpejaaGreat
set_option linter.unusedVariables false
set_option linter.unusedSimpArgs false
open Abs

structure Du where
  key : ByteArray
  a : ByteArray
  b : ByteArray
  long : Int
  inner : Int
def encDu (x : Du) : List V := [.str x.key, .str x.a, .str x.b, .int .i64 x.long, .int .i64 x.inner]
structure Ly where
  cable : ByteArray
  outer : Int
  ducts : List ByteArray
def encLy (x : Ly) : List V := [.str x.cable, .int .i64 x.outer, .lst 1 (x.ducts.map encS)]

def keyErr (has : ByteArray → Bool) (first : Bool) (before k : ByteArray) : Int := if !has k then 8 else if !first && leB k before then 7 else 0
def duErr (first : Bool) (before : ByteArray) (x : Du) : Int :=
  if !keyB x.key || !keyB x.a || !keyB x.b then 5 else if x.a = x.b then 6 else if x.long < 1 ∨ 200000 < x.long ∨ x.inner < 1 ∨ 1000 < x.inner then 1 else if !first && leB x.key before then 7 else 0
def duFault (l : List Du) : Int := if 300 < l.length then 2 else seqErr duErr Du.key true ⟨#[]⟩ l
def duAt (d : List Du) (k : ByteArray) : Option Du := d.find? fun x => decide (x.key = k)
def du0 : Du := ⟨⟨#[]⟩, ⟨#[]⟩, ⟨#[]⟩, 0, 0⟩
def duG (d : List Du) (k : ByteArray) : Du := (duAt d k).getD du0
def hasD (d : List Du) (k : ByteArray) : Bool := (duAt d k).isSome
def cabErr (d : List Du) (x : Ly) : Int :=
  if x.outer < 1 ∨ 1000 < x.outer then 1 else if x.ducts.length = 0 then 8 else if 300 < x.ducts.length then 2 else seqErr (keyErr (hasD d)) id true ⟨#[]⟩ x.ducts
def lyErr (d : List Du) (first : Bool) (before : ByteArray) (x : Ly) : Int :=
  if !keyB x.cable then 5 else if !first && leB x.cable before then 7 else cabErr d x
def lysErr (d : List Du) (l : List Ly) : Int := seqErr (lyErr d) Ly.cable true ⟨#[]⟩ l
def inL (l : List Ly) (k : ByteArray) : List Ly := l.filter fun x => decide (k ∈ x.ducts)
def fullL (d : List Du) (l : List Ly) : Bool := d.any fun x => decide (20 < (inL l x.key).length)
def lyFault (d : List Du) (l : List Ly) : Int := if duFault d ≠ 0 then duFault d else if 300 < l.length then 2 else if lysErr d l ≠ 0 then lysErr d l else if fullL d l then 12 else 0

structure DuOk (d : List Du) : Prop where
  rise : Rise Du.key d
  len : d.length ≤ 300
  each : ∀ x ∈ d, keyB x.key = true ∧ 1 ≤ x.long ∧ x.long ≤ 200000 ∧ 1 ≤ x.inner ∧ x.inner ≤ 1000
theorem duErr_ok {f : Bool} {b : ByteArray} {x : Du} (h : duErr f b x = 0) : keyB x.key = true ∧ 1 ≤ x.long ∧ x.long ≤ 200000 ∧ 1 ≤ x.inner ∧ x.inner ≤ 1000 ∧ (f = false → ltB b x.key = true) := by
  unfold duErr at h
  split at h
  · omega
  · split at h
    · omega
    · split at h
      · omega
      · split at h
        · omega
        · rename_i h1 h2 h3 h4
          simp only [Bool.or_eq_true, Bool.not_eq_true', not_or, Bool.not_eq_false] at h1
          refine ⟨h1.1.1, by omega, by omega, by omega, by omega, fun hf => ?_⟩
          subst hf
          simp at h4
          exact leB_not.1 h4
theorem duFault_ok {d : List Du} (h : duFault d = 0) : DuOk d := by
  unfold duFault at h
  split at h
  · omega
  · refine ⟨seqErr_rise (fun b x hx => (duErr_ok hx).2.2.2.2.2 rfl) h, by omega, fun x hx => ?_⟩
    obtain ⟨f, b, h1⟩ := seqErr_all h x hx
    have := duErr_ok h1
    exact ⟨this.1, this.2.1, this.2.2.1, this.2.2.2.1, this.2.2.2.2.1⟩
theorem hasD_iff {d : List Du} {k : ByteArray} : hasD d k = true ↔ ∃ x ∈ d, x.key = k := by
  unfold hasD duAt
  rw [List.find?_isSome]; simp
theorem duAt_mem {d : List Du} (h : DuOk d) {x : Du} (hx : x ∈ d) : duAt d x.key = some x := rise_find h.rise hx
theorem duG_mem {d : List Du} (h : DuOk d) {x : Du} (hx : x ∈ d) : duG d x.key = x := by unfold duG; rw [duAt_mem h hx]; rfl
theorem keyErr_ok {has : ByteArray → Bool} {f : Bool} {b k : ByteArray} (h : keyErr has f b k = 0) : has k = true ∧ (f = false → ltB b k = true) := by
  unfold keyErr at h
  split at h
  · omega
  · split at h
    · omega
    · rename_i h1 h2
      refine ⟨by simpa using h1, fun hf => ?_⟩
      subst hf
      simp at h2
      exact leB_not.1 h2
structure LyX (d : List Du) (x : Ly) : Prop where
  out : 1 ≤ x.outer ∧ x.outer ≤ 1000
  len : x.ducts.length ≤ 300
  rise : Rise id x.ducts
  has : ∀ k ∈ x.ducts, hasD d k = true
theorem lyErr_ok {d : List Du} {f : Bool} {b : ByteArray} {x : Ly} (h : lyErr d f b x = 0) : LyX d x ∧ keyB x.cable = true ∧ (f = false → ltB b x.cable = true) := by
  unfold lyErr cabErr at h
  split at h
  · omega
  · split at h
    · omega
    · split at h
      · omega
      · split at h
        · omega
        · split at h
          · omega
          · rename_i h1 h2 h3 h4 h5
            refine ⟨⟨by omega, by omega, seqErr_rise (fun b k hk => (keyErr_ok hk).2 rfl) h, fun k hk => ?_⟩, by simpa using h1, fun hf => ?_⟩
            · obtain ⟨f, b, h1⟩ := seqErr_all h k hk
              exact (keyErr_ok h1).1
            · subst hf
              simp at h2
              exact leB_not.1 h2
structure LyOk (d : List Du) (l : List Ly) : Prop where
  du : DuOk d
  len : l.length ≤ 300
  rise : Rise Ly.cable l
  each : ∀ x ∈ l, LyX d x
  few : ∀ x ∈ d, (inL l x.key).length ≤ 20
theorem lysErr_ok {d : List Du} {l : List Ly} (h : lysErr d l = 0) : Rise Ly.cable l ∧ ∀ x ∈ l, LyX d x := by
  refine ⟨seqErr_rise (fun b x hx => (lyErr_ok hx).2.2 rfl) h, fun x hx => ?_⟩
  obtain ⟨f, b, h1⟩ := seqErr_all h x hx
  exact (lyErr_ok h1).1
theorem lyFault_ok {d : List Du} {l : List Ly} (h : lyFault d l = 0) : LyOk d l := by
  unfold lyFault at h
  split at h
  · omega
  · split at h
    · omega
    · split at h
      · omega
      · split at h
        · omega
        · rename_i h1 h2 h3 h4
          obtain ⟨h5, h6⟩ := lysErr_ok (show lysErr d l = 0 by omega)
          refine ⟨duFault_ok (by omega), by omega, h5, h6, fun x hx => ?_⟩
          unfold fullL at h4
          rw [List.any_eq_true] at h4
          rcases Nat.lt_or_ge 20 (inL l x.key).length with h7 | h7
          · exact absurd ⟨x, hx, by simpa using h7⟩ h4
          · exact h7
/-- the keys one behind another are counted -/
theorem count_nd {k : ByteArray} : ∀ {l : List ByteArray}, l.Nodup → l.count k = if k ∈ l then 1 else 0
  | [], _ => by simp
  | a :: r, h => by
    obtain ⟨h1, h2⟩ := List.nodup_cons.1 h
    rw [List.count_cons, count_nd h2]
    by_cases e : a = k
    · subst e; simp [h1]
    · have e' : ¬ k = a := fun x => e x.symm
      simp [e, e']
theorem flat_count {d : List Du} {k : ByteArray} : ∀ {l : List Ly}, (∀ x ∈ l, LyX d x) → (l.flatMap Ly.ducts).count k = (inL l k).length
  | [], _ => by simp [inL]
  | a :: r, h => by
    have ih := flat_count (k := k) (l := r) (fun x hx => h x (by simp [hx]))
    have hn : a.ducts.Nodup := by have := rise_nodup (h a (by simp)).rise; simpa using this
    rw [List.flatMap_cons, List.count_append, ih, count_nd hn]
    unfold inL
    rw [List.filter_cons]
    by_cases e : k ∈ a.ducts <;> simp [e]; omega
def manyB (ks : List ByteArray) : Bool := ks.any fun k => decide (20 < ks.count k)
theorem many_full {d : List Du} {l : List Ly} (h : ∀ x ∈ l, LyX d x) : manyB (l.flatMap Ly.ducts) = fullL d l := by
  rw [Bool.eq_iff_iff]
  unfold manyB fullL
  rw [List.any_eq_true, List.any_eq_true]
  constructor
  · rintro ⟨k, hk, h1⟩
    obtain ⟨x, hx, hkx⟩ := List.mem_flatMap.1 hk
    obtain ⟨y, hy, rfl⟩ := hasD_iff.1 ((h x hx).has k hkx)
    refine ⟨y, hy, ?_⟩
    rw [flat_count h] at h1; exact h1
  · rintro ⟨x, hx, h1⟩
    rw [← flat_count h] at h1
    have h2 : 20 < (l.flatMap Ly.ducts).count x.key := by simpa using h1
    exact ⟨x.key, List.count_pos_iff.1 (by omega), h1⟩
theorem many_push (ks : List ByteArray) (k : ByteArray) : manyB (ks ++ [k]) = (manyB ks || decide (20 < ks.count k + 1)) := by
  rw [Bool.eq_iff_iff, Bool.or_eq_true]
  unfold manyB
  rw [List.any_eq_true, List.any_eq_true]
  simp only [decide_eq_true_eq, List.count_append]
  constructor
  · rintro ⟨x, hx, h⟩
    by_cases e : x = k
    · subst e; right; simpa using h
    · left
      have : [k].count x = 0 := by rw [List.count_eq_zero]; simpa using e
      rw [this] at h
      refine ⟨x, ?_, by omega⟩
      exact List.count_pos_iff.1 (by omega)
  · rintro (⟨x, hx, h⟩ | h)
    · exact ⟨x, by simp [hx], by omega⟩
    · exact ⟨k, by simp, by simpa using h⟩

/-! sums -/
theorem sum_take {α : Type} (f : α → Int) (l : List α) (k : Nat) (h : k < l.length) : ((l.take (k + 1)).map f).sum = ((l.take k).map f).sum + f l[k] := by
  rw [List.take_succ_eq_append_getElem h, List.map_append, List.sum_append]; simp
theorem sum_in {α : Type} {f : α → Int} {B : Int} : ∀ {l : List α}, (∀ x ∈ l, 0 ≤ f x ∧ f x ≤ B) → 0 ≤ (l.map f).sum ∧ (l.map f).sum ≤ B * l.length
  | [], _ => by simp
  | x :: r, h => by
    have h1 := h x (by simp)
    have ih := sum_in (l := r) (fun y hy => h y (by simp [hy]))
    simp only [List.map_cons, List.sum_cons, List.length_cons]
    have : B * ((r.length + 1 : Nat) : Int) = B * r.length + B := by rw [Int.natCast_add, Int.mul_add]; simp
    omega
def sqV (l : List Int) : Int := (l.map fun x => x * x).sum
def partV (n : Nat) : Int := if n = 1 then 53 else if n = 2 then 31 else 40
def roomB (inner : Int) (l : List Int) : Bool := decide (100 * sqV l ≤ partV l.length * inner * inner) && !(l.any fun n => decide (inner < n))
def mostV (inner : Int) (all : List Int) (outer : Int) : Nat → Nat
  | 0 => 0
  | n + 1 => if roomB inner (all ++ List.replicate (n + 1) outer) then n + 1 else mostV inner all outer n
theorem sq_in {l : List Int} (h : ∀ x ∈ l, 0 ≤ x ∧ x ≤ 1000) : 0 ≤ sqV l ∧ sqV l ≤ 1000000 * l.length := by
  refine sum_in fun x hx => ?_
  have := h x hx
  exact ⟨Int.mul_nonneg this.1 this.1, by have := Int.mul_le_mul this.2 this.2 this.1 (by omega : (0 : Int) ≤ 1000); omega⟩
def outV (l : List Ly) (k : ByteArray) : List Int := (inL l k).map Ly.outer
end Go.Proofs.YtlifcpcfhkpejaaGreat

/- Plans: what is left on drums, by the abstract walk. -/
namespace Go.Proofs.YtlifcpcfhkpejaaGreat
set_option linter.unusedVariables false
set_option linter.unusedSimpArgs false
open Abs

/-- the index of the first one for which something is so -/
def idxP {α : Type} (p : α → Bool) (l : List α) : Int := if l.any p then (l.findIdx p : Int) else -1
theorem idxP_hit {α : Type} {p : α → Bool} {l : List α} {k : Nat} (hk : k < l.length) (h : ∀ i (hi : i < k), p (l[i]'(by omega)) = false) (hp : p l[k] = true) : idxP p l = k := by
  have h1 : l.any p = true := List.any_eq_true.2 ⟨_, List.getElem_mem hk, hp⟩
  have h2 : l.findIdx p = k := by
    rw [List.findIdx_eq hk]
    exact ⟨hp, fun j hj => by simpa using h j hj⟩
  rw [idxP, if_pos h1, h2]
theorem idxP_miss {α : Type} {p : α → Bool} {l : List α} (h : ∀ i (hi : i < l.length), p l[i] = false) : idxP p l = -1 := by
  have h1 : ¬ l.any p = true := by
    rw [List.any_eq_true]
    rintro ⟨x, hx, hp⟩
    obtain ⟨i, hi, rfl⟩ := List.getElem_of_mem hx
    rw [h i hi] at hp; cases hp
  rw [idxP, if_neg h1]
theorem idxP_any {α : Type} (p : α → Bool) (l : List α) : decide (0 ≤ idxP p l) = l.any p := by
  unfold idxP
  cases l.any p <;> simp
end Go.Proofs.YtlifcpcfhkpejaaGreat

/- Ducts and cables in them: lists searched. -/
namespace Go.Proofs.YtlifcpcfhkpejaaGreat
set_option linter.unusedVariables false
set_option linter.unusedSimpArgs false
open Abs

def isStr (t : S) : Prop := ∃ key : ByteArray, t = .c (.str key)
set_option maxRecDepth 100000 in
set_option maxHeartbeats 4000000 in
theorem bsDu_pc (g : Nat) (c : Du → Int) (t : S) (l : List Du) (hl : l.length ≤ 1000000) (hmono : ∀ i j (hj : j < l.length) (hij : i ≤ j), c l[j] < 0 → c (l[i]'(by omega)) < 0) (ht : isStr t) (hg : ∀ x ∈ l, PCp g [.agg (encDu x), t] [] (.c (.int .i64 (c x))) []) :
    PCp 111 [.c (.lst 5 (l.map encDu)), t, .c (.fn g [])] [] (.tup [.c (.int .i64 ((cntL c l : Nat) : Int)), .c (.bool (hitL c l))]) [] := by
  have hlm : (l.map encDu).length = l.length := List.length_map ..
  obtain ⟨key, rfl⟩ := ht
  refine fn_sound (mt := mts) tab_fits tab_mixed Tryz.func111 (by rfl) (by kernel_rfl) (by kernel_rfl) Tryz.results111 (Nat.le_of_ble_eq_true (by kernel_rfl)) ?_
  conv => whnf
  refine loop_meas2 (fun (i : Nat) (j : Nat) => j - i) [] [0, 1, 2, 8, 9, 10] (fun (i : Nat) (j : Nat) => ⟨[(0, .c (.lst 5 (l.map encDu))), (1, .c (.str key)), (2, .c (.fn g [])), (8, .c (.int .i64 (l.map encDu).length)), (9, .c (.int .i64 ((i : Nat) : Int))), (10, .c (.int .i64 ((j : Nat) : Int)))], [], 0⟩) (fun (i : Nat) (j : Nat) => i ≤ j ∧ j ≤ l.length ∧ (∀ k (h : k < l.length), k < i → c l[k] < 0) ∧ (∀ k (h : k < l.length), j ≤ k → ¬ c l[k] < 0)) (0) (l.length) ?_ ?_
  · conv => whnf
    exact ⟨by rw [hlm]; rfl, Nat.zero_le _, Nat.le_refl _, by intro k h h2; omega, by intro k h h2; omega⟩
  · intro i j ⟨h1, h2, h3, h4⟩
    have hmid := mid_eq (i := i) (j := j) (by omega)
    conv => whnf
    repeat' (first | ((first | refine Split.mk (fun h => ?_) (fun h => ?_) | refine CondG.mk (fun h => ?_) (fun h => ?_)) <;> (try simp only [decide_eq_true_eq, decide_eq_false_iff_not, Bool.not_eq_true', Bool.not_eq_false', beq_iff_eq, beq_eq_false_iff_ne, bne_iff_ne, bne_eq_false_iff_eq] at h) <;> (first | (exfalso; first | omega | exact h trivial) | (conv => whnf))) | (refine Ask.mk (by first | omega | (unfold roomOK; simp [cutRows]; done) | (unfold roomOK; simp [cutRows]; omega) | (simp [cutRows]; done) | (simp [cutRows]; omega)) ?_; conv => whnf) | (refine AppG.mk (by first | omega | (unfold roomOK; simp [cutRows]; done) | (unfold roomOK; simp [cutRows]; omega) | (simp [cutRows]; done) | (simp [cutRows]; omega)) ?_; conv => whnf) | (refine SliceG.fr ?_; conv => whnf) | (refine idx_at _ (by with_reducible rfl) (by first | assumption | omega) ?_; conv => whnf) | ((with_reducible refine row_map (by first | assumption | omega) ?_); conv => whnf) | ((with_reducible refine row_set (by first | assumption | omega | (simp only [List.length_set]; omega) | (simp; omega)) ?_); conv => whnf) | fail)
    · rw [hmid]
      refine idx_map ((i + j) / 2) (by omega) rfl ?_
      conv => whnf
      repeat' (first | ((first | refine Split.mk (fun h => ?_) (fun h => ?_) | refine CondG.mk (fun h => ?_) (fun h => ?_)) <;> (try simp only [decide_eq_true_eq, decide_eq_false_iff_not, Bool.not_eq_true', Bool.not_eq_false', beq_iff_eq, beq_eq_false_iff_ne] at h) <;> (first | (exfalso; first | omega | exact h trivial) | (conv => whnf))) | (refine CallX.mk _ _ (by first | exact hg (l[(i + j) / 2]'(by omega)) (List.getElem_mem _)) ?_; conv => whnf) | (refine CallG.mk _ _ (by first | exact hg (l[(i + j) / 2]'(by omega)) (List.getElem_mem _)) ?_; conv => whnf) | (refine Ask.mk (by first | omega | (unfold roomOK; simp [cutRows]; done) | (unfold roomOK; simp [cutRows]; omega)) ?_; conv => whnf) | (refine AppG.mk (by first | omega | (unfold roomOK; simp [cutRows]; done) | (unfold roomOK; simp [cutRows]; omega)) ?_; conv => whnf) | (refine SliceG.fr ?_; conv => whnf) | fail)
      · exact meas_next ((i + j) / 2 + 1, j) (by simp only; omega) (by rw [wrap_succ (n := l.length) (by omega) (by omega)]; rfl) ⟨by simp only; omega, h2, fun k hk hki => hmono k ((i + j) / 2) (by omega) (by simp only at hki; omega) h, h4⟩
      · exact meas_next (i, (i + j) / 2) (by simp only; omega) rfl ⟨by simp only; omega, by simp only; omega, h3, fun k hk hki => fun hc => h (hmono ((i + j) / 2) k hk hki hc)⟩
    all_goals
      have hij : i = j := by omega
      subst hij
      have hci : cntL c l = i := cntL_at h2 h3 h4
    · repeat' (first
        | (refine Split.mk (fun h => ?_) (fun h => ?_) <;> (try simp only [decide_eq_true_eq, decide_eq_false_iff_not, Bool.not_eq_true', Bool.not_eq_false', beq_iff_eq, beq_eq_false_iff_ne, bne_iff_ne, bne_eq_false_iff_eq] at h) <;> (first | (exfalso; first | omega | exact h trivial) | (conv => whnf)))
        | (refine CondG.mk (fun h => ?_) (fun h => ?_) <;> (try simp only [decide_eq_true_eq, decide_eq_false_iff_not, Bool.not_eq_true', Bool.not_eq_false', beq_iff_eq, beq_eq_false_iff_ne, bne_iff_ne, bne_eq_false_iff_eq] at h) <;> (first | (exfalso; first | omega | exact h trivial) | (conv => whnf)))
        | (refine CallX.mk _ _ (by first | exact hg (l[i]'(by omega)) (List.getElem_mem _)) ?_; conv => whnf)
        | (refine CallG.mk _ _ (by first | exact hg (l[i]'(by omega)) (List.getElem_mem _)) ?_; conv => whnf)
        | (refine Ask.mk (by first | omega | (unfold roomOK; simp [cutRows]; done) | (unfold roomOK; simp [cutRows]; omega) | (simp [cutRows]; done) | (simp [cutRows]; omega)) ?_; conv => whnf)
        | (refine AppG.mk (by first | omega | (unfold roomOK; simp [cutRows]; done) | (unfold roomOK; simp [cutRows]; omega) | (simp [cutRows]; done) | (simp [cutRows]; omega)) ?_; conv => whnf)
        | (refine SliceG.fr ?_; conv => whnf)
        | (refine idx_at _ (by with_reducible rfl) (by first | assumption | omega) ?_; conv => whnf)
        | ((with_reducible refine row_map (by first | assumption | omega) ?_); conv => whnf)
        | ((with_reducible refine row_set (by first | assumption | omega | (simp only [List.length_set]; omega) | (simp; omega)) ?_); conv => whnf)
        | fail)
      exact .mk ⟨by rw [hitL, hci, List.getElem?_eq_getElem (show i < l.length by omega)]; rfl, rfl⟩
    · exact .mk ⟨by rw [hitL, hci, List.getElem?_eq_none (show l.length ≤ i by omega)]; rfl, rfl⟩
end Go.Proofs.YtlifcpcfhkpejaaGreat

/- Strings searched in two halves; lists copied. -/
namespace Go.Proofs.YtlifcpcfhkpejaaGreat
set_option linter.unusedVariables false
set_option linter.unusedSimpArgs false
open Abs

set_option maxRecDepth 100000 in
set_option maxHeartbeats 4000000 in
theorem isNaNS_pc (s : ByteArray) : PCp 135 [.c (.str s)] [] (.c (.bool false)) [] := by
  refine fn_sound (mt := mts) tab_fits tab_mixed Tryz.func135 (by rfl) (by kernel_rfl) (by kernel_rfl) Tryz.results135 (Nat.le_of_ble_eq_true (by kernel_rfl)) ?_
  conv => whnf
  exact finb (by simp)
set_option maxRecDepth 100000 in
set_option maxHeartbeats 4000000 in
theorem cisNaNS_pc (s : ByteArray) : PCp 147 [.c (.str s)] [] (.c (.bool false)) [] := by
  refine fn_sound (mt := mts) tab_fits tab_mixed Tryz.func147 (by rfl) (by kernel_rfl) (by kernel_rfl) Tryz.results147 (Nat.le_of_ble_eq_true (by kernel_rfl)) ?_
  conv => whnf
  exact finb (by simp)
set_option maxRecDepth 100000 in
set_option maxHeartbeats 4000000 in
theorem lessS_pc (a b : ByteArray) : PCp 134 [.c (.str a), .c (.str b)] [] (.c (.bool (ltB a b))) [] := by
  refine fn_sound (mt := mts) tab_fits tab_mixed Tryz.func134 (by rfl) (by kernel_rfl) (by kernel_rfl) Tryz.results134 (Nat.le_of_ble_eq_true (by kernel_rfl)) ?_
  conv => whnf
  repeat' (first | ((first | refine Split.mk (fun h => ?_) (fun h => ?_) | refine CondG.mk (fun h => ?_) (fun h => ?_)) <;> (try simp only [decide_eq_true_eq, decide_eq_false_iff_not, Bool.not_eq_true', Bool.not_eq_false', beq_iff_eq, beq_eq_false_iff_ne, bne_iff_ne, bne_eq_false_iff_eq] at h) <;> (first | (exfalso; first | omega | exact h trivial) | (conv => whnf))) | (refine CallX.mk _ _ (by first | exact cisNaNS_pc _) ?_; conv => whnf) | (refine CallG.mk _ _ (by first | exact cisNaNS_pc _) ?_; conv => whnf) | (refine Ask.mk (by first | omega | (unfold roomOK; simp [cutRows]; done) | (unfold roomOK; simp [cutRows]; omega) | (simp [cutRows]; done) | (simp [cutRows]; omega)) ?_; conv => whnf) | (refine AppG.mk (by first | omega | (unfold roomOK; simp [cutRows]; done) | (unfold roomOK; simp [cutRows]; omega) | (simp [cutRows]; done) | (simp [cutRows]; omega)) ?_; conv => whnf) | (refine SliceG.fr ?_; conv => whnf) | (refine idx_at _ (by with_reducible rfl) (by first | assumption | omega) ?_; conv => whnf) | ((with_reducible refine row_map (by first | assumption | omega) ?_); conv => whnf) | ((with_reducible refine row_set (by first | assumption | omega | (simp only [List.length_set]; omega) | (simp; omega)) ?_); conv => whnf) | fail)
  all_goals exact finb (by simp_all [ltB])
/-- how many are less, and whether the next one is it -/
def cntS (t : ByteArray) (l : List ByteArray) : Nat := cntL (fun x => if ltB x t then -1 else if x.toList = t.toList then 0 else 1) l
def hitS (t : ByteArray) (l : List ByteArray) : Bool := hitL (fun x => if ltB x t then -1 else if x.toList = t.toList then 0 else 1) l
set_option maxRecDepth 100000 in
set_option maxHeartbeats 4000000 in
theorem binS_pc (t : ByteArray) (l : List ByteArray) (hl : l.length ≤ 1000000) (hmono : ∀ i j (hj : j < l.length) (hij : i ≤ j), ltB l[j] t = true → ltB (l[i]'(by omega)) t = true) :
    PCp 105 [.c (.lst 1 (l.map encS)), .c (.str t)] [] (.tup [.c (.int .i64 ((cntS t l : Nat) : Int)), .c (.bool (hitS t l))]) [] := by
  have hlm : (l.map encS).length = l.length := List.length_map ..
  have hc : ∀ x : ByteArray, (if ltB x t then (-1 : Int) else if x.toList = t.toList then 0 else 1) < 0 ↔ ltB x t = true := by
    intro x; split
    · simp_all
    · split <;> simp_all
  refine fn_sound (mt := mts) tab_fits tab_mixed Tryz.func105 (by rfl) (by kernel_rfl) (by kernel_rfl) Tryz.results105 (Nat.le_of_ble_eq_true (by kernel_rfl)) ?_
  conv => whnf
  refine loop_meas2 (fun (i : Nat) (j : Nat) => j - i) [] [0, 1, 6, 7, 8] (fun (i : Nat) (j : Nat) => ⟨[(0, .c (.lst 1 (l.map encS))), (1, .c (.str t)), (6, .c (.int .i64 (l.map encS).length)), (7, .c (.int .i64 ((i : Nat) : Int))), (8, .c (.int .i64 ((j : Nat) : Int)))], [], 0⟩) (fun (i : Nat) (j : Nat) => i ≤ j ∧ j ≤ l.length ∧ (∀ k (h : k < l.length), k < i → ltB l[k] t = true) ∧ (∀ k (h : k < l.length), j ≤ k → ¬ ltB l[k] t = true)) (0) (l.length) ?_ ?_
  · conv => whnf
    exact ⟨by rw [hlm]; rfl, Nat.zero_le _, Nat.le_refl _, by intro k h h2; omega, by intro k h h2; omega⟩
  · intro i j ⟨h1, h2, h3, h4⟩
    have hmid := mid_eq (i := i) (j := j) (by omega)
    conv => whnf
    repeat' (first | ((first | refine Split.mk (fun h => ?_) (fun h => ?_) | refine CondG.mk (fun h => ?_) (fun h => ?_)) <;> (try simp only [decide_eq_true_eq, decide_eq_false_iff_not, Bool.not_eq_true', Bool.not_eq_false', beq_iff_eq, beq_eq_false_iff_ne, bne_iff_ne, bne_eq_false_iff_eq] at h) <;> (first | (exfalso; first | omega | exact h trivial) | (conv => whnf))) | (refine Ask.mk (by first | omega | (unfold roomOK; simp [cutRows]; done) | (unfold roomOK; simp [cutRows]; omega) | (simp [cutRows]; done) | (simp [cutRows]; omega)) ?_; conv => whnf) | (refine AppG.mk (by first | omega | (unfold roomOK; simp [cutRows]; done) | (unfold roomOK; simp [cutRows]; omega) | (simp [cutRows]; done) | (simp [cutRows]; omega)) ?_; conv => whnf) | (refine SliceG.fr ?_; conv => whnf) | (refine idx_at _ (by with_reducible rfl) (by first | assumption | omega) ?_; conv => whnf) | ((with_reducible refine row_map (by first | assumption | omega) ?_); conv => whnf) | ((with_reducible refine row_set (by first | assumption | omega | (simp only [List.length_set]; omega) | (simp; omega)) ?_); conv => whnf) | fail)
    · rw [hmid]
      refine idx_map ((i + j) / 2) (by omega) rfl ?_
      conv => whnf
      repeat' (first | ((first | refine Split.mk (fun h => ?_) (fun h => ?_) | refine CondG.mk (fun h => ?_) (fun h => ?_)) <;> (try simp only [decide_eq_true_eq, decide_eq_false_iff_not, Bool.not_eq_true', Bool.not_eq_false', beq_iff_eq, beq_eq_false_iff_ne] at h) <;> (first | (exfalso; first | omega | exact h trivial) | (conv => whnf))) | (refine CallX.mk _ _ (by first | exact lessS_pc _ _) ?_; conv => whnf) | (refine CallG.mk _ _ (by first | exact lessS_pc _ _) ?_; conv => whnf) | (refine Ask.mk (by first | omega | (unfold roomOK; simp [cutRows]; done) | (unfold roomOK; simp [cutRows]; omega)) ?_; conv => whnf) | (refine AppG.mk (by first | omega | (unfold roomOK; simp [cutRows]; done) | (unfold roomOK; simp [cutRows]; omega)) ?_; conv => whnf) | (refine SliceG.fr ?_; conv => whnf) | fail)
      · exact meas_next ((i + j) / 2 + 1, j) (by simp only; omega) (by rw [wrap_succ (n := l.length) (by omega) (by omega)]; rfl) ⟨by simp only; omega, h2, fun k hk hki => hmono k ((i + j) / 2) (by omega) (by simp only at hki; omega) h, h4⟩
      · exact meas_next (i, (i + j) / 2) (by simp only; omega) rfl ⟨by simp only; omega, by simp only; omega, h3, fun k hk hki => fun hc => (by rw [hmono ((i + j) / 2) k hk hki hc] at h; cases h)⟩
    all_goals
      have hij : i = j := by omega
      subst hij
      have hci : cntS t l = i := cntL_at h2 (fun k hk hki => (hc _).2 (h3 k hk hki)) (fun k hk hki => fun e => h4 k hk hki ((hc _).1 e))
    · have hh : hitS t l = true := by
        unfold hitS hitL
        unfold cntS at hci
        rw [hci, List.getElem?_eq_getElem (show i < l.length by omega)]
        have h5 : ltB (l[i]'(by omega)) t = false := by simpa using h4 i (by omega) (Nat.le_refl _)
        have h6 : (l[i]'(by omega)).toList = t.toList := by assumption
        simp [h5, h6]
      exact .mk ⟨by rw [hci, hh]; rfl, rfl⟩
    · have hh : hitS t l = false := by
        unfold hitS hitL
        unfold cntS at hci
        rw [hci, List.getElem?_eq_getElem (show i < l.length by omega)]
        have h5 : ltB (l[i]'(by omega)) t = false := by simpa using h4 i (by omega) (Nat.le_refl _)
        have h6 : ¬ (l[i]'(by omega)).toList = t.toList := by assumption
        simp [h5, h6]
      repeat' (first | ((first | refine Split.mk (fun h => ?_) (fun h => ?_) | refine CondG.mk (fun h => ?_) (fun h => ?_)) <;> (try simp only [decide_eq_true_eq, decide_eq_false_iff_not, Bool.not_eq_true', Bool.not_eq_false', beq_iff_eq, beq_eq_false_iff_ne, bne_iff_ne, bne_eq_false_iff_eq] at h) <;> (first | (exfalso; first | omega | exact h trivial) | (conv => whnf))) | (refine CallX.mk _ _ (by first | exact isNaNS_pc _) ?_; conv => whnf) | (refine CallG.mk _ _ (by first | exact isNaNS_pc _) ?_; conv => whnf) | (refine Ask.mk (by first | omega | (unfold roomOK; simp [cutRows]; done) | (unfold roomOK; simp [cutRows]; omega) | (simp [cutRows]; done) | (simp [cutRows]; omega)) ?_; conv => whnf) | (refine AppG.mk (by first | omega | (unfold roomOK; simp [cutRows]; done) | (unfold roomOK; simp [cutRows]; omega) | (simp [cutRows]; done) | (simp [cutRows]; omega)) ?_; conv => whnf) | (refine SliceG.fr ?_; conv => whnf) | (refine idx_at _ (by with_reducible rfl) (by first | assumption | omega) ?_; conv => whnf) | ((with_reducible refine row_map (by first | assumption | omega) ?_); conv => whnf) | ((with_reducible refine row_set (by first | assumption | omega | (simp only [List.length_set]; omega) | (simp; omega)) ?_); conv => whnf) | fail)
      all_goals exact .mk ⟨by rw [hci, hh]; rfl, rfl⟩
    · exact .mk ⟨by rw [hci]; unfold hitS hitL; unfold cntS at hci; rw [hci, List.getElem?_eq_none (show l.length ≤ i by omega)]; rfl, rfl⟩
set_option maxRecDepth 100000 in
set_option maxHeartbeats 4000000 in
theorem cloneI_pc (l : List Int) (hl : l.length ≤ 1000000) : PCp 83 [.c (.lst 1 (l.map encI))] [] (.c (.row 0)) [.row 3 1 (l.map encI)] := by
  have hlm : (l.map encI).length = l.length := List.length_map ..
  refine fn_sound (mt := mts) tab_fits tab_mixed Tryz.func83 (by rfl) (by kernel_rfl) (by kernel_rfl) Tryz.results83 (Nat.le_of_ble_eq_true (by kernel_rfl)) ?_
  conv => whnf
  refine .mk (fun h => ?_) ?_
  · conv => whnf
    exact .own 3 1 rfl rfl (by rw [h]; rfl)
  · conv => whnf
    repeat' (first | ((first | refine Split.mk (fun h => ?_) (fun h => ?_) | refine CondG.mk (fun h => ?_) (fun h => ?_)) <;> (try simp only [decide_eq_true_eq, decide_eq_false_iff_not, Bool.not_eq_true', Bool.not_eq_false', beq_iff_eq, beq_eq_false_iff_ne] at h) <;> (first | (exfalso; first | omega | exact h trivial) | (conv => whnf))) | (refine Ask.mk (by first | omega | (unfold roomOK; simp [cutRows]; done) | (unfold roomOK; simp [cutRows]; omega)) ?_; conv => whnf) | (refine AppG.mk (by first | omega | (unfold roomOK; simp [cutRows]; done) | (unfold roomOK; simp [cutRows]; omega)) ?_; conv => whnf) | (refine SliceG.fr ?_; conv => whnf) | fail)
    exact .mk ⟨rfl, rfl⟩
end Go.Proofs.YtlifcpcfhkpejaaGreat

/- Lists made of one number. -/
namespace Go.Proofs.YtlifcpcfhkpejaaGreat
set_option linter.unusedVariables false
set_option linter.unusedSimpArgs false
open Abs

/-! a number, some times -/
end Go.Proofs.YtlifcpcfhkpejaaGreat

/- Numbers, fractions, lists of strings. -/
namespace Go.Proofs.YtlifcpcfhkpejaaGreat
set_option linter.unusedVariables false
set_option linter.unusedSimpArgs false
open Abs

theorem squares_b {l : List Int} (h : ∀ x ∈ l, 0 ≤ x ∧ x ≤ 1000) (hl : l.length ≤ 1000000) {k : Nat} (hk : k < l.length) : IntKind.i64.wrap (sqV (l.take k) + IntKind.i64.wrap (l[k] * l[k])) = sqV (l.take (k + 1)) := by
  have h1 := h l[k] (List.getElem_mem hk)
  have h2 : 0 ≤ l[k] * l[k] := Int.mul_nonneg h1.1 h1.1
  have h3 := Int.mul_le_mul h1.2 h1.2 h1.1 (by omega : (0 : Int) ≤ 1000)
  have h4 := sq_in (l := l.take k) (fun x hx => h x (List.mem_of_mem_take hx))
  have h5 : (l.take k).length ≤ 1000000 := by rw [List.length_take]; omega
  rw [wrap_in (x := l[k] * l[k]) (by omega) (by omega), wrap_in (by omega) (by omega)]
  exact (sum_take (fun x => x * x) l k hk).symm
set_option maxRecDepth 100000 in
set_option maxHeartbeats 4000000 in
theorem dSquares_pc (l : List Int) (hb : ∀ x ∈ l, 0 ≤ x ∧ x ≤ 1000) (hl : l.length ≤ 1000000) : PCp 113 [.c (.lst 1 (l.map encI))] [] (.c (.int .i64 (sqV l))) [] := by
  have hlm : (l.map encI).length = l.length := List.length_map ..
  refine fn_sound (mt := mts) tab_fits tab_mixed Tryz.func113 (by rfl) (by kernel_rfl) (by kernel_rfl) Tryz.results113 (Nat.le_of_ble_eq_true (by kernel_rfl)) ?_
  conv => whnf
  refine loop_for (l.length) [] [3, 6, 7, 8] (fun k (_ : Unit) => [(3, .c (.int .i64 (sqV (l.take k)))), (8, .c (.int .i64 (k : Int)))]) (fun k (_ : Unit) => []) (fun k (_ : Unit) => True) (()) ?_
  conv => whnf
  refine ⟨(by first | rfl | (simp; done) | (simp; rfl)), (by trivial), ?_, ?_⟩
  · intro k _ hk _
    conv => whnf
    repeat' (first | ((first | refine Split.mk (fun h => ?_) (fun h => ?_) | refine CondG.mk (fun h => ?_) (fun h => ?_)) <;> (try simp only [decide_eq_true_eq, decide_eq_false_iff_not, Bool.not_eq_true', Bool.not_eq_false', beq_iff_eq, beq_eq_false_iff_ne, bne_iff_ne, bne_eq_false_iff_eq] at h) <;> (first | (exfalso; first | omega | exact h trivial) | (conv => whnf))) | (refine Ask.mk (by first | omega | (unfold roomOK; simp [cutRows]; done) | (unfold roomOK; simp [cutRows]; omega) | (simp [cutRows]; done) | (simp [cutRows]; omega)) ?_; conv => whnf) | (refine AppG.mk (by first | omega | (unfold roomOK; simp [cutRows]; done) | (unfold roomOK; simp [cutRows]; omega) | (simp [cutRows]; done) | (simp [cutRows]; omega)) ?_; conv => whnf) | (refine SliceG.fr ?_; conv => whnf) | (refine idx_at _ (by with_reducible rfl) (by first | assumption | omega) ?_; conv => whnf) | ((with_reducible refine row_map (by first | assumption | omega) ?_); conv => whnf) | ((with_reducible refine row_set (by first | assumption | omega | (simp only [List.length_set]; omega) | (simp; omega)) ?_); conv => whnf) | fail)
    exact count_next () hk (by rw [wrap_succ hk (by omega), squares_b hb hl hk]; rfl) trivial
  · intro _ _
    conv => whnf
    repeat' (first | ((first | refine Split.mk (fun h => ?_) (fun h => ?_) | refine CondG.mk (fun h => ?_) (fun h => ?_)) <;> (try simp only [decide_eq_true_eq, decide_eq_false_iff_not, Bool.not_eq_true', Bool.not_eq_false', beq_iff_eq, beq_eq_false_iff_ne, bne_iff_ne, bne_eq_false_iff_eq] at h) <;> (first | (exfalso; first | omega | exact h trivial) | (conv => whnf))) | (refine Ask.mk (by first | omega | (unfold roomOK; simp [cutRows]; done) | (unfold roomOK; simp [cutRows]; omega) | (simp [cutRows]; done) | (simp [cutRows]; omega)) ?_; conv => whnf) | (refine AppG.mk (by first | omega | (unfold roomOK; simp [cutRows]; done) | (unfold roomOK; simp [cutRows]; omega) | (simp [cutRows]; done) | (simp [cutRows]; omega)) ?_; conv => whnf) | (refine SliceG.fr ?_; conv => whnf) | (refine idx_at _ (by with_reducible rfl) (by first | assumption | omega) ?_; conv => whnf) | ((with_reducible refine row_map (by first | assumption | omega) ?_); conv => whnf) | ((with_reducible refine row_set (by first | assumption | omega | (simp only [List.length_set]; omega) | (simp; omega)) ?_); conv => whnf) | fail)
    exact fini (by rw [List.take_length])
end Go.Proofs.YtlifcpcfhkpejaaGreat

/- Ducts and cables are made. -/
namespace Go.Proofs.YtlifcpcfhkpejaaGreat
set_option linter.unusedVariables false
set_option linter.unusedSimpArgs false
open Abs

def strOf : List V → ByteArray
  | [.str s] => s
  | _ => ⟨#[]⟩
theorem row_str {rows : List (List V)} {i : Nat} {k : List V → Prop} (h : rows = (rows.map strOf).map encS) (hi : i < rows.length) (hk : ∀ s : ByteArray, k (encS s)) : RowG rows i k := by
  refine .mk _ (List.getElem?_eq_getElem hi) ?_
  have : rows[i] = encS (strOf rows[i]) := by
    conv => lhs; rw [List.getElem_of_eq h hi]
    simp
  rw [this]
  exact hk _
end Go.Proofs.YtlifcpcfhkpejaaGreat

/- Traces and events are made; plain facts on excesses. -/
namespace Go.Proofs.YtlifcpcfhkpejaaGreat
set_option linter.unusedVariables false
set_option linter.unusedSimpArgs false
open Abs

/-! a trace: what is made, as a function of the stream -/
structure Gs (α : Type) where
  l : List α
  n : Int
  q : Int
def pwStep (L : List Int) (_ : Nat) (a : Gs Int) : Gs Int :=
  if nextV L (a.q + 1 + 1) 7 == 0 then ⟨a.l ++ [IntKind.i64.wrap (a.n + pickV L a.q [0, 0, 0, 1, -1])], IntKind.i64.wrap (IntKind.i64.wrap (a.n - pickV L (a.q + 1) [0, 0, 1, 1, 2]) - pickV L (a.q + 1 + 1 + 1) [5, 10, 30, 100]), a.q + 1 + 1 + 1 + 1⟩
  else ⟨a.l ++ [IntKind.i64.wrap (a.n + pickV L a.q [0, 0, 0, 1, -1])], IntKind.i64.wrap (a.n - pickV L (a.q + 1) [0, 0, 1, 1, 2]), a.q + 1 + 1 + 1⟩
def pwIter (L : List Int) (p : Int) (k : Nat) : Gs Int := iterN (pwStep L) k ⟨[], pickV L p [0, 1000, 500], p + 1 + 1⟩
theorem pwIter_bd (L : List Int) (p : Int) : ∀ k, (pwIter L p k).l.length = k ∧ p + 1 + 1 ≤ (pwIter L p k).q ∧ (pwIter L p k).q ≤ p + 1 + 1 + 4 * k
  | 0 => by simp [pwIter, iterN]
  | k + 1 => by
    have ih := pwIter_bd L p k
    have e : pwIter L p (k + 1) = pwStep L k (pwIter L p k) := rfl
    rw [e]
    generalize pwIter L p k = a at *
    unfold pwStep
    split <;> simp only [List.length_append, List.length_singleton] <;> omega
def powerEnd (L : List Int) (a : Gs Int) : List Int × Int :=
  if 0 < a.l.length then (if nextV L a.q 15 == 0 then (a.l.set (nextV L (a.q + 1) (a.l.length : Nat)).toNat (pickV L (a.q + 1 + 1) [10000, -10000, 10001, -9223372036854775808]), a.q + 1 + 1 + 1) else (a.l, a.q + 1)) else (a.l, a.q)
def powerV (L : List Int) (p most : Int) : List Int × Int := powerEnd L (pwIter L p (rangeV L (p + 1) 0 most).toNat)
theorem powerV_bd (L : List Int) (p most : Int) (h0 : 0 ≤ most) : (powerV L p most).1.length ≤ most.toNat ∧ p ≤ (powerV L p most).2 ∧ (powerV L p most).2 ≤ p + 5 + 4 * most := by
  have hr := rangeV_in L (p + 1) 0 most h0
  have := pwIter_bd L p (rangeV L (p + 1) 0 most).toNat
  unfold powerV
  generalize pwIter L p (rangeV L (p + 1) 0 most).toNat = a at *
  unfold powerEnd
  (repeat' split) <;> simp only [List.length_set] <;> omega
set_option maxRecDepth 100000 in
set_option maxHeartbeats 4000000 in
theorem rPower_pc {L : List Int} {p : Int} (hst : StOk L p) (hp : p ≤ 800000000) (most : Int) (hm : 0 ≤ most ∧ most ≤ 1000) :
    PCp 6 [.c (.ptr 0 0), .c (.int .i64 most)] [stO L p] (.c (.lst 1 ((powerV L p most).1.map encI))) [stO L (powerV L p most).2] := by
  have hS : ∀ x : Int, p ≤ x → x ≤ p + 5000 → StOk L x := fun x h3 h4 => ⟨hst.1, by have := hst.2.1; omega, by omega⟩
  have hr := rangeV_in L (p + 1) 0 most (by omega)
  have hV : powerV L p most = powerEnd L (pwIter L p (rangeV L (p + 1) 0 most).toNat) := rfl
  obtain ⟨n, hn⟩ := Int.eq_ofNat_of_zero_le hr.1
  rw [hn, Int.toNat_natCast] at hV
  rw [hV]
  clear hV
  have hQ0 : ∀ x : Int, p ≤ x → x ≤ p + 14 → StOk L x := fun x h3 h4 => hS x (by omega) (by omega)
  have hB := pwIter_bd L p
  refine fn_sound (mt := mts) tab_fits tab_mixed Tryz.func6 (by rfl) (by kernel_rfl) (by kernel_rfl) Tryz.results6 (Nat.le_of_ble_eq_true (by kernel_rfl)) ?_
  conv => whnf
  repeat' (first | ((first | refine Split.mk (fun h => ?_) (fun h => ?_) | refine CondG.mk (fun h => ?_) (fun h => ?_)) <;> (try simp only [decide_eq_true_eq, decide_eq_false_iff_not, Bool.not_eq_true', Bool.not_eq_false', beq_iff_eq, beq_eq_false_iff_ne, bne_iff_ne, bne_eq_false_iff_eq] at h) <;> (first | (exfalso; first | omega | exact h trivial) | (conv => whnf))) | (refine CallX.mk _ _ (by first | exact pick_ok (hQ0 p (by omega) (by omega)) [_, _, _] (by simp) (by simp) | exact range_ok (hQ0 _ (by omega) (by omega)) 0 most (by omega) (small_lit (by omega)) (small_lit (by omega))) ?_; conv => whnf) | (refine CallG.mk _ _ (by first | exact pick_ok (hQ0 p (by omega) (by omega)) [_, _, _] (by simp) (by simp) | exact range_ok (hQ0 _ (by omega) (by omega)) 0 most (by omega) (small_lit (by omega)) (small_lit (by omega))) ?_; conv => whnf) | (refine Ask.mk (by first | omega | (unfold roomOK; simp [cutRows]; done) | (unfold roomOK; simp [cutRows]; omega) | (simp [cutRows]; done) | (simp [cutRows]; omega)) ?_; conv => whnf) | (refine AppG.mk (by first | omega | (unfold roomOK; simp [cutRows]; done) | (unfold roomOK; simp [cutRows]; omega) | (simp [cutRows]; done) | (simp [cutRows]; omega)) ?_; conv => whnf) | (refine SliceG.fr ?_; conv => whnf) | (refine idx_at _ (by with_reducible rfl) (by first | assumption | omega) ?_; conv => whnf) | ((with_reducible refine row_map (by first | assumption | omega) ?_); conv => whnf) | ((with_reducible refine row_set (by first | assumption | omega | (simp only [List.length_set]; omega) | (simp; omega)) ?_); conv => whnf) | fail)
  rw [hn]
  refine loop_for (n) [.sl 5 3 1] [0, 5, 6, 12, 13] (fun k (_ : Unit) => [(6, .c (.int .i64 (pwIter L p k).n)), (13, .c (.int .i64 (k : Int)))]) (fun k (_ : Unit) => [(0, stO L (pwIter L p k).q), (1, .row 3 1 ((pwIter L p k).l.map encI))]) (fun k (_ : Unit) => True) (()) ?_
  conv => whnf
  refine ⟨(by first | rfl | (simp; done) | (simp; rfl)), (by trivial), ?_, ?_⟩
  · intro k _ hk _
    have hbk := hB k
    have e : pwIter L p (k + 1) = pwStep L k (pwIter L p k) := rfl
    generalize pwIter L p k = a at *
    obtain ⟨d, nw, q⟩ := a
    simp only at hbk ⊢
    have hlm : (d.map encI).length = d.length := List.length_map ..
    have hQ : ∀ x : Int, q ≤ x → x ≤ q + 14 → StOk L x := fun x h3 h4 => hS x (by omega) (by omega)
    conv => whnf
    repeat' (first | ((first | refine Split.mk (fun h => ?_) (fun h => ?_) | refine CondG.mk (fun h => ?_) (fun h => ?_)) <;> (try simp only [decide_eq_true_eq, decide_eq_false_iff_not, Bool.not_eq_true', Bool.not_eq_false', beq_iff_eq, beq_eq_false_iff_ne, bne_iff_ne, bne_eq_false_iff_eq] at h) <;> (first | (exfalso; first | omega | exact h trivial | (simp [cutRows] at h; done) | (simp [cutRows] at h; omega)) | (conv => whnf))) | (refine CallX.mk _ _ (by first | exact flip_ok (hQ _ (by omega) (by omega)) _ (by omega) | exact next_ok (hQ _ (by omega) (by omega)) _ (by omega) | exact range_ok (hQ _ (by omega) (by omega)) _ _ (by omega) (small_lit (by omega)) (small_lit (by omega)) | exact odd_ok (hQ _ (by omega) (by omega)) (hQ _ (by omega) (by omega)) _ _ (small_lit (by omega)) (small_lit (by omega)) (by omega) | exact pick_ok (hQ _ (by omega) (by omega)) [_] (by simp) (by simp) | exact pick_ok (hQ _ (by omega) (by omega)) [_, _] (by simp) (by simp) | exact pick_ok (hQ _ (by omega) (by omega)) [_, _, _] (by simp) (by simp) | exact pick_ok (hQ _ (by omega) (by omega)) [_, _, _, _] (by simp) (by simp) | exact pick_ok (hQ _ (by omega) (by omega)) [_, _, _, _, _] (by simp) (by simp) | exact pick_ok (hQ _ (by omega) (by omega)) [_, _, _, _, _, _] (by simp) (by simp) | exact pick_ok (hQ _ (by omega) (by omega)) [_, _, _, _, _, _, _] (by simp) (by simp) | exact pick_ok (hQ _ (by omega) (by omega)) [_, _, _, _, _, _, _, _] (by simp) (by simp) | exact pick_ok (hQ _ (by omega) (by omega)) [_, _, _, _, _, _, _, _, _] (by simp) (by simp) | exact pick_ok (hQ _ (by omega) (by omega)) [_, _, _, _, _, _, _, _, _, _] (by simp) (by simp) | exact some_ok (hQ _ (by omega) (by omega)) [_] (by simp) (by simp) | exact some_ok (hQ _ (by omega) (by omega)) [_, _] (by simp) (by simp) | exact some_ok (hQ _ (by omega) (by omega)) [_, _, _] (by simp) (by simp) | exact some_ok (hQ _ (by omega) (by omega)) [_, _, _, _] (by simp) (by simp) | exact some_ok (hQ _ (by omega) (by omega)) [_, _, _, _, _] (by simp) (by simp) | exact some_ok (hQ _ (by omega) (by omega)) [_, _, _, _, _, _] (by simp) (by simp) | exact some_ok (hQ _ (by omega) (by omega)) [_, _, _, _, _, _, _] (by simp) (by simp) | exact some_ok (hQ _ (by omega) (by omega)) [_, _, _, _, _, _, _, _] (by simp) (by simp)) ?_; conv => whnf) | (refine CallG.mk _ _ (by first | exact flip_ok (hQ _ (by omega) (by omega)) _ (by omega) | exact next_ok (hQ _ (by omega) (by omega)) _ (by omega) | exact range_ok (hQ _ (by omega) (by omega)) _ _ (by omega) (small_lit (by omega)) (small_lit (by omega)) | exact odd_ok (hQ _ (by omega) (by omega)) (hQ _ (by omega) (by omega)) _ _ (small_lit (by omega)) (small_lit (by omega)) (by omega) | exact pick_ok (hQ _ (by omega) (by omega)) [_] (by simp) (by simp) | exact pick_ok (hQ _ (by omega) (by omega)) [_, _] (by simp) (by simp) | exact pick_ok (hQ _ (by omega) (by omega)) [_, _, _] (by simp) (by simp) | exact pick_ok (hQ _ (by omega) (by omega)) [_, _, _, _] (by simp) (by simp) | exact pick_ok (hQ _ (by omega) (by omega)) [_, _, _, _, _] (by simp) (by simp) | exact pick_ok (hQ _ (by omega) (by omega)) [_, _, _, _, _, _] (by simp) (by simp) | exact pick_ok (hQ _ (by omega) (by omega)) [_, _, _, _, _, _, _] (by simp) (by simp) | exact pick_ok (hQ _ (by omega) (by omega)) [_, _, _, _, _, _, _, _] (by simp) (by simp) | exact pick_ok (hQ _ (by omega) (by omega)) [_, _, _, _, _, _, _, _, _] (by simp) (by simp) | exact pick_ok (hQ _ (by omega) (by omega)) [_, _, _, _, _, _, _, _, _, _] (by simp) (by simp) | exact some_ok (hQ _ (by omega) (by omega)) [_] (by simp) (by simp) | exact some_ok (hQ _ (by omega) (by omega)) [_, _] (by simp) (by simp) | exact some_ok (hQ _ (by omega) (by omega)) [_, _, _] (by simp) (by simp) | exact some_ok (hQ _ (by omega) (by omega)) [_, _, _, _] (by simp) (by simp) | exact some_ok (hQ _ (by omega) (by omega)) [_, _, _, _, _] (by simp) (by simp) | exact some_ok (hQ _ (by omega) (by omega)) [_, _, _, _, _, _] (by simp) (by simp) | exact some_ok (hQ _ (by omega) (by omega)) [_, _, _, _, _, _, _] (by simp) (by simp) | exact some_ok (hQ _ (by omega) (by omega)) [_, _, _, _, _, _, _, _] (by simp) (by simp)) ?_; conv => whnf) | (refine Ask.mk (by first | omega | (unfold roomOK; simp [cutRows]; done) | (unfold roomOK; simp [cutRows]; omega) | (simp [cutRows]; done) | (simp [cutRows]; omega)) ?_; conv => whnf) | (refine AppG.mk (by first | omega | (unfold roomOK; simp [cutRows]; done) | (unfold roomOK; simp [cutRows]; omega) | (simp [cutRows]; done) | (simp [cutRows]; omega)) ?_; conv => whnf) | (refine SliceG.fr ?_; conv => whnf) | (refine idx_at _ (by with_reducible rfl) (by first | assumption | omega) ?_; conv => whnf) | ((with_reducible refine row_map (by first | assumption | omega) ?_); conv => whnf) | (refine row_str (by rfl) (by first | (simp [cutRows]; done) | (simp [cutRows]; omega)) ?_; intro str; conv => whnf) | ((with_reducible refine row_set (by first | assumption | omega | (simp only [List.length_set]; omega) | (simp; omega)) ?_); conv => whnf) | fail)
    · unfold pwStep at e
      rw [if_pos (by simpa using h)] at e
      exact count_next () hk (by rw [wrap_succ hk (by omega), e]; simp only [List.map_append]; rfl) trivial
    · unfold pwStep at e
      rw [if_neg (by simpa using h)] at e
      exact count_next () hk (by rw [wrap_succ hk (by omega), e]; simp only [List.map_append]; rfl) trivial
  · intro _ _
    have hbk := hB n
    generalize pwIter L p n = a at *
    obtain ⟨d, nw, q⟩ := a
    simp only at hbk ⊢
    have hlm : (d.map encI).length = d.length := List.length_map ..
    have hQ : ∀ x : Int, q ≤ x → x ≤ q + 14 → StOk L x := fun x h3 h4 => hS x (by omega) (by omega)
    have ni : 0 < (((d.map encI).length : Nat) : Int) → 0 ≤ nextV L (q + 1) ((d.map encI).length : Nat) ∧ nextV L (q + 1) ((d.map encI).length : Nat) < ((d.map encI).length : Nat) := fun h => nextV_lt _ _ _ (by omega)
    conv => whnf
    repeat' (first | ((first | refine Split.mk (fun h => ?_) (fun h => ?_) | refine CondG.mk (fun h => ?_) (fun h => ?_)) <;> (try simp only [decide_eq_true_eq, decide_eq_false_iff_not, Bool.not_eq_true', Bool.not_eq_false', beq_iff_eq, beq_eq_false_iff_ne, bne_iff_ne, bne_eq_false_iff_eq] at h) <;> (first | (exfalso; first | omega | exact h trivial | (simp [cutRows] at h; done) | (simp [cutRows] at h; omega)) | (conv => whnf))) | (refine CallX.mk _ _ (by first | exact flip_ok (hQ _ (by omega) (by omega)) _ (by omega) | exact next_ok (hQ _ (by omega) (by omega)) _ (by omega) | exact range_ok (hQ _ (by omega) (by omega)) _ _ (by omega) (small_lit (by omega)) (small_lit (by omega)) | exact odd_ok (hQ _ (by omega) (by omega)) (hQ _ (by omega) (by omega)) _ _ (small_lit (by omega)) (small_lit (by omega)) (by omega) | exact pick_ok (hQ _ (by omega) (by omega)) [_] (by simp) (by simp) | exact pick_ok (hQ _ (by omega) (by omega)) [_, _] (by simp) (by simp) | exact pick_ok (hQ _ (by omega) (by omega)) [_, _, _] (by simp) (by simp) | exact pick_ok (hQ _ (by omega) (by omega)) [_, _, _, _] (by simp) (by simp) | exact pick_ok (hQ _ (by omega) (by omega)) [_, _, _, _, _] (by simp) (by simp) | exact pick_ok (hQ _ (by omega) (by omega)) [_, _, _, _, _, _] (by simp) (by simp) | exact pick_ok (hQ _ (by omega) (by omega)) [_, _, _, _, _, _, _] (by simp) (by simp) | exact pick_ok (hQ _ (by omega) (by omega)) [_, _, _, _, _, _, _, _] (by simp) (by simp) | exact pick_ok (hQ _ (by omega) (by omega)) [_, _, _, _, _, _, _, _, _] (by simp) (by simp) | exact pick_ok (hQ _ (by omega) (by omega)) [_, _, _, _, _, _, _, _, _, _] (by simp) (by simp) | exact some_ok (hQ _ (by omega) (by omega)) [_] (by simp) (by simp) | exact some_ok (hQ _ (by omega) (by omega)) [_, _] (by simp) (by simp) | exact some_ok (hQ _ (by omega) (by omega)) [_, _, _] (by simp) (by simp) | exact some_ok (hQ _ (by omega) (by omega)) [_, _, _, _] (by simp) (by simp) | exact some_ok (hQ _ (by omega) (by omega)) [_, _, _, _, _] (by simp) (by simp) | exact some_ok (hQ _ (by omega) (by omega)) [_, _, _, _, _, _] (by simp) (by simp) | exact some_ok (hQ _ (by omega) (by omega)) [_, _, _, _, _, _, _] (by simp) (by simp) | exact some_ok (hQ _ (by omega) (by omega)) [_, _, _, _, _, _, _, _] (by simp) (by simp)) ?_; conv => whnf) | (refine CallG.mk _ _ (by first | exact flip_ok (hQ _ (by omega) (by omega)) _ (by omega) | exact next_ok (hQ _ (by omega) (by omega)) _ (by omega) | exact range_ok (hQ _ (by omega) (by omega)) _ _ (by omega) (small_lit (by omega)) (small_lit (by omega)) | exact odd_ok (hQ _ (by omega) (by omega)) (hQ _ (by omega) (by omega)) _ _ (small_lit (by omega)) (small_lit (by omega)) (by omega) | exact pick_ok (hQ _ (by omega) (by omega)) [_] (by simp) (by simp) | exact pick_ok (hQ _ (by omega) (by omega)) [_, _] (by simp) (by simp) | exact pick_ok (hQ _ (by omega) (by omega)) [_, _, _] (by simp) (by simp) | exact pick_ok (hQ _ (by omega) (by omega)) [_, _, _, _] (by simp) (by simp) | exact pick_ok (hQ _ (by omega) (by omega)) [_, _, _, _, _] (by simp) (by simp) | exact pick_ok (hQ _ (by omega) (by omega)) [_, _, _, _, _, _] (by simp) (by simp) | exact pick_ok (hQ _ (by omega) (by omega)) [_, _, _, _, _, _, _] (by simp) (by simp) | exact pick_ok (hQ _ (by omega) (by omega)) [_, _, _, _, _, _, _, _] (by simp) (by simp) | exact pick_ok (hQ _ (by omega) (by omega)) [_, _, _, _, _, _, _, _, _] (by simp) (by simp) | exact pick_ok (hQ _ (by omega) (by omega)) [_, _, _, _, _, _, _, _, _, _] (by simp) (by simp) | exact some_ok (hQ _ (by omega) (by omega)) [_] (by simp) (by simp) | exact some_ok (hQ _ (by omega) (by omega)) [_, _] (by simp) (by simp) | exact some_ok (hQ _ (by omega) (by omega)) [_, _, _] (by simp) (by simp) | exact some_ok (hQ _ (by omega) (by omega)) [_, _, _, _] (by simp) (by simp) | exact some_ok (hQ _ (by omega) (by omega)) [_, _, _, _, _] (by simp) (by simp) | exact some_ok (hQ _ (by omega) (by omega)) [_, _, _, _, _, _] (by simp) (by simp) | exact some_ok (hQ _ (by omega) (by omega)) [_, _, _, _, _, _, _] (by simp) (by simp) | exact some_ok (hQ _ (by omega) (by omega)) [_, _, _, _, _, _, _, _] (by simp) (by simp)) ?_; conv => whnf) | (refine Ask.mk (by first | omega | (unfold roomOK; simp [cutRows]; done) | (unfold roomOK; simp [cutRows]; omega) | (simp [cutRows]; done) | (simp [cutRows]; omega)) ?_; conv => whnf) | (refine AppG.mk (by first | omega | (unfold roomOK; simp [cutRows]; done) | (unfold roomOK; simp [cutRows]; omega) | (simp [cutRows]; done) | (simp [cutRows]; omega)) ?_; conv => whnf) | (refine SliceG.fr ?_; conv => whnf) | (refine idx_at _ (by with_reducible rfl) (by first | assumption | omega) ?_; conv => whnf) | ((with_reducible refine row_map (by first | assumption | omega) ?_); conv => whnf) | (refine row_str (by rfl) (by first | (simp [cutRows]; done) | (simp [cutRows]; omega)) ?_; intro str; conv => whnf) | ((with_reducible refine row_set (by first | assumption | omega | (simp only [List.length_set]; omega) | (simp; omega)) ?_); conv => whnf) | fail)
    · have p1 : 0 < d.length := by omega
      have e : powerEnd L ⟨d, nw, q⟩ = (d.set (nextV L (q + 1) (d.length : Nat)).toNat (pickV L (q + 1 + 1) [10000, -10000, 10001, -9223372036854775808]), q + 1 + 1 + 1) := by
        unfold powerEnd; rw [if_pos p1, if_pos (by simpa using h)]
      rw [e]
      exact .frz 1 _ _ _ rfl (.weak [_] (.fro 1 _ _ (by simp only [List.length_map, List.map_set]; rfl)) rfl (Nat.le_refl _))
    · have p1 : 0 < d.length := by omega
      have e : powerEnd L ⟨d, nw, q⟩ = (d, q + 1) := by
        unfold powerEnd; rw [if_pos p1, if_neg (by simpa using h)]
      rw [e]
      exact .frz 1 _ _ _ rfl (.weak [_] (.fro 1 _ _ rfl) rfl (Nat.le_refl _))
    · have e : powerEnd L ⟨d, nw, q⟩ = (d, q) := by
        unfold powerEnd; rw [if_neg (by simp only; omega)]
      rw [e]
      exact .frz 1 _ _ _ rfl (.weak [_] (.fro 1 _ _ rfl) rfl (Nat.le_refl _))

/-! excesses -/
theorem win_len (p : List Int) (lo m : Nat) (h : lo + m ≤ p.length) : (Hd.win p lo m).length = m := by unfold Hd.win; simp; omega
theorem sum_map_add (c : Int) : ∀ l : List Int, (l.map (· + c)).sum = l.sum + c * l.length
  | [] => by simp
  | x :: r => by simp only [List.map_cons, List.sum_cons, sum_map_add c r, List.length_cons]; rw [Int.natCast_succ, Int.mul_add]; omega
theorem win_map (f : Int → Int) (p : List Int) (lo m : Nat) : Hd.win (p.map f) lo m = (Hd.win p lo m).map f := by unfold Hd.win; simp
theorem drp_shift (c : Int) (p : List Int) (W i : Nat) (h1 : W ≤ i) (h2 : i + W ≤ p.length) : Hd.drp (p.map (· + c)) W i = Hd.drp p W i := by
  unfold Hd.drp
  rw [win_map, win_map, sum_map_add, sum_map_add, win_len _ _ _ (by omega), win_len _ _ _ (by omega)]
  omega
theorem exR_shift (c : Int) (p : List Int) (W D : Nat) (nm : Int) : Hd.exR (p.map (· + c)) W D nm = Hd.exR p W D nm := by
  unfold Hd.exR
  have hl : Hd.exc (p.map (· + c)) W = Hd.exc p W := by unfold Hd.exc; rw [List.length_map]
  rw [hl]
  refine List.map_congr_left fun j hj => ?_
  have hj := List.mem_range.1 hj
  unfold Hd.exc at hj
  unfold Hd.exn
  rw [drp_shift c p W (W + j) (by omega) (by omega)]
theorem evs_shift (c : Int) (p : List Int) (W D : Nat) (nm ls st : Int) : Hd.evsOf (p.map (· + c)) W D nm ls st = Hd.evsOf p W D nm ls st := by
  unfold Hd.evsOf; rw [exR_shift]
theorem sum_rep (c : Int) : ∀ n : Nat, (List.replicate n c).sum = c * n
  | 0 => by simp
  | n + 1 => by rw [List.replicate_succ, List.sum_cons, sum_rep c n, Int.natCast_succ, Int.mul_add]; omega
theorem exR_len (p : List Int) (W D : Nat) (nm : Int) : (Hd.exR p W D nm).length = Hd.exc p W := by unfold Hd.exR; simp
theorem exR_get (p : List Int) (W D : Nat) (nm : Int) (j : Nat) (h : j < Hd.exc p W) : (Hd.exR p W D nm).getD j 0 = Hd.exn p W D nm (W + j) := by unfold Hd.exR; simp [h]
theorem evs_level (n : Nat) (c : Int) (W D : Nat) (nm ls st : Int) (hn : 0 ≤ nm) (hu : 0 < ls * (W * D : Nat)) : Hd.evsOf (List.replicate n c) W D nm ls st = [] := by
  unfold Hd.evsOf
  rw [List.map_eq_nil_iff]
  unfold Hd.bestL
  rw [List.filter_eq_nil_iff]
  intro j hj hb
  rw [exR_len] at hj
  have hj := List.mem_range.1 hj
  rw [Hd.bestB_iff] at hb
  have h1 := Hd.isN_ge _ _ hb.1
  rw [exR_get _ _ _ _ _ hj] at h1
  unfold Hd.exc at hj
  rw [List.length_replicate] at hj
  have hz : Hd.drp (List.replicate n c) W (W + j) = 0 := by
    unfold Hd.drp Hd.win
    simp only [List.drop_replicate, List.take_replicate, sum_rep]
    rw [show min W (n - (W + j - W)) = W by omega, show min W (n - (W + j)) = W by omega]
    omega
  unfold Hd.exn at h1
  rw [hz] at h1
  have : (0 : Int) ≤ W * W * nm := Int.mul_nonneg (Int.mul_nonneg (by omega) (by omega)) hn
  omega
/-- an event is at its place in the excess -/
theorem evs_mem {p : List Int} {W D : Nat} {nm ls st : Int} {y : Int × Int} (hy : y ∈ Hd.evsOf p W D nm ls st) (hu : 1 ≤ W * D) : ∃ i, i < Hd.exc p W ∧ y.1 = ((i : Int) + W) * st ∧ ls ≤ y.2 ∧ 1 ≤ ((Hd.exL p W D nm).getD i (0, 0)).2 ∧ ls * ((Hd.exL p W D nm).getD i (0, 0)).2 ≤ ((Hd.exL p W D nm).getD i (0, 0)).1 := by
  unfold Hd.evsOf at hy
  obtain ⟨i, hi, rfl⟩ := List.mem_map.1 hy
  unfold Hd.bestL at hi
  obtain ⟨h1, h2⟩ := List.mem_filter.1 hi
  rw [exR_len] at h1
  have h1 := List.mem_range.1 h1
  rw [Hd.bestB_iff] at h2
  have h3 := Hd.isN_ge _ _ h2.1
  refine ⟨i, h1, rfl, ?_, ?_, ?_⟩
  · show ls ≤ (2 * (Hd.exR p W D nm).getD i 0 + (W * D : Nat)) / (2 * (W * D : Nat))
    generalize (Hd.exR p W D nm).getD i 0 = x at *
    rw [Int.le_ediv_iff_mul_le (by omega)]
    have : ls * (2 * ((W * D : Nat) : Int)) = 2 * (ls * ((W * D : Nat) : Int)) := by rw [Int.mul_left_comm]
    omega
  · rw [Hd.exL_get _ _ _ _ _ h1]
    obtain ⟨g, _, _, _, h⟩ := Hd.low_spec ((Hd.exR p W D nm).getD i 0) (W * D) hu
    exact h
  · rw [Hd.exL_get _ _ _ _ _ h1]
    have := Hd.low_lt ((Hd.exR p W D nm).getD i 0) ls (W * D) hu
    omega
theorem exL_len (p : List Int) (W D : Nat) (nm : Int) : (Hd.exL p W D nm).length = Hd.exc p W := by unfold Hd.exL; simp
end Go.Proofs.YtlifcpcfhkpejaaGreat

/- What is left on drums after a plan, by the abstract walk. -/
namespace Go.Proofs.YtlifcpcfhkpejaaGreat
set_option linter.unusedVariables false
set_option linter.unusedSimpArgs false
open Abs

theorem toList_inj {a b : ByteArray} (h : a.toList = b.toList) : a = b := by
  rw [ByteArray.toList_eq, ByteArray.toList_eq] at h
  exact ByteArray.ext (Array.toList_inj.1 h)
end Go.Proofs.YtlifcpcfhkpejaaGreat

/- Waste of plans, and the document's answers, by the abstract walk. -/
namespace Go.Proofs.YtlifcpcfhkpejaaGreat
set_option linter.unusedVariables false
set_option linter.unusedSimpArgs false
open Abs

/-! the document's answers -/
end Go.Proofs.YtlifcpcfhkpejaaGreat

/- Rules and plans are made, lists compared. -/
namespace Go.Proofs.YtlifcpcfhkpejaaGreat
set_option linter.unusedVariables false
set_option linter.unusedSimpArgs false
open Abs

end Go.Proofs.YtlifcpcfhkpejaaGreat
