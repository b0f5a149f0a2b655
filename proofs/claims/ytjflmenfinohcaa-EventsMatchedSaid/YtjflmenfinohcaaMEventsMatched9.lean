/- Parts of the proof, in order. -/
import Derived.Test.YtjflmenfinohcaaMEventsMatched8
import Derived.Lib.Bytealg
import Derived.Lib.Hide
import Derived.Lib.Slices
import Derived.Lib.Strings
import Derived.Lib.Walk
import Derived.Test.YtjflmenfinohcaaAbsY
import Derived.Test.YtjflmenfinohcaaAbsZ
import Derived.Test.YtjflmenfinohcaaGrow
import Derived.Test.YtjflmenfinohcaaLoop
import Derived.Test.YtjflmenfinohcaaTab
import Derived.Test.YtjflmenfinohcaaWrap

/- Keys, numbers, strings: small functions, by the abstract walk. -/
namespace Go.Proofs.Ytjflmenfinohcaa
set_option linter.unusedVariables false
set_option linter.unusedSimpArgs false
open Abs

abbrev PCp := PCs Try.prog
def mts : List Nat := []

theorem finb {m : Nat} {a b : Bool} {os : List Ob} (h : a = b) : FinR m (.c (.bool b)) os (.c (.bool a)) os := .mk ⟨by rw [h], rfl⟩
theorem fini {m : Nat} {k : IntKind} {a b : Int} {os : List Ob} (h : a = b) : FinR m (.c (.int k b)) os (.c (.int k a)) os := .mk ⟨by rw [h], rfl⟩

set_option maxRecDepth 100000 in
set_option maxHeartbeats 4000000 in
theorem bOut_pc (n lo hi : Int) : PCp 22 [.c (.int .i64 n), .c (.int .i64 lo), .c (.int .i64 hi)] [] (.c (.bool (decide (n < lo ∨ hi < n)))) [] := by
  refine fn_sound (mt := mts) tab_fits tab_mixed Try.func22 (by rfl) (by kernel_rfl) (by kernel_rfl) Try.results22 (Nat.le_of_ble_eq_true (by kernel_rfl)) ?_
  conv => whnf
  repeat' (first | ((first | refine Split.mk (fun h => ?_) (fun h => ?_) | refine CondG.mk (fun h => ?_) (fun h => ?_)) <;> (try simp only [decide_eq_true_eq, decide_eq_false_iff_not, Bool.not_eq_true', Bool.not_eq_false', beq_iff_eq, beq_eq_false_iff_ne] at h) <;> (first | (exfalso; first | omega | exact h trivial) | (conv => whnf))) | (refine Ask.mk (by first | omega | (unfold roomOK; simp [cutRows]; done) | (unfold roomOK; simp [cutRows]; omega)) ?_; conv => whnf) | (refine AppG.mk (by first | omega | (unfold roomOK; simp [cutRows]; done) | (unfold roomOK; simp [cutRows]; omega)) ?_; conv => whnf) | (refine SliceG.fr ?_; conv => whnf) | (refine BuildG.fr ?_; conv => whnf) | fail)
  all_goals exact finb (by simp_all <;> omega)
def isKeyC (c : Int) : Bool := decide (97 ≤ c ∧ c ≤ 122) || (decide (48 ≤ c ∧ c ≤ 57) || (c == 45 || c == 95))
def keyB (s : ByteArray) : Bool := decide (0 < s.size ∧ s.size ≤ 40 ∧ 97 ≤ byteAt s 0 ∧ byteAt s 0 ≤ 122 ∧ ∀ i, i < s.size → isKeyC (byteAt s i) = true)
end Go.Proofs.Ytjflmenfinohcaa

/- The generator's stream, by the abstract walk. -/
namespace Go.Proofs.Ytjflmenfinohcaa
set_option linter.unusedVariables false
set_option linter.unusedSimpArgs false
open Abs

theorem mapAt {α : Type} {enc : α → List V} {l : List α} {k : Nat} (d : α) (h : k < l.length) : 0 ≤ (k : Int) ∧ (l.map enc)[(k : Int).toNat]? = some (enc (l.getD k d)) := ⟨by omega, by simp [h]⟩
theorem mapAtW {α : Type} {enc : α → List V} {l : List α} {e : Int} {j : Nat} (d : α) (he : e = (j : Int)) (h : j < l.length) : 0 ≤ e ∧ (l.map enc)[e.toNat]? = some (enc (l.getD j d)) := by subst he; exact mapAt d h
def encI (n : Int) : List V := [.int .i64 n]
def encS (s : ByteArray) : List V := [.str s]
def firstErr : List Int → Int
  | [] => 0
  | x :: r => if x = 0 then firstErr r else x
theorem firstErr_drop (xs : List Int) (k : Nat) (h : k < xs.length) : firstErr (xs.drop k) = if xs.getD k 0 = 0 then firstErr (xs.drop (k + 1)) else xs.getD k 0 := by
  rw [List.drop_eq_getElem_cons h]; simp [firstErr, h]


def belowV (x n : Int) : Int := if n < 1 then 0 else if x.tmod n < 0 then x.tmod n + n else x.tmod n
theorem belowV_lt (x n : Int) (h : 1 ≤ n) : 0 ≤ belowV x n ∧ belowV x n < n := by
  have h1 := Int.tmod_lt_of_pos x (show 0 < n by omega)
  have h2 : -n < x.tmod n := by
    have := Int.lt_tmod_of_pos x (show 0 < n by omega)
    omega
  unfold belowV
  rw [if_neg (by omega)]
  split <;> omega

set_option maxRecDepth 100000 in
set_option maxHeartbeats 4000000 in
theorem below_pc (x n : Int) (hn : n ≤ 4611686018427387904) : PCp 31 [.c (.int .i64 x), .c (.int .i64 n)] [] (.c (.int .i64 (belowV x n))) [] := by
  refine fn_sound (mt := mts) tab_fits tab_mixed Try.func31 (by rfl) (by kernel_rfl) (by kernel_rfl) Try.results31 (Nat.le_of_ble_eq_true (by kernel_rfl)) ?_
  conv => whnf
  constructor
  · intro h
    conv => whnf
    have h := of_decide_eq_true h
    exact .mk ⟨by simp [oneOf, belowV, h], rfl⟩
  · intro h
    have h := of_decide_eq_false h
    conv => whnf
    refine ⟨by omega, ?_⟩
    conv => whnf
    have h1 := Int.tmod_lt_of_pos x (show 0 < n by omega)
    have h2 : -n < x.tmod n := Int.lt_tmod_of_pos x (show 0 < n by omega)
    constructor
    · intro h3
      have h3 := of_decide_eq_true h3
      conv => whnf
      refine .mk ⟨?_, rfl⟩
      show S.c _ = _
      rw [IntWalk.i64_in _ ⟨by omega, by omega⟩, belowV, if_neg h, if_pos h3]
    · intro h3
      have h3 := of_decide_eq_false h3
      conv => whnf
      refine .mk ⟨?_, rfl⟩
      show S.c _ = _
      rw [belowV, if_neg h, if_neg h3]

def nextV (L : List Int) (p n : Int) : Int :=
  if L.length = 0 then belowV (IntKind.i64.wrap ((p + 1) * 7919)) n
  else belowV (IntKind.i64.wrap (belowV (L.getD (p.tmod L.length).toNat 0) 1073741824 + IntKind.i64.wrap (IntKind.i64.wrap (p.tdiv L.length) * IntKind.i64.wrap (7919 + p.tmod L.length)))) n
theorem nextV_lt (L : List Int) (p n : Int) (h : 1 ≤ n) : 0 ≤ nextV L p n ∧ nextV L p n < n := by
  unfold nextV
  split <;> exact belowV_lt _ _ h

set_option maxRecDepth 100000 in
theorem next_pc (L : List Int) (p n : Int) (hp : 0 ≤ p) (hp2 : p ≤ 1000000000) (hL : L.length ≤ 9223372036854775807) (hn : n ≤ 4611686018427387904) :
    PCp 19 [.c (.ptr 0 0), .c (.int .i64 n)] [.box [.lst 1 (L.map encI), .int .i64 p]] (.c (.int .i64 (nextV L p n))) [.box [.lst 1 (L.map encI), .int .i64 (p + 1)]] := by
  have hw : IntKind.i64.wrap (p + 1) = p + 1 := IntWalk.i64_in _ ⟨by omega, by omega⟩
  have hw2 : IntKind.i64.wrap (p + 1 - 1) = p := by rw [IntWalk.i64_in _ ⟨by omega, by omega⟩]; omega
  refine fn_sound (mt := mts) tab_fits tab_mixed Try.func19 (by rfl) (by kernel_rfl) (by kernel_rfl) Try.results19 (Nat.le_of_ble_eq_true (by kernel_rfl)) ?_
  conv => whnf
  constructor
  · intro h
    have h0 : L.length = 0 := by simpa using h
    conv => whnf
    refine .mk _ _ (below_pc _ _ hn) ?_
    conv => whnf
    refine .mk ⟨?_, ?_⟩
    · show S.c _ = _
      rw [nextV, if_pos h0, hw]
    · show [Ob.box _] = _
      rw [hw]
  · intro h
    have h0 : ¬ L.length = 0 := by
      have := of_decide_eq_false h
      intro e
      simp [e] at this
    conv => whnf
    have hlen : (((L.map encI).length : Nat) : Int) = (L.length : Int) := by simp
    have hne : ¬ (((L.map encI).length : Nat) : Int) = 0 := by rw [hlen]; omega
    refine ⟨hne, ?_⟩
    conv => whnf
    refine ⟨hne, ?_⟩
    conv => whnf
    have hm : IntKind.i64.wrap (IntKind.i64.wrap (p + 1) - 1) = p := by rw [hw, hw2]
    have hi0 : 0 ≤ p.tmod L.length := Int.tmod_nonneg _ hp
    have hi1 : p.tmod L.length < L.length := Int.tmod_lt_of_pos _ (by omega)
    refine ⟨_, mapAtW (j := (p.tmod L.length).toNat) 0 (by rw [hm, hlen]; omega) (by omega), ?_⟩
    conv => whnf
    refine .mk _ _ (below_pc _ _ (by omega)) ?_
    conv => whnf
    refine .mk _ _ (below_pc _ _ hn) ?_
    conv => whnf
    refine .mk ⟨?_, ?_⟩
    · show S.c _ = _
      rw [nextV, if_neg h0, hm, hlen]
    · show [Ob.box _] = _
      rw [hw]

/-- the stream as an object -/
abbrev stO (L : List Int) (p : Int) : Ob := .box [.lst 1 (L.map encI), .int .i64 p]
def pickV (L : List Int) (p : Int) (l : List Int) : Int := l.getD (nextV L p l.length).toNat 0

set_option maxRecDepth 100000 in
theorem pick_pc (L : List Int) (p : Int) (l : List Int) (hp : 0 ≤ p) (hp2 : p ≤ 1000000000) (hL : L.length ≤ 9223372036854775807) (h1 : 1 ≤ l.length) (h2 : l.length ≤ 1000000000) :
    PCp 5 [.c (.ptr 0 0), .c (.lst 1 (l.map encI))] [stO L p] (.c (.int .i64 (pickV L p l))) [stO L (p + 1)] := by
  have hlen : (((l.map encI).length : Nat) : Int) = (l.length : Int) := by simp
  have hb := nextV_lt L p l.length (by omega)
  refine fn_sound (mt := mts) tab_fits tab_mixed Try.func5 (by rfl) (by kernel_rfl) (by kernel_rfl) Try.results5 (Nat.le_of_ble_eq_true (by kernel_rfl)) ?_
  conv => whnf
  refine .mk _ _ (next_pc L p _ hp hp2 hL (by rw [hlen]; omega)) ?_
  conv => whnf
  rw [hlen]
  refine ⟨_, mapAtW (j := (nextV L p l.length).toNat) 0 (by omega) (by omega), ?_⟩
  conv => whnf
  exact .mk ⟨rfl, rfl⟩

def rangeV (L : List Int) (p a b : Int) : Int := if b < a then a else a + nextV L p (b - a + 1)
theorem rangeV_in (L : List Int) (p a b : Int) (h : a ≤ b) : a ≤ rangeV L p a b ∧ rangeV L p a b ≤ b := by
  have := nextV_lt L p (b - a + 1) (by omega)
  unfold rangeV
  rw [if_neg (by omega)]
  omega
def small (x : Int) : Prop := -1000000000000 ≤ x ∧ x ≤ 1000000000000

set_option maxRecDepth 100000 in
theorem small_lit {n : Int} (h : -1000000 ≤ n ∧ n ≤ 1000000) : small n := by unfold small; omega
set_option maxRecDepth 100000 in
set_option maxHeartbeats 4000000 in
theorem range_pc (L : List Int) (p a b : Int) (hp : 0 ≤ p) (hp2 : p ≤ 1000000000) (hL : L.length ≤ 9223372036854775807) (hab : a ≤ b) (ha : small a) (hb : small b) :
    PCp 18 [.c (.ptr 0 0), .c (.int .i64 a), .c (.int .i64 b)] [stO L p] (.c (.int .i64 (rangeV L p a b))) [stO L (p + 1)] := by
  have e1 : IntKind.i64.wrap (b - a) = b - a := IntWalk.i64_in _ (by unfold small at *; omega)
  have e2 : IntKind.i64.wrap (b - a + 1) = b - a + 1 := IntWalk.i64_in _ (by unfold small at *; omega)
  have hn := nextV_lt L p (b - a + 1) (by omega)
  refine fn_sound (mt := mts) tab_fits tab_mixed Try.func18 (by rfl) (by kernel_rfl) (by kernel_rfl) Try.results18 (Nat.le_of_ble_eq_true (by kernel_rfl)) ?_
  conv => whnf
  constructor
  · intro h
    have h := of_decide_eq_true h
    omega
  · intro h
    conv => whnf
    rw [e1, e2]
    refine .mk _ _ (next_pc L p _ hp hp2 hL (by unfold small at *; omega)) ?_
    conv => whnf
    refine .mk ⟨?_, rfl⟩
    show S.c _ = _
    rw [IntWalk.i64_in _ (by unfold small at *; omega), rangeV, if_neg (by omega)]

set_option maxRecDepth 100000 in
set_option maxHeartbeats 4000000 in
theorem flip_pc (L : List Int) (p n : Int) (hp : 0 ≤ p) (hp2 : p ≤ 1000000000) (hL : L.length ≤ 9223372036854775807) (hn : n ≤ 1000000000) :
    PCp 6 [.c (.ptr 0 0), .c (.int .i64 n)] [stO L p] (.c (.bool (nextV L p n == 0))) [stO L (p + 1)] := by
  refine fn_sound (mt := mts) tab_fits tab_mixed Try.func6 (by rfl) (by kernel_rfl) (by kernel_rfl) Try.results6 (Nat.le_of_ble_eq_true (by kernel_rfl)) ?_
  conv => whnf
  refine .mk _ _ (next_pc L p _ hp hp2 hL (by omega)) ?_
  conv => whnf
  exact .mk ⟨rfl, rfl⟩


/-- a stream that goes on -/
def StOk (L : List Int) (p : Int) : Prop := L.length ≤ 9223372036854775807 ∧ 0 ≤ p ∧ p ≤ 900000000
theorem next_ok {L : List Int} {p : Int} (h : StOk L p) (n : Int) (hn : n ≤ 1000000000) : PCp 19 [.c (.ptr 0 0), .c (.int .i64 n)] [stO L p] (.c (.int .i64 (nextV L p n))) [stO L (p + 1)] :=
  next_pc L p n h.2.1 (by have := h.2.2; omega) h.1 (by omega)
theorem flip_ok {L : List Int} {p : Int} (h : StOk L p) (n : Int) (hn : n ≤ 1000000000) : PCp 6 [.c (.ptr 0 0), .c (.int .i64 n)] [stO L p] (.c (.bool (nextV L p n == 0))) [stO L (p + 1)] :=
  flip_pc L p n h.2.1 (by have := h.2.2; omega) h.1 hn
theorem pick_ok {L : List Int} {p : Int} (h : StOk L p) (l : List Int) (h1 : 1 ≤ l.length) (h2 : l.length ≤ 1000000000) : PCp 5 [.c (.ptr 0 0), .c (.lst 1 (l.map encI))] [stO L p] (.c (.int .i64 (pickV L p l))) [stO L (p + 1)] :=
  pick_pc L p l h.2.1 (by have := h.2.2; omega) h.1 h1 h2
theorem range_ok {L : List Int} {p : Int} (h : StOk L p) (a b : Int) (hab : a ≤ b) (ha : small a) (hb : small b) : PCp 18 [.c (.ptr 0 0), .c (.int .i64 a), .c (.int .i64 b)] [stO L p] (.c (.int .i64 (rangeV L p a b))) [stO L (p + 1)] :=
  range_pc L p a b h.2.1 (by have := h.2.2; omega) h.1 hab ha hb
end Go.Proofs.Ytjflmenfinohcaa

/- How a law's contract meets the row. -/
namespace Go.Proofs.Ytjflmenfinohcaa
set_option linter.unusedVariables false
set_option linter.unusedSimpArgs false
open Go.ChangeShapes Go.WideShapes Go.ChangeAt Go.RowKit
open Abs

theorem walk_of_pc' {f : Nat} (H : ∀ L : List Int, L.length ≤ 9223372036854775807 → PCp f [.c (.lst 1 (L.map encI))] [] (.c (.bool true)) [])
    (a : Option Addr) (len cap : Nat) (zs : List Int) (w : World) (hg : ∀ g ∈ globs, g.1 < w.heap.size ∧ ∃ cs t f, g.2 cs ∧ w.heap[g.1]? = some (.cells cs t f)) (h : IsRow .i64 w a len cap zs) :
    Calls Try.prog f #[.slice a len cap] w fun e w' => e = .returned (.bool true) ∧ Below w.heap.size w w' := by
  have key : ∀ L : List Int, L.length ≤ 9223372036854775807 → RT (fun b => b < w.heap.size) w (.slice a len cap) (.lst 1 (L.map encI)) →
      Calls Try.prog f #[.slice a len cap] w fun e w' => e = .returned (.bool true) ∧ Below w.heap.size w w' := by
    intro L hL hrt
    have hc := (H L hL).2 (fun b => b < w.heap.size) (fun _ => none) w #[.slice a len cap] (.cons (.c (.tree hrt)) .nil)
      ⟨fun l o h => by simp [nth] at h, fun l l' o o' b h => by simp [nth] at h, fun l o b h => by simp [nth] at h, fun b h => h, fun l c h => (by simp at h), hg⟩
      (fun l c h => by simp at h)
    refine hc.mono ?_
    rintro e w' ⟨c, F', φ', r0, os0, ⟨e1, e2⟩, rfl, hr, hn⟩
    subst e1 e2
    refine ⟨?_, hn.os, hn.tape, hn.output, hn.size, ?_⟩
    · cases hr with | c hv => cases hv with | tree ht => cases ht; rfl
    · intro k hk
      by_cases he : w'.heap[k]? = w.heap[k]?
      · exact he
      · obtain ⟨l, o, h1, _⟩ := hn.keep k hk he
        simp [nth] at h1
  rcases h with ⟨rfl, rfl, rfl, rfl⟩ | ⟨x, rfl, hl, hm, hz, hcell, -⟩
  · exact key [] (by simp) (.lst0 none 0 1 (Nat.zero_le _))
  · have hm' : cap ≤ 9223372036854775807 := hm
    by_cases h0 : len = 0
    · subst h0
      exact key [] (by simp) (.lst0 (some x) cap 1 hm)
    · obtain ⟨h1, h2⟩ := spot_none (hcell 0 (by omega))
      have h2 : x.block < w.heap.size := h2
      obtain ⟨b, o, sp⟩ := x
      have h1 : sp = none := h1
      subst h1
      refine key (zs.take len) (by simp; omega) (.lst b o len cap 1 _ (fun i _ => .int .i64 (zs.getD i 0)) h2 (by simp; omega) hl hm ?_ ?_ ?_)
      · intro r hr
        obtain ⟨y, _, rfl⟩ := List.mem_map.1 hr
        rfl
      · intro i j hi hj
        have hj0 : j = 0 := by omega
        subst hj0
        have h6 : (⟨b, o, none⟩ : Addr).add i = ⟨b, o + i, none⟩ := by unfold Addr.add; split <;> simp_all
        have := hcell i (by omega)
        rw [h6] at this
        simpa using this
      · intro i r j v hr hv
        have hi : i < (zs.take len).length := by
          have := (List.getElem?_eq_some_iff.1 hr).1
          simpa using this
        have hi2 : i < zs.length := by simp at hi; omega
        rw [List.getElem?_map, List.getElem?_eq_getElem hi] at hr
        simp only [Option.map_some, Option.some.injEq] at hr
        subst hr
        cases j with
        | zero =>
          simp only [encI, List.getElem?_cons_zero, Option.some.injEq] at hv
          subst hv
          simp only [List.getElem_take]
          rw [show zs.getD i 0 = zs[i] by simp [hi2]]
          exact .int _ _
        | succ j => simp [encI] at hv
theorem walk_of_pc {f : Nat} (H : ∀ L : List Int, L.length ≤ 9223372036854775807 → PCp f [.c (.lst 1 (L.map encI))] [] (.c (.bool true)) [])
    (hg : globs = []) (a : Option Addr) (len cap : Nat) (zs : List Int) (w : World) (h : IsRow .i64 w a len cap zs) :
    Calls Try.prog f #[.slice a len cap] w fun e w' => e = .returned (.bool true) ∧ Below w.heap.size w w' :=
  walk_of_pc' H a len cap zs w (fun g h => by rw [hg] at h; cases h) h
end Go.Proofs.Ytjflmenfinohcaa

/- Contracts that were walked by hand, told for the abstract walk. -/
namespace Go.Proofs.Ytjflmenfinohcaa
set_option linter.unusedVariables false
set_option linter.unusedSimpArgs false
open Abs

/-- two numbers -/
def encQ (q : Int × Int) : List V := [.int .i64 q.1, .int .i64 q.2]
theorem ints_of {F : Nat → Prop} {w : World} : ∀ {xs : List Int} {ys : List Value}, P2 (Abs.RT F w) ys (xs.map (V.int .i64)) → ys = ints xs
  | [], ys, h => by have := h.nil_inv; subst this; rfl
  | x :: r, ys, h => by
    obtain ⟨y, t, rfl, h1, h2⟩ := h.cons_inv
    cases h1
    rw [ints_of h2]; rfl
theorem flat_encQ : ∀ l : List (Int × Int), (l.map encQ).flatten = (l.flatMap fun q => [q.1, q.2]).map (V.int .i64)
  | [] => rfl
  | x :: r => by simp only [List.map_cons, List.flatten_cons, flat_encQ r, List.flatMap_cons, List.map_append]; rfl
theorem prs_ints : ∀ l : List (Int × Int), Hd.prs l = ints (l.flatMap fun q => [q.1, q.2])
  | [] => rfl
  | x :: r => by
    have := prs_ints r
    unfold Hd.prs ints at *
    simp only [List.flatMap_cons, List.map_append, this]; rfl
theorem lst_bd {F : Nat → Prop} {w : World} {a : Option Addr} {n cap sz : Nat} {rows : List (List V)} (h : Abs.RT F w (.slice a n cap) (.lst sz rows)) : n ≤ cap ∧ cap ≤ maxLen := by
  cases h with
  | lst0 _ _ _ h => exact ⟨Nat.zero_le _, h⟩
  | lst b off _ _ _ _ f hF hn hc hm => exact ⟨hc, hm⟩
theorem lst_prs {F : Nat → Prop} {w : World} {c : Value} {l : List (Int × Int)} (h : Abs.RT F w c (.lst 2 (l.map encQ))) : ∃ a cap, c = .slice a l.length cap ∧ At w a (Hd.prs l) ∧ l.length ≤ cap ∧ cap ≤ maxLen := by
  obtain ⟨a, cap, ys, rfl, hat, hp, -⟩ := h.cells
  rw [flat_encQ] at hp
  rw [List.length_map] at h ⊢
  have := lst_bd h
  exact ⟨a, cap, rfl, by rw [prs_ints, ← ints_of hp]; exact hat, this.1, this.2⟩
theorem lst_inv {F : Nat → Prop} {φ : Nat → Option Value} {w : World} {c : Value} {sz : Nat} {rows : List (List V)} (h : RS F φ w c (.c (.lst sz rows))) : Abs.RT F w c (.lst sz rows) := by
  cases h with | c h => cases h with | tree h => exact h
/-- a row of pairs made, and numbers behind it -/
theorem pc_rowN {f : Nat} {args : List S} {E : List (Int × Int)} {T : TypeId} {tl : List Int} (hf : ∃ fn, Try.prog.funcs[f]? = some fn ∧ (fn.name == "runtime.NumGoroutine") = false ∧ fn.body.isNone = false)
    (H : ∀ (F : Nat → Prop) (φ : Nat → Option Value) (w : World) (cs : Array Value), P2 (RS F φ w) cs.toList args → Calls Try.prog f cs w fun e w' => ∃ a c, e = .returned (.tuple (Value.slice a E.length c :: ints tl).toArray) ∧ w'.ownsRow w.heap.size T 2 (.slice a E.length c) E.length (Hd.prs E) ∧ w.grownBy w' none) :
    PCp f args [] (.tup (.c (.row 0) :: tl.map fun n => .c (.int .i64 n))) [.row T 2 (E.map encQ)] := by
  refine ⟨hf, fun F φ w cs hp hrp hφ => ?_⟩
  have hφ0 : φ 0 = none := by
    cases h : φ 0 with
    | none => rfl
    | some c => have := hφ 0 c h; simp at this
  refine (H F φ w cs hp).mono ?_
  rintro e w' ⟨a, c, rfl, hown, hg⟩
  refine ⟨_, F, addφ φ 0 (.slice a E.length c), _, _, ⟨rfl, rfl⟩, rfl, .tup _ _ (by simp [ints]) ?_, nx_made (by simp) hφ0 _ rfl _ hg.os hg.tape hg.output (fun d => absurd d id) hg.size (fun b hb => hg.block b hb (by simp)) ?_ ?_⟩
  · intro j x y h1 h2
    match j with
    | 0 => simp at h1 h2; subst h1 h2; exact .c (.row 0 _ (by simp [addφ]))
    | j + 1 =>
      simp only [List.getElem?_cons_succ, List.getElem?_map, ints] at h1 h2
      cases hk : tl[j]? with
      | none => rw [hk] at h1; simp at h1
      | some n => rw [hk] at h1 h2; simp at h1 h2; subst h1 h2; exact .c (.tree (.int _ _))
  · intro b hb'
    rcases hown.2 with ⟨hv, _⟩ | ⟨g, cap, cur, hv, h1, _⟩
    · simp only [Value.slice.injEq] at hv; obtain ⟨rfl, _, rfl⟩ := hv; simp [hb] at hb'
    · simp only [Value.slice.injEq] at hv
      obtain ⟨rfl, _, rfl⟩ := hv
      cases c with
      | zero => simp [hb] at hb'
      | succ m => simp [hb] at hb'; omega
  · refine RO.mkrow (c := .slice a E.length c) (xs := Hd.prs E) (by simp [addφ]) ?_ ?_ ?_ ?_
    · intro b hb' hF
      have := hrp.bd b hF
      rcases hown.2 with ⟨hv, _⟩ | ⟨g, cap, cur, hv, h1, _⟩
      · simp only [Value.slice.injEq] at hv; obtain ⟨rfl, _, rfl⟩ := hv; simp [hb] at hb'
      · simp only [Value.slice.injEq] at hv
        obtain ⟨rfl, _, rfl⟩ := hv
        cases c with
        | zero => simp [hb] at hb'
        | succ m => simp [hb] at hb'; omega
    · rw [List.length_map]
      refine ⟨hown.1, hown.2.imp id ?_⟩
      rintro ⟨g, cap, cur, h1, h2, h3⟩
      exact ⟨g, cap, cur, h1, Nat.zero_le _, h3⟩
    · rw [flat_encQ, prs_ints]
      unfold ints
      refine ⟨by simp, fun j x y h1 h2 => ?_⟩
      rw [List.getElem?_map] at h1 h2
      cases hk : (E.flatMap fun q => [q.1, q.2])[j]? with
      | none => rw [hk] at h1; simp at h1
      | some n => rw [hk] at h1 h2; simp at h1 h2; subst h1 h2; exact .int _ _
    · intro r hr
      obtain ⟨q, _, rfl⟩ := List.mem_map.1 hr
      rfl
/-- a result that is a value alone -/
theorem pc_int {f : Nat} {args : List S} {n : Int} (hf : ∃ fn, Try.prog.funcs[f]? = some fn ∧ (fn.name == "runtime.NumGoroutine") = false ∧ fn.body.isNone = false)
    (H : ∀ (F : Nat → Prop) (φ : Nat → Option Value) (w : World) (cs : Array Value), P2 (RS F φ w) cs.toList args → Calls Try.prog f cs w fun e w' => e = .returned (.int .i64 n) ∧ w.grownBy w' none) :
    PCp f args [] (.c (.int .i64 n)) [] := by
  refine ⟨hf, fun F φ w cs hp hrp hφ => (H F φ w cs hp).mono ?_⟩
  rintro e w' ⟨rfl, hg⟩
  refine ⟨_, F, φ, _, _, ⟨rfl, rfl⟩, rfl, .c (.tree (.int _ _)), ⟨fun _ h => h, fun _ _ h => h, fun _ _ h => .inl h, hg.os, hg.tape, hg.output, fun d => absurd d id, hg.size, fun b hb hne => (hne (hg.block b hb (by simp))).elim, fun b h => .inl h, ?_, ?_, ?_⟩⟩
  · intro l o h; simp [chOf, chGet] at h
  · intro l o b h; simp [chOf, chGet] at h
  · intro l l' o o' b h; simp [chOf, chGet] at h
end Go.Proofs.Ytjflmenfinohcaa

/- Drums, sections, rules and plans are made, by the abstract walk. -/
namespace Go.Proofs.Ytjflmenfinohcaa
set_option linter.unusedVariables false
set_option linter.unusedSimpArgs false
open Abs

def iterN {A : Type} (f : Nat → A → A) : Nat → A → A
  | 0, a => a
  | n + 1, a => f n (iterN f n a)
structure Pc where
  key : ByteArray
  kind : ByteArray
  long : Int
instance : Inhabited Pc := ⟨⟨default, default, 0⟩⟩
end Go.Proofs.Ytjflmenfinohcaa

/- Checks of drums, sections and rules, by the abstract walk. -/
namespace Go.Proofs.Ytjflmenfinohcaa
set_option linter.unusedVariables false
set_option linter.unusedSimpArgs false
open Abs

theorem drop_cons {α : Type} {l : List α} {k : Nat} (h : k < l.length) : l.drop k = l[k] :: l.drop (k + 1) := List.drop_eq_getElem_cons h

set_option maxRecDepth 100000 in
set_option maxHeartbeats 4000000 in
theorem errs_pc (l : List Int) (hl : l.length ≤ 1000000) : PCp 10 [.c (.lst 1 (l.map encI))] [] (.c (.int .i64 (firstErr l))) [] := by
  have hlm : (l.map encI).length = l.length := List.length_map ..
  refine fn_sound (mt := mts) tab_fits tab_mixed Try.func10 (by rfl) (by kernel_rfl) (by kernel_rfl) Try.results10 (Nat.le_of_ble_eq_true (by kernel_rfl)) ?_
  conv => whnf
  refine loop_count (l.length) [] [5, 6, 7] (fun k (_ : Unit) => ⟨[(5, .c (.lst 1 (l.map encI))), (6, .c (.int .i64 (l.map encI).length)), (7, .c (.int .i64 k))], [], 0⟩) (fun k (_ : Unit) => firstErr (l.drop k) = firstErr l) (()) ?_ ?_ ?_
  · conv => whnf
    exact ⟨rfl, rfl⟩
  · intro k _ hk hi
    rw [drop_cons hk, firstErr] at hi
    conv => whnf
    repeat' (first | ((first | refine Split.mk (fun h => ?_) (fun h => ?_) | refine CondG.mk (fun h => ?_) (fun h => ?_)) <;> (try simp only [decide_eq_true_eq, decide_eq_false_iff_not, Bool.not_eq_true', Bool.not_eq_false', beq_iff_eq, beq_eq_false_iff_ne] at h) <;> (first | (exfalso; first | omega | exact h trivial) | (conv => whnf))) | (refine Ask.mk (by first | omega | (unfold roomOK; simp [cutRows]; done) | (unfold roomOK; simp [cutRows]; omega)) ?_; conv => whnf) | (refine AppG.mk (by first | omega | (unfold roomOK; simp [cutRows]; done) | (unfold roomOK; simp [cutRows]; omega)) ?_; conv => whnf) | (refine SliceG.fr ?_; conv => whnf) | (refine BuildG.fr ?_; conv => whnf) | fail)
    refine idx_map k hk rfl ?_
    conv => whnf
    repeat' (first | ((first | refine Split.mk (fun h => ?_) (fun h => ?_) | refine CondG.mk (fun h => ?_) (fun h => ?_)) <;> (try simp only [decide_eq_true_eq, decide_eq_false_iff_not, Bool.not_eq_true', Bool.not_eq_false', beq_iff_eq, beq_eq_false_iff_ne] at h) <;> (first | (exfalso; first | omega | exact h trivial) | (conv => whnf))) | (refine Ask.mk (by first | omega | (unfold roomOK; simp [cutRows]; done) | (unfold roomOK; simp [cutRows]; omega)) ?_; conv => whnf) | (refine AppG.mk (by first | omega | (unfold roomOK; simp [cutRows]; done) | (unfold roomOK; simp [cutRows]; omega)) ?_; conv => whnf) | (refine SliceG.fr ?_; conv => whnf) | (refine BuildG.fr ?_; conv => whnf) | fail)
    · exact fini (by rw [← hi, if_neg (by simpa using h)])
    · refine count_next () hk (by rw [wrap_succ hk (by omega)]; rfl) ?_
      rw [← hi, if_pos (by simpa using h)]
  · intro _ hi
    rw [List.drop_of_length_le (Nat.le_refl _)] at hi
    conv => whnf
    repeat' (first | ((first | refine Split.mk (fun h => ?_) (fun h => ?_) | refine CondG.mk (fun h => ?_) (fun h => ?_)) <;> (try simp only [decide_eq_true_eq, decide_eq_false_iff_not, Bool.not_eq_true', Bool.not_eq_false', beq_iff_eq, beq_eq_false_iff_ne] at h) <;> (first | (exfalso; first | omega | exact h trivial) | (conv => whnf))) | (refine Ask.mk (by first | omega | (unfold roomOK; simp [cutRows]; done) | (unfold roomOK; simp [cutRows]; omega)) ?_; conv => whnf) | (refine AppG.mk (by first | omega | (unfold roomOK; simp [cutRows]; done) | (unfold roomOK; simp [cutRows]; omega)) ?_; conv => whnf) | (refine SliceG.fr ?_; conv => whnf) | (refine BuildG.fr ?_; conv => whnf) | fail)
    exact fini (by rw [← hi]; rfl)
end Go.Proofs.Ytjflmenfinohcaa

/- Strings are ordered; lists whose keys rise, and what is looked for in them. -/
namespace Go.Proofs.Ytjflmenfinohcaa
set_option linter.unusedVariables false
set_option linter.unusedSimpArgs false
open Abs

def ltB (a b : ByteArray) : Bool := Op.bytesLess a.toList b.toList
instance lawB : LawfulBEq ByteArray where
  eq_of_beq {a b} h := by
    obtain ⟨x⟩ := a
    obtain ⟨y⟩ := b
    have : x = y := eq_of_beq (show (x == y) = true from h)
    rw [this]
  rfl {a} := by
    obtain ⟨x⟩ := a
    exact show (x == x) = true from beq_self_eq_true x

/-! keys that rise -/
section
variable {α : Type} {key : α → ByteArray}
def Rise (key : α → ByteArray) (l : List α) : Prop := l.Pairwise fun x y => ltB (key x) (key y) = true
theorem Rise.at {l : List α} (h : Rise key l) {i j : Nat} (hij : i < j) (hj : j < l.length) : ltB (key (l[i]'(by omega))) (key l[j]) = true := List.pairwise_iff_getElem.1 h i j (by omega) hj hij
end
theorem all_succ' {α : Type} {p : α → Bool} {l : List α} {k : Nat} {hk : k < l.length} (hi : ∀ i (h : i < l.length), i < k → p l[i] = false) (h : p l[k] = false) : ∀ i (h : i < l.length), i < k + 1 → p l[i] = false := by
  intro i hi1 hi2
  rcases Nat.lt_or_ge i k with h3 | h3
  · exact hi i hi1 h3
  · have : i = k := by omega
    subst this; exact h
/-! searching in two halves -/
end Go.Proofs.Ytjflmenfinohcaa

/- Ducts and cables in them: what is computed, as functions on lists. -/
namespace Go.Proofs.Ytjflmenfinohcaa
set_option linter.unusedVariables false
set_option linter.unusedSimpArgs false
open Abs

/-! sums -/
end Go.Proofs.Ytjflmenfinohcaa

/- Plans: what is left on drums, by the abstract walk. -/
namespace Go.Proofs.Ytjflmenfinohcaa
set_option linter.unusedVariables false
set_option linter.unusedSimpArgs false
open Abs

/-- the index of the first one for which something is so -/
def idxP {α : Type} (p : α → Bool) (l : List α) : Int := if l.any p then (l.findIdx p : Int) else -1
theorem idxP_hit {α : Type} {p : α → Bool} {l : List α} {k : Nat} (hk : k < l.length) (h : ∀ i (hi : i < k), p (l[i]'(by omega)) = false) (hp : p l[k] = true) : idxP p l = k := by
  have h1 : l.any p = true := List.any_eq_true.2 ⟨_, List.getElem_mem hk, hp⟩
  have h2 : l.findIdx p = k := by
    rw [List.findIdx_eq hk]
    exact ⟨hp, fun j hj => by simpa using h j hj⟩
  rw [idxP, if_pos h1, h2]
theorem idxP_miss {α : Type} {p : α → Bool} {l : List α} (h : ∀ i (hi : i < l.length), p l[i] = false) : idxP p l = -1 := by
  have h1 : ¬ l.any p = true := by
    rw [List.any_eq_true]
    rintro ⟨x, hx, hp⟩
    obtain ⟨i, hi, rfl⟩ := List.getElem_of_mem hx
    rw [h i hi] at hp; cases hp
  rw [idxP, if_neg h1]
theorem idxP_any {α : Type} (p : α → Bool) (l : List α) : decide (0 ≤ idxP p l) = l.any p := by
  unfold idxP
  cases l.any p <;> simp
end Go.Proofs.Ytjflmenfinohcaa

/- Ducts and cables in them: lists searched. -/
namespace Go.Proofs.Ytjflmenfinohcaa
set_option linter.unusedVariables false
set_option linter.unusedSimpArgs false
open Abs

def isStr (t : S) : Prop := ∃ key : ByteArray, t = .c (.str key)
end Go.Proofs.Ytjflmenfinohcaa

/- Strings searched in two halves; lists copied. -/
namespace Go.Proofs.Ytjflmenfinohcaa
set_option linter.unusedVariables false
set_option linter.unusedSimpArgs false
open Abs

end Go.Proofs.Ytjflmenfinohcaa

/- Lists made of one number. -/
namespace Go.Proofs.Ytjflmenfinohcaa
set_option linter.unusedVariables false
set_option linter.unusedSimpArgs false
open Abs

/-! a number, some times -/
end Go.Proofs.Ytjflmenfinohcaa

/- Numbers, fractions, lists of strings. -/
namespace Go.Proofs.Ytjflmenfinohcaa
set_option linter.unusedVariables false
set_option linter.unusedSimpArgs false
open Abs

end Go.Proofs.Ytjflmenfinohcaa

/- Ducts and cables are made. -/
namespace Go.Proofs.Ytjflmenfinohcaa
set_option linter.unusedVariables false
set_option linter.unusedSimpArgs false
open Abs

def strOf : List V → ByteArray
  | [.str s] => s
  | _ => ⟨#[]⟩
theorem row_str {rows : List (List V)} {i : Nat} {k : List V → Prop} (h : rows = (rows.map strOf).map encS) (hi : i < rows.length) (hk : ∀ s : ByteArray, k (encS s)) : RowG rows i k := by
  refine .mk _ (List.getElem?_eq_getElem hi) ?_
  have : rows[i] = encS (strOf rows[i]) := by
    conv => lhs; rw [List.getElem_of_eq h hi]
    simp
  rw [this]
  exact hk _
end Go.Proofs.Ytjflmenfinohcaa

/- Events are made, as a function of the stream; their faults. -/
namespace Go.Proofs.Ytjflmenfinohcaa
set_option linter.unusedVariables false
set_option linter.unusedSimpArgs false
open Abs

theorem evs_fault_pc (l : List (Int × Int)) (hl : l.length ≤ 1000000) : PCp 11 [.c (.lst 2 (l.map encQ))] [] (.c (.int .i64 (Hd.evFault l))) [] := by
  refine pc_int ⟨_, Try.func11, by kernel_rfl, by kernel_rfl⟩ fun F φ w cs hp => ?_
  obtain ⟨x, xs, e1, r1, hp⟩ := hp.cons_inv
  have e3 := hp.nil_inv
  subst e3
  obtain ⟨a, cap, rfl, hat, h1, h2⟩ := lst_prs (lst_inv r1)
  rw [show cs = #[.slice a l.length cap] from Array.ext' e1]
  exact Hd.EventsFault_any a _ cap l w rfl (Nat.le_trans h1 h2) hat
/-! what is made, as a function of the stream -/
structure Gs (α : Type) where
  l : List α
  n : Int
  q : Int
/-! events, as functions of the stream -/
def evStep (L : List Int) (_ : Nat) (a : Gs (Int × Int)) : Gs (Int × Int) :=
  ⟨a.l ++ [(IntKind.i64.wrap (a.n + pickV L a.q [0, 1, 3, 10, 40]), pickV L (a.q + 1) [5, 7, 20, -3])], IntKind.i64.wrap (a.n + pickV L a.q [0, 1, 3, 10, 40]), a.q + 1 + 1⟩
def evIter (L : List Int) (p : Int) (k : Nat) : Gs (Int × Int) := iterN (evStep L) k ⟨[], 0, p + 1⟩
theorem evIter_bd (L : List Int) (p : Int) : ∀ k, (evIter L p k).l.length = k ∧ p + 1 ≤ (evIter L p k).q ∧ (evIter L p k).q ≤ p + 1 + 2 * k
  | 0 => by simp [evIter, iterN]
  | k + 1 => by
    have ih := evIter_bd L p k
    have e : evIter L p (k + 1) = evStep L k (evIter L p k) := rfl
    rw [e]
    generalize evIter L p k = a at *
    unfold evStep
    simp only [List.length_append, List.length_singleton]; omega
def evEnd (L : List Int) (a : Gs (Int × Int)) : List (Int × Int) × Int :=
  if 0 < a.l.length then (if nextV L a.q 12 == 0 then (a.l.set (nextV L (a.q + 1) (a.l.length : Nat)).toNat (pickV L (a.q + 1 + 1) [0, -1, 1000000, 1000001], pickV L (a.q + 1 + 1 + 1) [1, 10001, -10000]), a.q + 1 + 1 + 1 + 1) else (a.l, a.q + 1)) else (a.l, a.q)
def evListV (L : List Int) (p most : Int) : List (Int × Int) × Int := evEnd L (evIter L p (rangeV L p 0 most).toNat)
theorem evListV_bd (L : List Int) (p most : Int) (h0 : 0 ≤ most) : (evListV L p most).1.length ≤ most.toNat ∧ p ≤ (evListV L p most).2 ∧ (evListV L p most).2 ≤ p + 5 + 2 * most := by
  have hr := rangeV_in L p 0 most h0
  have := evIter_bd L p (rangeV L p 0 most).toNat
  unfold evListV
  generalize evIter L p (rangeV L p 0 most).toNat = a at *
  unfold evEnd
  (repeat' split) <;> simp only [List.length_set] <;> omega
set_option maxRecDepth 100000 in
set_option maxHeartbeats 4000000 in
theorem rEvList_pc {L : List Int} {p : Int} (hst : StOk L p) (hp : p ≤ 800000000) (most : Int) (hm : 0 ≤ most ∧ most ≤ 100) :
    PCp 4 [.c (.ptr 0 0), .c (.int .i64 most)] [stO L p] (.c (.lst 2 ((evListV L p most).1.map encQ))) [stO L (evListV L p most).2] := by
  have hS : ∀ x : Int, p ≤ x → x ≤ p + 500 → StOk L x := fun x h3 h4 => ⟨hst.1, by have := hst.2.1; omega, by omega⟩
  have hr := rangeV_in L p 0 most (by omega)
  have hV : evListV L p most = evEnd L (evIter L p (rangeV L p 0 most).toNat) := rfl
  obtain ⟨n, hn⟩ := Int.eq_ofNat_of_zero_le hr.1
  rw [hn, Int.toNat_natCast] at hV
  rw [hV]
  clear hV
  have hQ0 : ∀ x : Int, p ≤ x → x ≤ p + 14 → StOk L x := fun x h3 h4 => hS x (by omega) (by omega)
  have hB := evIter_bd L p
  refine fn_sound (mt := mts) tab_fits tab_mixed Try.func4 (by rfl) (by kernel_rfl) (by kernel_rfl) Try.results4 (Nat.le_of_ble_eq_true (by kernel_rfl)) ?_
  conv => whnf
  repeat' (first | ((first | refine Split.mk (fun h => ?_) (fun h => ?_) | refine CondG.mk (fun h => ?_) (fun h => ?_)) <;> (try simp only [decide_eq_true_eq, decide_eq_false_iff_not, Bool.not_eq_true', Bool.not_eq_false', beq_iff_eq, beq_eq_false_iff_ne, bne_iff_ne, bne_eq_false_iff_eq] at h) <;> (first | (exfalso; first | omega | exact h trivial) | (conv => whnf))) | (refine CallX.mk _ _ (by first | exact range_ok (hQ0 _ (by omega) (by omega)) 0 most (by omega) (small_lit (by omega)) (small_lit (by omega))) ?_; conv => whnf) | (refine CallG.mk _ _ (by first | exact range_ok (hQ0 _ (by omega) (by omega)) 0 most (by omega) (small_lit (by omega)) (small_lit (by omega))) ?_; conv => whnf) | (refine Ask.mk (by first | omega | (unfold roomOK; simp [cutRows]; done) | (unfold roomOK; simp [cutRows]; omega) | (simp [cutRows]; done) | (simp [cutRows]; omega)) ?_; conv => whnf) | (refine AppG.mk (by first | omega | (unfold roomOK; simp [cutRows]; done) | (unfold roomOK; simp [cutRows]; omega) | (simp [cutRows]; done) | (simp [cutRows]; omega)) ?_; conv => whnf) | (refine SliceG.fr ?_; conv => whnf) | (refine BuildG.fr ?_; conv => whnf) | (refine idx_at _ (by with_reducible rfl) (by first | assumption | omega) ?_; conv => whnf) | ((with_reducible refine row_map (by first | assumption | omega) ?_); conv => whnf) | ((with_reducible refine row_set (by first | assumption | omega | (simp only [List.length_set]; omega) | (simp; omega)) ?_); conv => whnf) | fail)
  rw [hn]
  refine loop_for (n) [.sl 5 32 2] [0, 5, 6, 9, 10] (fun k (_ : Unit) => [(6, .c (.int .i64 (evIter L p k).n)), (10, .c (.int .i64 (k : Int)))]) (fun k (_ : Unit) => [(0, stO L (evIter L p k).q), (1, .row 32 2 ((evIter L p k).l.map encQ))]) (fun k (_ : Unit) => True) (()) ?_
  conv => whnf
  refine ⟨(by first | rfl | (simp; done) | (simp; rfl)), (by trivial), ?_, ?_⟩
  · intro k _ hk _
    have hbk := hB k
    have e : evIter L p (k + 1) = evStep L k (evIter L p k) := rfl
    generalize evIter L p k = a at *
    obtain ⟨d, nw, q⟩ := a
    simp only at hbk ⊢
    have hlm : (d.map encQ).length = d.length := List.length_map ..
    have hQ : ∀ x : Int, q ≤ x → x ≤ q + 14 → StOk L x := fun x h3 h4 => hS x (by omega) (by omega)
    conv => whnf
    repeat' (first | ((first | refine Split.mk (fun h => ?_) (fun h => ?_) | refine CondG.mk (fun h => ?_) (fun h => ?_)) <;> (try simp only [decide_eq_true_eq, decide_eq_false_iff_not, Bool.not_eq_true', Bool.not_eq_false', beq_iff_eq, beq_eq_false_iff_ne, bne_iff_ne, bne_eq_false_iff_eq] at h) <;> (first | (exfalso; first | omega | exact h trivial | (simp [cutRows] at h; done) | (simp [cutRows] at h; omega)) | (conv => whnf))) | (refine CallX.mk _ _ (by first | exact flip_ok (hQ _ (by omega) (by omega)) _ (by omega) | exact next_ok (hQ _ (by omega) (by omega)) _ (by omega) | exact range_ok (hQ _ (by omega) (by omega)) _ _ (by omega) (small_lit (by omega)) (small_lit (by omega)) | exact odd_ok (hQ _ (by omega) (by omega)) (hQ _ (by omega) (by omega)) _ _ (small_lit (by omega)) (small_lit (by omega)) (by omega) | exact pick_ok (hQ _ (by omega) (by omega)) [_] (by simp) (by simp) | exact pick_ok (hQ _ (by omega) (by omega)) [_, _] (by simp) (by simp) | exact pick_ok (hQ _ (by omega) (by omega)) [_, _, _] (by simp) (by simp) | exact pick_ok (hQ _ (by omega) (by omega)) [_, _, _, _] (by simp) (by simp) | exact pick_ok (hQ _ (by omega) (by omega)) [_, _, _, _, _] (by simp) (by simp) | exact pick_ok (hQ _ (by omega) (by omega)) [_, _, _, _, _, _] (by simp) (by simp) | exact pick_ok (hQ _ (by omega) (by omega)) [_, _, _, _, _, _, _] (by simp) (by simp) | exact pick_ok (hQ _ (by omega) (by omega)) [_, _, _, _, _, _, _, _] (by simp) (by simp) | exact pick_ok (hQ _ (by omega) (by omega)) [_, _, _, _, _, _, _, _, _] (by simp) (by simp) | exact pick_ok (hQ _ (by omega) (by omega)) [_, _, _, _, _, _, _, _, _, _] (by simp) (by simp) | exact some_ok (hQ _ (by omega) (by omega)) [_] (by simp) (by simp) | exact some_ok (hQ _ (by omega) (by omega)) [_, _] (by simp) (by simp) | exact some_ok (hQ _ (by omega) (by omega)) [_, _, _] (by simp) (by simp) | exact some_ok (hQ _ (by omega) (by omega)) [_, _, _, _] (by simp) (by simp) | exact some_ok (hQ _ (by omega) (by omega)) [_, _, _, _, _] (by simp) (by simp) | exact some_ok (hQ _ (by omega) (by omega)) [_, _, _, _, _, _] (by simp) (by simp) | exact some_ok (hQ _ (by omega) (by omega)) [_, _, _, _, _, _, _] (by simp) (by simp) | exact some_ok (hQ _ (by omega) (by omega)) [_, _, _, _, _, _, _, _] (by simp) (by simp)) ?_; conv => whnf) | (refine CallG.mk _ _ (by first | exact flip_ok (hQ _ (by omega) (by omega)) _ (by omega) | exact next_ok (hQ _ (by omega) (by omega)) _ (by omega) | exact range_ok (hQ _ (by omega) (by omega)) _ _ (by omega) (small_lit (by omega)) (small_lit (by omega)) | exact odd_ok (hQ _ (by omega) (by omega)) (hQ _ (by omega) (by omega)) _ _ (small_lit (by omega)) (small_lit (by omega)) (by omega) | exact pick_ok (hQ _ (by omega) (by omega)) [_] (by simp) (by simp) | exact pick_ok (hQ _ (by omega) (by omega)) [_, _] (by simp) (by simp) | exact pick_ok (hQ _ (by omega) (by omega)) [_, _, _] (by simp) (by simp) | exact pick_ok (hQ _ (by omega) (by omega)) [_, _, _, _] (by simp) (by simp) | exact pick_ok (hQ _ (by omega) (by omega)) [_, _, _, _, _] (by simp) (by simp) | exact pick_ok (hQ _ (by omega) (by omega)) [_, _, _, _, _, _] (by simp) (by simp) | exact pick_ok (hQ _ (by omega) (by omega)) [_, _, _, _, _, _, _] (by simp) (by simp) | exact pick_ok (hQ _ (by omega) (by omega)) [_, _, _, _, _, _, _, _] (by simp) (by simp) | exact pick_ok (hQ _ (by omega) (by omega)) [_, _, _, _, _, _, _, _, _] (by simp) (by simp) | exact pick_ok (hQ _ (by omega) (by omega)) [_, _, _, _, _, _, _, _, _, _] (by simp) (by simp) | exact some_ok (hQ _ (by omega) (by omega)) [_] (by simp) (by simp) | exact some_ok (hQ _ (by omega) (by omega)) [_, _] (by simp) (by simp) | exact some_ok (hQ _ (by omega) (by omega)) [_, _, _] (by simp) (by simp) | exact some_ok (hQ _ (by omega) (by omega)) [_, _, _, _] (by simp) (by simp) | exact some_ok (hQ _ (by omega) (by omega)) [_, _, _, _, _] (by simp) (by simp) | exact some_ok (hQ _ (by omega) (by omega)) [_, _, _, _, _, _] (by simp) (by simp) | exact some_ok (hQ _ (by omega) (by omega)) [_, _, _, _, _, _, _] (by simp) (by simp) | exact some_ok (hQ _ (by omega) (by omega)) [_, _, _, _, _, _, _, _] (by simp) (by simp)) ?_; conv => whnf) | (refine Ask.mk (by first | omega | (unfold roomOK; simp [cutRows]; done) | (unfold roomOK; simp [cutRows]; omega) | (simp [cutRows]; done) | (simp [cutRows]; omega)) ?_; conv => whnf) | (refine AppG.mk (by first | omega | (unfold roomOK; simp [cutRows]; done) | (unfold roomOK; simp [cutRows]; omega) | (simp [cutRows]; done) | (simp [cutRows]; omega)) ?_; conv => whnf) | (refine SliceG.fr ?_; conv => whnf) | (refine BuildG.fr ?_; conv => whnf) | (refine idx_at _ (by with_reducible rfl) (by first | assumption | omega) ?_; conv => whnf) | ((with_reducible refine row_map (by first | assumption | omega) ?_); conv => whnf) | (refine row_str (by rfl) (by first | (simp [cutRows]; done) | (simp [cutRows]; omega)) ?_; intro str; conv => whnf) | ((with_reducible refine row_set (by first | assumption | omega | (simp only [List.length_set]; omega) | (simp; omega)) ?_); conv => whnf) | fail)
    exact count_next () hk (by rw [wrap_succ hk (by omega), e]; unfold evStep; simp only [List.map_append]; rfl) trivial
  · intro _ _
    have hbk := hB n
    generalize evIter L p n = a at *
    obtain ⟨d, nw, q⟩ := a
    simp only at hbk ⊢
    have hlm : (d.map encQ).length = d.length := List.length_map ..
    have hQ : ∀ x : Int, q ≤ x → x ≤ q + 14 → StOk L x := fun x h3 h4 => hS x (by omega) (by omega)
    have ni : 0 < (((d.map encQ).length : Nat) : Int) → 0 ≤ nextV L (q + 1) ((d.map encQ).length : Nat) ∧ nextV L (q + 1) ((d.map encQ).length : Nat) < ((d.map encQ).length : Nat) := fun h => nextV_lt _ _ _ (by omega)
    conv => whnf
    repeat' (first | ((first | refine Split.mk (fun h => ?_) (fun h => ?_) | refine CondG.mk (fun h => ?_) (fun h => ?_)) <;> (try simp only [decide_eq_true_eq, decide_eq_false_iff_not, Bool.not_eq_true', Bool.not_eq_false', beq_iff_eq, beq_eq_false_iff_ne, bne_iff_ne, bne_eq_false_iff_eq] at h) <;> (first | (exfalso; first | omega | exact h trivial | (simp [cutRows] at h; done) | (simp [cutRows] at h; omega)) | (conv => whnf))) | (refine CallX.mk _ _ (by first | exact flip_ok (hQ _ (by omega) (by omega)) _ (by omega) | exact next_ok (hQ _ (by omega) (by omega)) _ (by omega) | exact range_ok (hQ _ (by omega) (by omega)) _ _ (by omega) (small_lit (by omega)) (small_lit (by omega)) | exact odd_ok (hQ _ (by omega) (by omega)) (hQ _ (by omega) (by omega)) _ _ (small_lit (by omega)) (small_lit (by omega)) (by omega) | exact pick_ok (hQ _ (by omega) (by omega)) [_] (by simp) (by simp) | exact pick_ok (hQ _ (by omega) (by omega)) [_, _] (by simp) (by simp) | exact pick_ok (hQ _ (by omega) (by omega)) [_, _, _] (by simp) (by simp) | exact pick_ok (hQ _ (by omega) (by omega)) [_, _, _, _] (by simp) (by simp) | exact pick_ok (hQ _ (by omega) (by omega)) [_, _, _, _, _] (by simp) (by simp) | exact pick_ok (hQ _ (by omega) (by omega)) [_, _, _, _, _, _] (by simp) (by simp) | exact pick_ok (hQ _ (by omega) (by omega)) [_, _, _, _, _, _, _] (by simp) (by simp) | exact pick_ok (hQ _ (by omega) (by omega)) [_, _, _, _, _, _, _, _] (by simp) (by simp) | exact pick_ok (hQ _ (by omega) (by omega)) [_, _, _, _, _, _, _, _, _] (by simp) (by simp) | exact pick_ok (hQ _ (by omega) (by omega)) [_, _, _, _, _, _, _, _, _, _] (by simp) (by simp) | exact some_ok (hQ _ (by omega) (by omega)) [_] (by simp) (by simp) | exact some_ok (hQ _ (by omega) (by omega)) [_, _] (by simp) (by simp) | exact some_ok (hQ _ (by omega) (by omega)) [_, _, _] (by simp) (by simp) | exact some_ok (hQ _ (by omega) (by omega)) [_, _, _, _] (by simp) (by simp) | exact some_ok (hQ _ (by omega) (by omega)) [_, _, _, _, _] (by simp) (by simp) | exact some_ok (hQ _ (by omega) (by omega)) [_, _, _, _, _, _] (by simp) (by simp) | exact some_ok (hQ _ (by omega) (by omega)) [_, _, _, _, _, _, _] (by simp) (by simp) | exact some_ok (hQ _ (by omega) (by omega)) [_, _, _, _, _, _, _, _] (by simp) (by simp)) ?_; conv => whnf) | (refine CallG.mk _ _ (by first | exact flip_ok (hQ _ (by omega) (by omega)) _ (by omega) | exact next_ok (hQ _ (by omega) (by omega)) _ (by omega) | exact range_ok (hQ _ (by omega) (by omega)) _ _ (by omega) (small_lit (by omega)) (small_lit (by omega)) | exact odd_ok (hQ _ (by omega) (by omega)) (hQ _ (by omega) (by omega)) _ _ (small_lit (by omega)) (small_lit (by omega)) (by omega) | exact pick_ok (hQ _ (by omega) (by omega)) [_] (by simp) (by simp) | exact pick_ok (hQ _ (by omega) (by omega)) [_, _] (by simp) (by simp) | exact pick_ok (hQ _ (by omega) (by omega)) [_, _, _] (by simp) (by simp) | exact pick_ok (hQ _ (by omega) (by omega)) [_, _, _, _] (by simp) (by simp) | exact pick_ok (hQ _ (by omega) (by omega)) [_, _, _, _, _] (by simp) (by simp) | exact pick_ok (hQ _ (by omega) (by omega)) [_, _, _, _, _, _] (by simp) (by simp) | exact pick_ok (hQ _ (by omega) (by omega)) [_, _, _, _, _, _, _] (by simp) (by simp) | exact pick_ok (hQ _ (by omega) (by omega)) [_, _, _, _, _, _, _, _] (by simp) (by simp) | exact pick_ok (hQ _ (by omega) (by omega)) [_, _, _, _, _, _, _, _, _] (by simp) (by simp) | exact pick_ok (hQ _ (by omega) (by omega)) [_, _, _, _, _, _, _, _, _, _] (by simp) (by simp) | exact some_ok (hQ _ (by omega) (by omega)) [_] (by simp) (by simp) | exact some_ok (hQ _ (by omega) (by omega)) [_, _] (by simp) (by simp) | exact some_ok (hQ _ (by omega) (by omega)) [_, _, _] (by simp) (by simp) | exact some_ok (hQ _ (by omega) (by omega)) [_, _, _, _] (by simp) (by simp) | exact some_ok (hQ _ (by omega) (by omega)) [_, _, _, _, _] (by simp) (by simp) | exact some_ok (hQ _ (by omega) (by omega)) [_, _, _, _, _, _] (by simp) (by simp) | exact some_ok (hQ _ (by omega) (by omega)) [_, _, _, _, _, _, _] (by simp) (by simp) | exact some_ok (hQ _ (by omega) (by omega)) [_, _, _, _, _, _, _, _] (by simp) (by simp)) ?_; conv => whnf) | (refine Ask.mk (by first | omega | (unfold roomOK; simp [cutRows]; done) | (unfold roomOK; simp [cutRows]; omega) | (simp [cutRows]; done) | (simp [cutRows]; omega)) ?_; conv => whnf) | (refine AppG.mk (by first | omega | (unfold roomOK; simp [cutRows]; done) | (unfold roomOK; simp [cutRows]; omega) | (simp [cutRows]; done) | (simp [cutRows]; omega)) ?_; conv => whnf) | (refine SliceG.fr ?_; conv => whnf) | (refine BuildG.fr ?_; conv => whnf) | (refine idx_at _ (by with_reducible rfl) (by first | assumption | omega) ?_; conv => whnf) | ((with_reducible refine row_map (by first | assumption | omega) ?_); conv => whnf) | (refine row_str (by rfl) (by first | (simp [cutRows]; done) | (simp [cutRows]; omega)) ?_; intro str; conv => whnf) | ((with_reducible refine row_set (by first | assumption | omega | (simp only [List.length_set]; omega) | (simp; omega)) ?_); conv => whnf) | fail)
    · have p1 : 0 < d.length := by omega
      have e : evEnd L ⟨d, nw, q⟩ = (d.set (nextV L (q + 1) (d.length : Nat)).toNat (pickV L (q + 1 + 1) [0, -1, 1000000, 1000001], pickV L (q + 1 + 1 + 1) [1, 10001, -10000]), q + 1 + 1 + 1 + 1) := by
        unfold evEnd; rw [if_pos p1, if_pos (by simpa using h)]
      rw [e]
      exact .frz 1 _ _ _ rfl (.weak [_] (.fro 1 _ _ (by simp only [List.length_map, List.map_set]; rfl)) rfl (Nat.le_refl _))
    · have p1 : 0 < d.length := by omega
      have e : evEnd L ⟨d, nw, q⟩ = (d, q + 1) := by
        unfold evEnd; rw [if_pos p1, if_neg (by simpa using h)]
      rw [e]
      exact .frz 1 _ _ _ rfl (.weak [_] (.fro 1 _ _ rfl) rfl (Nat.le_refl _))
    · have e : evEnd L ⟨d, nw, q⟩ = (d, q) := by
        unfold evEnd; rw [if_neg (by simp only; omega)]
      rw [e]
      exact .frz 1 _ _ _ rfl (.weak [_] (.fro 1 _ _ rfl) rfl (Nat.le_refl _))
end Go.Proofs.Ytjflmenfinohcaa

/- Traces and events are made; plain facts on excesses. -/
namespace Go.Proofs.Ytjflmenfinohcaa
set_option linter.unusedVariables false
set_option linter.unusedSimpArgs false
open Abs

/-! excesses -/
theorem win_len (p : List Int) (lo m : Nat) (h : lo + m ≤ p.length) : (Hd.win p lo m).length = m := by unfold Hd.win; simp; omega
end Go.Proofs.Ytjflmenfinohcaa

/- Events are made; Match by its hand-walked contract. -/
namespace Go.Proofs.Ytjflmenfinohcaa
set_option linter.unusedVariables false
set_option linter.unusedSimpArgs false
open Abs

theorem match_pc (A B : List (Int × Int)) (near : Int) : PCp 8 [.c (.lst 2 (A.map encQ)), .c (.lst 2 (B.map encQ)), .c (.int .i64 near)] [] (.tup [.c (.row 0), .c (.int .i64 (Hd.mS A B near)), .c (.int .i64 (Hd.mErr A B near))]) [.row 48 2 ((Hd.mpI (Hd.mL A B near)).map encQ)] := by
  refine pc_rowN (tl := [_, _]) ⟨_, Try.func8, by kernel_rfl, by kernel_rfl⟩ fun F φ w cs hp => ?_
  obtain ⟨x, xs, e1, r1, hp⟩ := hp.cons_inv
  obtain ⟨y, ys, e2, r2, hp⟩ := hp.cons_inv
  obtain ⟨z, zs, e3, r3, hp⟩ := hp.cons_inv
  have e4 := hp.nil_inv
  subst e4 e3 e2
  obtain ⟨a, ca, rfl, hA, a1, a2⟩ := lst_prs (lst_inv r1)
  obtain ⟨b, cb, rfl, hB, b1, b2⟩ := lst_prs (lst_inv r2)
  have := r3.int_inv
  subst this
  rw [show cs = #[.slice a A.length ca, .slice b B.length cb, .int .i64 near] from Array.ext' e1]
  refine (Hd.match_any a b ca cb A B near w hA hB (Nat.le_trans a1 a2) (Nat.le_trans b1 b2)).mono ?_
  rintro e w' ⟨a', c', rfl, h1, h2⟩
  rw [Hd.mpI_len]
  exact ⟨a', c', rfl, h1, h2⟩
theorem matching_pc (A B : List (Int × Int)) (near : Int) (hA0 : Hd.evFault A = 0) (hB0 : Hd.evFault B = 0) : PCp 21 [.c (.lst 2 (A.map encQ)), .c (.lst 2 (B.map encQ)), .c (.int .i64 near)] [] (.tup [.c (.row 0), .c (.int .i64 (Hd.bestM A B near 0 0).2)]) [.row 48 2 ((Hd.mpI (Hd.bestM A B near 0 0).1).map encQ)] := by
  refine pc_rowN (tl := [_]) ⟨_, Try.func21, by kernel_rfl, by kernel_rfl⟩ fun F φ w cs hp => ?_
  obtain ⟨x, xs, e1, r1, hp⟩ := hp.cons_inv
  obtain ⟨y, ys, e2, r2, hp⟩ := hp.cons_inv
  obtain ⟨z, zs, e3, r3, hp⟩ := hp.cons_inv
  have e4 := hp.nil_inv
  subst e4 e3 e2
  obtain ⟨a, ca, rfl, hA, a1, a2⟩ := lst_prs (lst_inv r1)
  obtain ⟨b, cb, rfl, hB, b1, b2⟩ := lst_prs (lst_inv r2)
  have := r3.int_inv
  subst this
  rw [show cs = #[.slice a A.length ca, .slice b B.length cb, .int .i64 near] from Array.ext' e1]
  obtain ⟨p1, p2, -⟩ := Hd.evFault_ok hA0
  obtain ⟨q1, q2, -⟩ := Hd.evFault_ok hB0
  refine (Hd.matching_any a b ca cb A B near w hA hB p1 q1 p2 q2).mono ?_
  rintro e w' ⟨a', c', rfl, h1, h2⟩
  rw [Hd.mpI_len]
  exact ⟨a', c', rfl, h1, h2⟩
theorem matchFault_pc (A B : List (Int × Int)) (near : Int) : PCp 20 [.c (.lst 2 (A.map encQ)), .c (.lst 2 (B.map encQ)), .c (.int .i64 near)] [] (.c (.int .i64 (Hd.mErr A B near))) [] := by
  refine pc_int ⟨_, Try.func20, by kernel_rfl, by kernel_rfl⟩ fun F φ w cs hp => ?_
  obtain ⟨x, xs, e1, r1, hp⟩ := hp.cons_inv
  obtain ⟨y, ys, e2, r2, hp⟩ := hp.cons_inv
  obtain ⟨z, zs, e3, r3, hp⟩ := hp.cons_inv
  have e4 := hp.nil_inv
  subst e4 e3 e2
  obtain ⟨a, ca, rfl, hA, a1, a2⟩ := lst_prs (lst_inv r1)
  obtain ⟨b, cb, rfl, hB, b1, b2⟩ := lst_prs (lst_inv r2)
  have := r3.int_inv
  subst this
  rw [show cs = #[.slice a A.length ca, .slice b B.length cb, .int .i64 near] from Array.ext' e1]
  exact Hd.matchfault_any a b ca cb A B near w hA hB (Nat.le_trans a1 a2) (Nat.le_trans b1 b2)

end Go.Proofs.Ytjflmenfinohcaa

/- The document's matching: which of two is better. -/
namespace Go.Proofs.Ytjflmenfinohcaa
set_option linter.unusedVariables false
set_option linter.unusedSimpArgs false
open Abs

theorem sboolR {a b : Bool} (h : a = b) : oneOf [S.c (.bool a)] = S.c (.bool b) := by rw [h]; rfl
def encM (p : Nat × Nat) : List V := [.int .i64 ((p.1 : Nat) : Int), .int .i64 ((p.2 : Nat) : Int)]
theorem mpI_enc (L : List (Nat × Nat)) : (Hd.mpI L).map encQ = L.map encM := by unfold Hd.mpI; rw [List.map_map]; rfl
def sgM (n : Int) : Int := if n < 0 then -1 else if 0 < n then 1 else 0
set_option maxRecDepth 100000 in
set_option maxHeartbeats 4000000 in
theorem rsign_pc (n : Int) : PCp 38 [.c (.int .i64 n)] [] (.c (.int .i64 (sgM n))) [] := by
  refine fn_sound (mt := mts) tab_fits tab_mixed Try.func38 (by rfl) (by kernel_rfl) (by kernel_rfl) Try.results38 (Nat.le_of_ble_eq_true (by kernel_rfl)) ?_
  conv => whnf
  repeat' (first | ((first | refine Split.mk (fun h => ?_) (fun h => ?_) | refine CondG.mk (fun h => ?_) (fun h => ?_)) <;> (try simp only [decide_eq_true_eq, decide_eq_false_iff_not, Bool.not_eq_true', Bool.not_eq_false', beq_iff_eq, beq_eq_false_iff_ne, bne_iff_ne, bne_eq_false_iff_eq] at h) <;> (first | (exfalso; first | omega | exact h trivial) | (conv => whnf))) | (refine Ask.mk (by first | omega | (unfold roomOK; simp [cutRows]; done) | (unfold roomOK; simp [cutRows]; omega) | (simp [cutRows]; done) | (simp [cutRows]; omega)) ?_; conv => whnf) | (refine AppG.mk (by first | omega | (unfold roomOK; simp [cutRows]; done) | (unfold roomOK; simp [cutRows]; omega) | (simp [cutRows]; done) | (simp [cutRows]; omega)) ?_; conv => whnf) | (refine SliceG.fr ?_; conv => whnf) | (refine BuildG.fr ?_; conv => whnf) | (refine idx_at _ (by with_reducible rfl) (by first | assumption | omega) ?_; conv => whnf) | ((with_reducible refine row_map (by first | assumption | omega) ?_); conv => whnf) | ((with_reducible refine row_set (by first | assumption | omega | (simp only [List.length_set]; omega) | (simp; omega)) ?_); conv => whnf) | fail)
  all_goals exact fini (by unfold sgM; (repeat' split) <;> omega)
def cmpMt (a b : Nat × Nat) : Int := if a.1 ≠ b.1 then sgM ((a.1 : Int) - (b.1 : Int)) else sgM ((a.2 : Int) - (b.2 : Int))
def cmpML : List (Nat × Nat) → List (Nat × Nat) → Int
  | [], [] => 0
  | [], _ :: _ => -1
  | _ :: _, [] => 1
  | x :: r, y :: t => if cmpMt x y = 0 then cmpML r t else cmpMt x y
theorem cmpML_lex : ∀ a b : List (Nat × Nat), (cmpML a b < 0) ↔ Hd.Mat.lexlt a b = true
  | [], [] => by simp [cmpML, Hd.Mat.lexlt]
  | [], _ :: _ => by simp [cmpML, Hd.Mat.lexlt]
  | _ :: _, [] => by simp [cmpML, Hd.Mat.lexlt]
  | x :: r, y :: t => by
    have ih := cmpML_lex r t
    simp only [cmpML, Hd.Mat.lexlt]
    unfold cmpMt sgM
    by_cases h1 : x.1 = y.1
    · by_cases h2 : x.2 = y.2
      · simp only [h1, h2]; simp; exact ih
      · rw [if_pos h1, if_neg h2, decide_eq_true_eq]
        simp only [h1]
        (repeat' split) <;> omega
    · rw [if_neg h1, decide_eq_true_eq]
      simp only [ne_eq, h1, not_false_eq_true, if_true]
      (repeat' split) <;> omega
set_option maxRecDepth 100000 in
set_option maxHeartbeats 4000000 in
theorem rM1_pc (a b : Nat × Nat) (ha : a.1 ≤ 1000 ∧ a.2 ≤ 1000) (hb : b.1 ≤ 1000 ∧ b.2 ≤ 1000) : PCp 37 [.agg (encM a), .agg (encM b)] [] (.c (.int .i64 (cmpMt a b))) [] := by
  have w1 : IntKind.i64.wrap ((a.1 : Int) - (b.1 : Int)) = (a.1 : Int) - (b.1 : Int) := wrap_in (by omega) (by omega)
  have w2 : IntKind.i64.wrap ((a.2 : Int) - (b.2 : Int)) = (a.2 : Int) - (b.2 : Int) := wrap_in (by omega) (by omega)
  refine fn_sound (mt := mts) tab_fits tab_mixed Try.func37 (by rfl) (by kernel_rfl) (by kernel_rfl) Try.results37 (Nat.le_of_ble_eq_true (by kernel_rfl)) ?_
  conv => whnf
  repeat' (first | ((first | refine Split.mk (fun h => ?_) (fun h => ?_) | refine CondG.mk (fun h => ?_) (fun h => ?_)) <;> (try simp only [decide_eq_true_eq, decide_eq_false_iff_not, Bool.not_eq_true', Bool.not_eq_false', beq_iff_eq, beq_eq_false_iff_ne, bne_iff_ne, bne_eq_false_iff_eq] at h) <;> (first | (exfalso; first | omega | exact h trivial) | (conv => whnf))) | (refine CallX.mk _ _ (by first | exact rsign_pc _) ?_; conv => whnf) | (refine CallG.mk _ _ (by first | exact rsign_pc _) ?_; conv => whnf) | (refine Ask.mk (by first | omega | (unfold roomOK; simp [cutRows]; done) | (unfold roomOK; simp [cutRows]; omega) | (simp [cutRows]; done) | (simp [cutRows]; omega)) ?_; conv => whnf) | (refine AppG.mk (by first | omega | (unfold roomOK; simp [cutRows]; done) | (unfold roomOK; simp [cutRows]; omega) | (simp [cutRows]; done) | (simp [cutRows]; omega)) ?_; conv => whnf) | (refine SliceG.fr ?_; conv => whnf) | (refine BuildG.fr ?_; conv => whnf) | (refine idx_at _ (by with_reducible rfl) (by first | assumption | omega) ?_; conv => whnf) | ((with_reducible refine row_map (by first | assumption | omega) ?_); conv => whnf) | ((with_reducible refine row_set (by first | assumption | omega | (simp only [List.length_set]; omega) | (simp; omega)) ?_); conv => whnf) | fail)
  · exact fini (by rw [w1]; unfold cmpMt; rw [if_pos (by omega)])
  · exact fini (by rw [w2]; unfold cmpMt; rw [if_neg (by omega)])
set_option maxRecDepth 100000 in
set_option maxHeartbeats 4000000 in
theorem rCmpM_pc (a b : List (Nat × Nat)) (ha : a.length ≤ 1000000) (hb : b.length ≤ 1000000) (ha2 : ∀ p ∈ a, p.1 ≤ 1000 ∧ p.2 ≤ 1000) (hb2 : ∀ p ∈ b, p.1 ≤ 1000 ∧ p.2 ≤ 1000) : PCp 36 [.c (.lst 2 (a.map encM)), .c (.lst 2 (b.map encM)), .c (.fn 37 [])] [] (.c (.int .i64 (cmpML a b))) [] := by
  have ham : (a.map encM).length = a.length := List.length_map ..
  have hbm : (b.map encM).length = b.length := List.length_map ..
  refine fn_sound (mt := mts) tab_fits tab_mixed Try.func36 (by rfl) (by kernel_rfl) (by kernel_rfl) Try.results36 (Nat.le_of_ble_eq_true (by kernel_rfl)) ?_
  conv => whnf
  refine loop_for (a.length) [] [0, 1, 2, 11, 12, 13] (fun k (_ : Unit) => [(13, .c (.int .i64 (k : Int)))]) (fun k (_ : Unit) => []) (fun k (_ : Unit) => k ≤ b.length ∧ cmpML (a.drop k) (b.drop k) = cmpML a b) (()) ?_
  conv => whnf
  refine ⟨(by first | rfl | (simp; done) | (simp; rfl)), ?_, ?_, ?_⟩
  · exact ⟨by omega, rfl⟩
  · intro k _ hk ⟨h1, h2⟩
    rw [List.drop_eq_getElem_cons hk] at h2
    by_cases hk2 : k < b.length
    · have c1 := rM1_pc a[k] b[k] (ha2 _ (List.getElem_mem hk)) (hb2 _ (List.getElem_mem hk2))
      conv => whnf
      repeat' (first | ((first | refine Split.mk (fun h => ?_) (fun h => ?_) | refine CondG.mk (fun h => ?_) (fun h => ?_)) <;> (try simp only [decide_eq_true_eq, decide_eq_false_iff_not, Bool.not_eq_true', Bool.not_eq_false', beq_iff_eq, beq_eq_false_iff_ne, bne_iff_ne, bne_eq_false_iff_eq] at h) <;> (first | (exfalso; first | omega | exact h trivial) | (conv => whnf))) | (refine CallX.mk _ _ (by first | exact c1) ?_; conv => whnf) | (refine CallG.mk _ _ (by first | exact c1) ?_; conv => whnf) | (refine Ask.mk (by first | omega | (unfold roomOK; simp [cutRows]; done) | (unfold roomOK; simp [cutRows]; omega) | (simp [cutRows]; done) | (simp [cutRows]; omega)) ?_; conv => whnf) | (refine AppG.mk (by first | omega | (unfold roomOK; simp [cutRows]; done) | (unfold roomOK; simp [cutRows]; omega) | (simp [cutRows]; done) | (simp [cutRows]; omega)) ?_; conv => whnf) | (refine SliceG.fr ?_; conv => whnf) | (refine BuildG.fr ?_; conv => whnf) | (refine idx_at _ (by with_reducible rfl) (by first | assumption | omega) ?_; conv => whnf) | ((with_reducible refine row_map (by first | assumption | omega) ?_); conv => whnf) | ((with_reducible refine row_set (by first | assumption | omega | (simp only [List.length_set]; omega) | (simp; omega)) ?_); conv => whnf) | fail)
      all_goals first | (exfalso; omega) | skip
      all_goals rw [List.drop_eq_getElem_cons hk2, cmpML] at h2
      · rw [if_neg (by assumption)] at h2
        exact fini h2
      · rw [if_pos (by omega)] at h2
        exact count_next () hk (by rw [wrap_succ hk (by omega)]; rfl) ⟨by omega, h2⟩
    · conv => whnf
      repeat' (first | ((first | refine Split.mk (fun h => ?_) (fun h => ?_) | refine CondG.mk (fun h => ?_) (fun h => ?_)) <;> (try simp only [decide_eq_true_eq, decide_eq_false_iff_not, Bool.not_eq_true', Bool.not_eq_false', beq_iff_eq, beq_eq_false_iff_ne, bne_iff_ne, bne_eq_false_iff_eq] at h) <;> (first | (exfalso; first | omega | exact h trivial) | (conv => whnf))) | (refine Ask.mk (by first | omega | (unfold roomOK; simp [cutRows]; done) | (unfold roomOK; simp [cutRows]; omega) | (simp [cutRows]; done) | (simp [cutRows]; omega)) ?_; conv => whnf) | (refine AppG.mk (by first | omega | (unfold roomOK; simp [cutRows]; done) | (unfold roomOK; simp [cutRows]; omega) | (simp [cutRows]; done) | (simp [cutRows]; omega)) ?_; conv => whnf) | (refine SliceG.fr ?_; conv => whnf) | (refine BuildG.fr ?_; conv => whnf) | (refine idx_at _ (by with_reducible rfl) (by first | assumption | omega) ?_; conv => whnf) | ((with_reducible refine row_map (by first | assumption | omega) ?_); conv => whnf) | ((with_reducible refine row_set (by first | assumption | omega | (simp only [List.length_set]; omega) | (simp; omega)) ?_); conv => whnf) | fail)
      have h3 : b.drop k = [] := List.drop_eq_nil_of_le (by omega)
      rw [h3] at h2
      exact fini h2
  · intro _ ⟨h1, h2⟩
    rw [List.drop_length] at h2
    conv => whnf
    repeat' (first | ((first | refine Split.mk (fun h => ?_) (fun h => ?_) | refine CondG.mk (fun h => ?_) (fun h => ?_)) <;> (try simp only [decide_eq_true_eq, decide_eq_false_iff_not, Bool.not_eq_true', Bool.not_eq_false', beq_iff_eq, beq_eq_false_iff_ne, bne_iff_ne, bne_eq_false_iff_eq] at h) <;> (first | (exfalso; first | omega | exact h trivial) | (conv => whnf))) | (refine Ask.mk (by first | omega | (unfold roomOK; simp [cutRows]; done) | (unfold roomOK; simp [cutRows]; omega) | (simp [cutRows]; done) | (simp [cutRows]; omega)) ?_; conv => whnf) | (refine AppG.mk (by first | omega | (unfold roomOK; simp [cutRows]; done) | (unfold roomOK; simp [cutRows]; omega) | (simp [cutRows]; done) | (simp [cutRows]; omega)) ?_; conv => whnf) | (refine SliceG.fr ?_; conv => whnf) | (refine BuildG.fr ?_; conv => whnf) | (refine idx_at _ (by with_reducible rfl) (by first | assumption | omega) ?_; conv => whnf) | ((with_reducible refine row_map (by first | assumption | omega) ?_); conv => whnf) | ((with_reducible refine row_set (by first | assumption | omega | (simp only [List.length_set]; omega) | (simp; omega)) ?_); conv => whnf) | fail)
    · rw [List.drop_eq_getElem_cons (by omega : a.length < b.length)] at h2
      exact fini h2
    · have h3 : b.drop a.length = [] := List.drop_eq_nil_of_le (by omega)
      rw [h3] at h2
      exact fini h2
/-- a matching with its pairs as a list -/
def PrOk (x : Hd.Mat.Pr) : Prop := x.1.length ≤ 1000 ∧ (∀ p ∈ x.1, p.1 ≤ 1000 ∧ p.2 ≤ 1000)
set_option maxRecDepth 100000 in
set_option maxHeartbeats 4000000 in
theorem rBetter_pc (x y : Hd.Mat.Pr) (hx : PrOk x) (hy : PrOk y) : PCp 24 [.agg [.lst 2 (x.1.map encM), .int .i64 x.2], .agg [.lst 2 (y.1.map encM), .int .i64 y.2]] [] (.c (.bool (Hd.Mat.bet x y))) [] := by
  obtain ⟨hx1, hx2⟩ := hx
  obtain ⟨hy1, hy2⟩ := hy
  have hxm : (x.1.map encM).length = x.1.length := List.length_map ..
  have hym : (y.1.map encM).length = y.1.length := List.length_map ..
  have hl := cmpML_lex x.1 y.1
  refine fn_sound (mt := mts) tab_fits tab_mixed Try.func24 (by rfl) (by kernel_rfl) (by kernel_rfl) Try.results24 (Nat.le_of_ble_eq_true (by kernel_rfl)) ?_
  conv => whnf
  repeat' (first | ((first | refine Split.mk (fun h => ?_) (fun h => ?_) | refine CondG.mk (fun h => ?_) (fun h => ?_)) <;> (try simp only [decide_eq_true_eq, decide_eq_false_iff_not, Bool.not_eq_true', Bool.not_eq_false', beq_iff_eq, beq_eq_false_iff_ne, bne_iff_ne, bne_eq_false_iff_eq] at h) <;> (first | (exfalso; first | omega | exact h trivial) | (conv => whnf))) | (refine CallX.mk _ _ (by first | exact rCmpM_pc _ _ (by omega) (by omega) hx2 hy2) ?_; conv => whnf) | (refine CallG.mk _ _ (by first | exact rCmpM_pc _ _ (by omega) (by omega) hx2 hy2) ?_; conv => whnf) | (refine Ask.mk (by first | omega | (unfold roomOK; simp [cutRows]; done) | (unfold roomOK; simp [cutRows]; omega) | (simp [cutRows]; done) | (simp [cutRows]; omega)) ?_; conv => whnf) | (refine AppG.mk (by first | omega | (unfold roomOK; simp [cutRows]; done) | (unfold roomOK; simp [cutRows]; omega) | (simp [cutRows]; done) | (simp [cutRows]; omega)) ?_; conv => whnf) | (refine SliceG.fr ?_; conv => whnf) | (refine BuildG.fr ?_; conv => whnf) | (refine idx_at _ (by with_reducible rfl) (by first | assumption | omega) ?_; conv => whnf) | ((with_reducible refine row_map (by first | assumption | omega) ?_); conv => whnf) | ((with_reducible refine row_set (by first | assumption | omega | (simp only [List.length_set]; omega) | (simp; omega)) ?_); conv => whnf) | fail)
  · refine .mk ⟨sboolR ?_, rfl⟩
    unfold Hd.Mat.bet
    rw [if_neg (by omega)]
    exact decide_eq_decide.2 (by omega)
  · refine .mk ⟨sboolR ?_, rfl⟩
    unfold Hd.Mat.bet
    rw [if_pos (by omega), if_neg (by assumption)]
  · refine .mk ⟨sboolR ?_, rfl⟩
    unfold Hd.Mat.bet
    rw [if_pos (by omega), if_pos (by omega)]
    cases hb : Hd.Mat.lexlt x.1 y.1 with
    | true => exact decide_eq_true (hl.2 hb)
    | false => exact decide_eq_false fun q => by rw [hl.1 q] at hb; cases hb
end Go.Proofs.Ytjflmenfinohcaa

/- What a matching leaves out, and what is worse in it: in plain Lean. -/
namespace Go.Proofs.Ytjflmenfinohcaa
set_option linter.unusedVariables false
set_option linter.unusedSimpArgs false
open Abs

/-- what a matching leaves out, and what is worse in it -/
def missV (P : List (Nat × Nat)) (n : Nat) : List Nat := (List.range n).filter fun i => !(P.any fun p => decide (p.1 = i))
def freshV (P : List (Nat × Nat)) (m : Nat) : List Nat := (List.range m).filter fun k => !(P.any fun p => decide (p.2 = k))
def worseV (w : Nat × Nat → Bool) (P : List (Nat × Nat)) : List Nat := (P.filter w).map (·.2)
/-- by the second list: the pair of an index -/
def worseK (w : Nat × Nat → Bool) (P : List (Nat × Nat)) (m : Nat) : List Nat := (List.range m).filter fun k => match P.find? (fun p => decide (p.2 = k)) with | some p => w p | none => false
theorem findM_rise {P : List (Nat × Nat)} (h : P.Pairwise fun p q => p.2 < q.2) {p : Nat × Nat} (hp : p ∈ P) : P.find? (fun q => decide (q.2 = p.2)) = some p := by
  induction P with
  | nil => cases hp
  | cons a r ih =>
    rw [List.pairwise_cons] at h
    by_cases e : a.2 = p.2
    · rcases List.mem_cons.1 hp with rfl | hp'
      · simp
      · have := h.1 p hp'; omega
    · rw [List.find?_cons_of_neg (by simpa using e)]
      rcases List.mem_cons.1 hp with rfl | hp'
      · exact (e rfl).elim
      · exact ih h.2 hp'
theorem riseN_ext {l1 l2 : List Nat} (h1 : l1.Pairwise (· < ·)) (h2 : l2.Pairwise (· < ·)) (h : ∀ x, x ∈ l1 ↔ x ∈ l2) : l1 = l2 := by
  induction l1 generalizing l2 with
  | nil =>
    cases l2 with
    | nil => rfl
    | cons b t => have := (h b).2 (by simp); cases this
  | cons a r ih =>
    cases l2 with
    | nil => have := (h a).1 (by simp); cases this
    | cons b t =>
      rw [List.pairwise_cons] at h1 h2
      have hab : a = b := by
        rcases List.mem_cons.1 ((h a).1 (by simp)) with e | e
        · exact e
        · rcases List.mem_cons.1 ((h b).2 (by simp)) with e2 | e2
          · exact e2.symm
          · have := h1.1 b e2; have := h2.1 a e; omega
      subst hab
      congr 1
      refine ih h1.2 h2.2 fun x => ⟨fun hx => ?_, fun hx => ?_⟩
      · rcases List.mem_cons.1 ((h x).1 (List.mem_cons_of_mem _ hx)) with e | e
        · subst e; have := h1.1 x hx; omega
        · exact e
      · rcases List.mem_cons.1 ((h x).2 (List.mem_cons_of_mem _ hx)) with e | e
        · subst e; have := h2.1 x hx; omega
        · exact e
theorem worse_eq (w : Nat × Nat → Bool) {P : List (Nat × Nat)} {m : Nat} (h : P.Pairwise fun p q => p.2 < q.2) (hm : ∀ p ∈ P, p.2 < m) : worseK w P m = worseV w P := by
  refine riseN_ext (List.pairwise_lt_range.filter _) ?_ fun k => ?_
  · unfold worseV
    rw [List.pairwise_map]
    exact h.filter _
  · unfold worseK worseV
    simp only [List.mem_filter, List.mem_range, List.mem_map]
    constructor
    · rintro ⟨hk, hf⟩
      split at hf
      · rename_i p hp
        have h2 := List.find?_some hp
        exact ⟨p, ⟨List.mem_of_find?_eq_some hp, hf⟩, by simpa using h2⟩
      · cases hf
    · rintro ⟨p, ⟨hp, hw⟩, rfl⟩
      refine ⟨hm p hp, ?_⟩
      rw [findM_rise h hp]; exact hw
end Go.Proofs.Ytjflmenfinohcaa

/- Sorting by insertion, lists without equal neighbours: as functions on lists. -/
namespace Go.Proofs.Ytjflmenfinohcaa
set_option linter.unusedVariables false
set_option linter.unusedSimpArgs false
open Abs

theorem row_at {α : Type} {enc : α → List V} {l : List α} {i : Nat} {k : List V → Prop} (j : Nat) (hi : i = j) (hj : j < l.length) (hk : k (enc l[j])) : RowG (l.map enc) i k := by subst hi; exact row_map hj hk
theorem toN {n : Nat} : ((n : Int)).toNat = n := Int.toNat_natCast n
/-! lists: of equal neighbours one alone -/
end Go.Proofs.Ytjflmenfinohcaa

/- Maps told by lists: what is in them. -/
namespace Go.Proofs.Ytjflmenfinohcaa
set_option linter.unusedVariables false
set_option linter.unusedSimpArgs false
namespace Abs
section
variable {κ β : Type} [DecidableEq κ]
/-- the same value under many keys -/
def putAll (m : SM κ β) (l : List κ) (b : β) : SM κ β := l.foldl (fun m x => m.put x b) m
theorem putAll_get (b : β) (x : κ) : ∀ (l : List κ) (m : SM κ β), (putAll m l b).get x = if x ∈ l then some b else m.get x
  | [], m => by simp [putAll]
  | a :: r, m => by
    have ih := putAll_get b x r (m.put a b)
    unfold putAll at ih ⊢
    rw [List.foldl_cons, ih, SM.get_put]
    by_cases h1 : x ∈ r <;> by_cases h2 : a = x
    · simp [h1]
    · simp [h1]
    · simp [h1, h2]
    · have h3 : ¬ x = a := fun e => h2 e.symm
      simp [h1, h2, h3]
end
abbrev evT : Bool → S := fun b => .c (.bool b)
end Abs
end Go.Proofs.Ytjflmenfinohcaa

/- Explained, by the program, for all events. -/
namespace Go.Proofs.Ytjflmenfinohcaa
set_option linter.unusedVariables false
set_option linter.unusedSimpArgs false
open Abs

theorem sm_hitR {κ β : Type} [DecidableEq κ] {q : S → S → Option Bool} {ek : κ → S} {ev : β → S} (hk : KeyEnc q ek) (s : SM κ β) (x : κ) (y : β) (h : s.get x = some y) {zs : S} {k : S → Bool → Prop} (hq : k (ev y) true) : LookG (findM q (ek x) (smE ek ev s.es) 0) zs k := by
  have hg : s.get x = mget (s.es.map (·.2)) x := rfl
  rcases findM_sm (ev := ev) hk x s.es s.clock 0 with ⟨g1, g2, _⟩ | ⟨j, v, g1, g2, _⟩
  · rw [hg, g1] at h; cases h
  · rw [hg, g1] at h; cases h; exact .mk _ _ (.inl ⟨_, _, g2, rfl⟩) hq
theorem sm_missR {κ β : Type} [DecidableEq κ] {q : S → S → Option Bool} {ek : κ → S} {ev : β → S} (hk : KeyEnc q ek) (s : SM κ β) (x : κ) (h : s.get x = none) {zs : S} {k : S → Bool → Prop} (hq : k zs false) : LookG (findM q (ek x) (smE ek ev s.es) 0) zs k := by
  have hg : s.get x = mget (s.es.map (·.2)) x := rfl
  rcases findM_sm (ev := ev) hk x s.es s.clock 0 with ⟨g1, g2, _⟩ | ⟨j, v, g1, g2, _⟩
  · exact .mk _ _ (.inr ⟨g2, rfl, rfl⟩) hq
  · rw [hg, g1] at h; cases h
/-- the pairs of a matching, one by one -/
theorem match_factsR (A B : List (Int × Int)) (near : Int) {k : Nat} (hk : k < (Hd.bestM A B near 0 0).1.length) :
    (Hd.bestM A B near 0 0).1[k].1 < A.length ∧ (Hd.bestM A B near 0 0).1[k].2 < B.length ∧ Hd.dist (Hd.atI A (Hd.bestM A B near 0 0).1[k].1) (Hd.atI B (Hd.bestM A B near 0 0).1[k].2) ≤ near ∧
    (∀ (j : Nat) (hj : j < (Hd.bestM A B near 0 0).1.length), j < k → (Hd.bestM A B near 0 0).1[j].1 < (Hd.bestM A B near 0 0).1[k].1 ∧ (Hd.bestM A B near 0 0).1[j].2 < (Hd.bestM A B near 0 0).1[k].2) := by
  have h1 := Hd.bestM_rise A B near 0 0
  have h2 := Hd.best_tru (Hd.nearB A B near) (Hd.farI A B) A.length B.length _ 0 0 rfl
  have hm := List.getElem_mem hk
  have g1 := h1.1 _ hm
  have g2 := h2.1 _ hm
  refine ⟨g1.2.1, g1.2.2.2, ?_, fun j hj hjk => ?_⟩
  · unfold Hd.nearB at g2; simpa using g2
  · exact List.pairwise_iff_getElem.1 h1.2 j k hj hk hjk
abbrev ekR : Int → S := fun n => .c (.int .i64 n)
def encN (n : Nat) : List V := [.int .i64 ((n : Nat) : Int)]
def lossG (A : List (Int × Int)) (i : Nat) : Int := (A.getD i (0, 0)).2
def wrs (A B : List (Int × Int)) (loss : Int) (p : Nat × Nat) : Bool := decide (loss < lossG B p.2 - lossG A p.1)
abbrev bsM (A B : List (Int × Int)) (near : Int) : List (Nat × Nat) := (Hd.bestM A B near 0 0).1
def xMi (A B : List (Int × Int)) (near loss : Int) : List Nat := if Hd.xErr A B near loss = 0 then missV (bsM A B near) A.length else []
def xFr (A B : List (Int × Int)) (near loss : Int) : List Nat := if Hd.xErr A B near loss = 0 then freshV (bsM A B near) B.length else []
def xWo (A B : List (Int × Int)) (near loss : Int) : List Nat := if Hd.xErr A B near loss = 0 then worseV (wrs A B loss) (bsM A B near) else []
theorem xErr_split (A B : List (Int × Int)) (near loss : Int) : Hd.xErr A B near loss = if Hd.mErr A B near = 0 then (if loss < 0 ∨ 10000 < loss then 1 else 0) else Hd.mErr A B near := by
  unfold Hd.xErr Hd.mErr
  rw [Hd.firstErr3, Hd.firstErr3]
  by_cases h : Hd.firstErr [Hd.evFault A, Hd.evFault B] = 0
  · simp only [h, if_true]
    unfold Hd.nearE Hd.inB
    by_cases h1 : 0 ≤ near ∧ near ≤ 1000000
    · by_cases h2 : loss < 0 ∨ 10000 < loss
      · have h3 : ¬ (0 ≤ loss ∧ loss ≤ 10000) := by omega
        simp [h1, h2, h3]
      · have h3 : 0 ≤ loss ∧ loss ≤ 10000 := by omega
        simp [h1, h2, h3]
    · simp [h1]
  · simp only [h, if_false]
theorem bsM_in (A B : List (Int × Int)) (near : Int) {k : Nat} (hk : k < (bsM A B near).length) : (bsM A B near)[k].1 < A.length ∧ (bsM A B near)[k].2 < B.length := by
  have := match_factsR A B near hk
  exact ⟨this.1, this.2.1⟩
theorem missV_succ (P : List (Nat × Nat)) (n : Nat) : missV P (n + 1) = missV P n ++ (if P.any (fun p => decide (p.1 = n)) then [] else [n]) := by
  unfold missV
  rw [List.range_succ, List.filter_append]
  congr 1
  cases h : (P.any fun p => decide (p.1 = n)) <;> simp [h]
theorem freshV_succ (P : List (Nat × Nat)) (n : Nat) : freshV P (n + 1) = freshV P n ++ (if P.any (fun p => decide (p.2 = n)) then [] else [n]) := by
  unfold freshV
  rw [List.range_succ, List.filter_append]
  congr 1
  cases h : (P.any fun p => decide (p.2 = n)) <;> simp [h]
theorem worseV_succ (w : Nat × Nat → Bool) {P : List (Nat × Nat)} {k : Nat} (hk : k < P.length) : worseV w (P.take (k + 1)) = worseV w (P.take k) ++ (if w P[k] then [P[k].2] else []) := by
  unfold worseV
  rw [List.take_succ_eq_append_getElem hk, List.filter_append, List.map_append]
  congr 1
  by_cases h : w P[k] = true <;> simp [h]
theorem missV_len (P : List (Nat × Nat)) (n : Nat) : (missV P n).length ≤ n := by unfold missV; have := List.length_filter_le (fun i => !(P.any fun p => decide (p.1 = i))) (List.range n); simpa using this
theorem freshV_len (P : List (Nat × Nat)) (n : Nat) : (freshV P n).length ≤ n := by unfold freshV; have := List.length_filter_le (fun i => !(P.any fun p => decide (p.2 = i))) (List.range n); simpa using this
theorem worseV_len (w : Nat × Nat → Bool) (P : List (Nat × Nat)) : (worseV w P).length ≤ P.length := by unfold worseV; simpa using List.length_filter_le w P
def fsM (P : List (Nat × Nat)) : SM Int Bool := putAll SM.nil (P.map fun p => ((p.1 : Nat) : Int)) true
def ssM (P : List (Nat × Nat)) : SM Int Bool := putAll SM.nil (P.map fun p => ((p.2 : Nat) : Int)) true
theorem put_take (f : Nat × Nat → Int) {P : List (Nat × Nat)} {k : Nat} (hk : k < P.length) : putAll (SM.nil : SM Int Bool) ((P.take (k + 1)).map f) true = (putAll SM.nil ((P.take k).map f) true).put (f P[k]) true := by
  rw [List.take_succ_eq_append_getElem hk, List.map_append]
  unfold putAll
  rw [List.foldl_append]; rfl
theorem fsM_get (P : List (Nat × Nat)) (i : Nat) : ((fsM P).get ((i : Nat) : Int)).getD false = P.any fun p => decide (p.1 = i) := by
  unfold fsM
  rw [putAll_get]
  by_cases h : ((i : Nat) : Int) ∈ P.map fun p => ((p.1 : Nat) : Int)
  · rw [if_pos h]
    obtain ⟨p, hp, he⟩ := List.mem_map.1 h
    symm
    rw [Option.getD_some, List.any_eq_true]
    exact ⟨p, hp, by simp; omega⟩
  · rw [if_neg h]
    have : (P.any fun p => decide (p.1 = i)) = false := by
      rw [List.any_eq_false]
      intro p hp he
      exact h (List.mem_map.2 ⟨p, hp, by simp at he; omega⟩)
    rw [this]; rfl
theorem ssM_get (P : List (Nat × Nat)) (i : Nat) : ((ssM P).get ((i : Nat) : Int)).getD false = P.any fun p => decide (p.2 = i) := by
  unfold ssM
  rw [putAll_get]
  by_cases h : ((i : Nat) : Int) ∈ P.map fun p => ((p.2 : Nat) : Int)
  · rw [if_pos h]
    obtain ⟨p, hp, he⟩ := List.mem_map.1 h
    symm
    rw [Option.getD_some, List.any_eq_true]
    exact ⟨p, hp, by simp; omega⟩
  · rw [if_neg h]
    have : (P.any fun p => decide (p.2 = i)) = false := by
      rw [List.any_eq_false]
      intro p hp he
      exact h (List.mem_map.2 ⟨p, hp, by simp at he; omega⟩)
    rw [this]; rfl
set_option maxRecDepth 100000 in
set_option maxHeartbeats 4000000 in
theorem explained_pc (A B : List (Int × Int)) (near loss : Int) :
    PCp 9 [.c (.lst 2 (A.map encQ)), .c (.lst 2 (B.map encQ)), .c (.int .i64 near), .c (.int .i64 loss)] [] (.tup [.c (.lst 1 ((xMi A B near loss).map encN)), .c (.lst 1 ((xFr A B near loss).map encN)), .c (.lst 1 ((xWo A B near loss).map encN)), .c (.int .i64 (Hd.xErr A B near loss))]) [] := by
  have cF := matchFault_pc A B near
  have hX := xErr_split A B near loss
  have hAm : (A.map encQ).length = A.length := List.length_map ..
  have hBm : (B.map encQ).length = B.length := List.length_map ..
  by_cases h0 : Hd.xErr A B near loss = 0
  rotate_left
  · have e1 : xMi A B near loss = [] := by unfold xMi; rw [if_neg h0]
    have e2 : xFr A B near loss = [] := by unfold xFr; rw [if_neg h0]
    have e3 : xWo A B near loss = [] := by unfold xWo; rw [if_neg h0]
    rw [e1, e2, e3]
    generalize Hd.xErr A B near loss = er at *
    generalize Hd.mErr A B near = me at *
    refine fn_sound (mt := mts) tab_fits tab_mixed Try.func9 (by rfl) (by kernel_rfl) (by kernel_rfl) Try.results9 (Nat.le_of_ble_eq_true (by kernel_rfl)) ?_
    conv => whnf
    repeat' (first | ((first | refine Split.mk (fun h => ?_) (fun h => ?_) | refine CondG.mk (fun h => ?_) (fun h => ?_)) <;> (try simp only [decide_eq_true_eq, decide_eq_false_iff_not, Bool.not_eq_true', Bool.not_eq_false', beq_iff_eq, beq_eq_false_iff_ne, bne_iff_ne, bne_eq_false_iff_eq] at h) <;> (first | (exfalso; first | omega | exact h trivial) | (conv => whnf))) | (refine CallX.mk _ _ (by first | exact cF | exact bOut_pc _ _ _) ?_; conv => whnf) | (refine CallG.mk _ _ (by first | exact cF | exact bOut_pc _ _ _) ?_; conv => whnf) | (refine Ask.mk (by first | omega | (unfold roomOK; simp [cutRows]; done) | (unfold roomOK; simp [cutRows]; omega) | (simp [cutRows]; done) | (simp [cutRows]; omega)) ?_; conv => whnf) | (refine AppG.mk (by first | omega | (unfold roomOK; simp [cutRows]; done) | (unfold roomOK; simp [cutRows]; omega) | (simp [cutRows]; done) | (simp [cutRows]; omega)) ?_; conv => whnf) | (refine SliceG.fr ?_; conv => whnf) | (refine BuildG.fr ?_; conv => whnf) | (refine idx_at _ (by with_reducible rfl) (by first | assumption | omega) ?_; conv => whnf) | ((with_reducible refine row_map (by first | assumption | omega) ?_); conv => whnf) | ((with_reducible refine row_set (by first | assumption | omega | (simp only [List.length_set]; omega) | (simp; omega)) ?_); conv => whnf) | fail)
    all_goals first | (exfalso; omega) | skip
    all_goals refine .weak [] (.tup _ _ rfl ?_) rfl (Nat.le_refl _)
    all_goals intro i a b ha hb
    all_goals match i with
      | 0 => cases ha; cases hb; exact .nil 1
      | 1 => cases ha; cases hb; exact .nil 1
      | 2 => cases ha; cases hb; exact .nil 1
      | 3 =>
        cases ha; cases hb
        refine cast (congrArg (fun q => ValR [] _ (S.c (V.int IntKind.i64 q))) (?_ : _ = er)) (.refl _)
        (repeat' split at hX) <;> omega
  · have e1 : xMi A B near loss = missV (bsM A B near) A.length := by unfold xMi; rw [if_pos h0]
    have e2 : xFr A B near loss = freshV (bsM A B near) B.length := by unfold xFr; rw [if_pos h0]
    have e3 : xWo A B near loss = worseV (wrs A B loss) (bsM A B near) := by unfold xWo; rw [if_pos h0]
    rw [e1, e2, e3, h0]
    rw [h0] at hX
    have hm : Hd.mErr A B near = 0 := by
      split at hX
      · assumption
      · exact hX.symm
    rw [if_pos hm] at hX
    have hls : ¬ (loss < 0 ∨ 10000 < loss) := by intro q; rw [if_pos q] at hX; cases hX
    obtain ⟨hA, hB, _⟩ := Hd.mErr_ok hm
    obtain ⟨hl, hx, hy⟩ := Hd.evFault_ok hA
    obtain ⟨gl, gx, gy⟩ := Hd.evFault_ok hB
    rw [hm] at cF
    have cM := matching_pc A B near hA hB
    rw [mpI_enc] at cM
    have hin : ∀ k (hk : k < (bsM A B near).length), (bsM A B near)[k].1 < A.length ∧ (bsM A B near)[k].2 < B.length := fun k hk => bsM_in A B near hk
    have hpl : (bsM A B near).length ≤ 100 := by
      have h2 : (bsM A B near).length ≤ A.length - 0 := (Hd.bestM_rise A B near 0 0).len
      omega
    have cM' : PCp 21 [.c (.lst 2 (A.map encQ)), .c (.lst 2 (B.map encQ)), .c (.int .i64 near)] [] (.tup [.c (.row 0), .c (.int .i64 (Hd.bestM A B near 0 0).2)]) [.row 48 2 ((bsM A B near).map encM)] := cM
    clear cM
    generalize (Hd.bestM A B near 0 0).2 = sm at cM'
    generalize bsM A B near = P at *
    have hPm : (P.map encM).length = P.length := List.length_map ..
    refine fn_sound (mt := mts) tab_fits tab_mixed Try.func9 (by rfl) (by kernel_rfl) (by kernel_rfl) Try.results9 (Nat.le_of_ble_eq_true (by kernel_rfl)) ?_
    conv => whnf
    repeat' (first | ((first | refine Split.mk (fun h => ?_) (fun h => ?_) | refine CondG.mk (fun h => ?_) (fun h => ?_)) <;> (try simp only [decide_eq_true_eq, decide_eq_false_iff_not, Bool.not_eq_true', Bool.not_eq_false', beq_iff_eq, beq_eq_false_iff_ne, bne_iff_ne, bne_eq_false_iff_eq] at h) <;> (first | (exfalso; first | omega | exact h trivial) | (conv => whnf))) | (refine CallX.mk _ _ (by first | exact cF | exact bOut_pc _ _ _ | exact cM') ?_; conv => whnf) | (refine CallG.mk _ _ (by first | exact cF | exact bOut_pc _ _ _ | exact cM') ?_; conv => whnf) | (refine Ask.mk (by first | omega | (unfold roomOK; simp [cutRows]; done) | (unfold roomOK; simp [cutRows]; omega) | (simp [cutRows]; done) | (simp [cutRows]; omega)) ?_; conv => whnf) | (refine AppG.mk (by first | omega | (unfold roomOK; simp [cutRows]; done) | (unfold roomOK; simp [cutRows]; omega) | (simp [cutRows]; done) | (simp [cutRows]; omega)) ?_; conv => whnf) | (refine SliceG.fr ?_; conv => whnf) | (refine BuildG.fr ?_; conv => whnf) | (refine idx_at _ (by with_reducible rfl) (by first | assumption | omega) ?_; conv => whnf) | ((with_reducible refine row_map (by first | assumption | omega) ?_); conv => whnf) | ((with_reducible refine row_set (by first | assumption | omega | (simp only [List.length_set]; omega) | (simp; omega)) ?_); conv => whnf) | fail)
    all_goals first | (exfalso; omega) | (exfalso; simp at *; done) | skip
    refine loop_for (P.length) [.sl 19 3 1] [0, 1, 3, 15, 16, 17, 18, 19, 46, 47, 48] (fun k (_ : Unit) => [(48, .c (.int .i64 (k : Int)))]) (fun k (_ : Unit) => [(0, smO ekR evT (putAll SM.nil ((P.take k).map fun p => ((p.1 : Nat) : Int)) true)), (1, smO ekR evT (putAll SM.nil ((P.take k).map fun p => ((p.2 : Nat) : Int)) true)), (2, .row 3 1 ((worseV (wrs A B loss) (P.take k)).map encN))]) (fun k (_ : Unit) => True) (()) ?_
    conv => whnf
    refine ⟨(by first | rfl | (simp; done) | (simp; rfl)), (by trivial), ?_, ?_⟩
    · intro k _ hk _
      have hp := hin k hk
      have hw := worseV_len (wrs A B loss) (P.take k)
      have htk : (P.take k).length = k := by rw [List.length_take]; omega
      have hwm : ((worseV (wrs A B loss) (P.take k)).map encN).length = (worseV (wrs A B loss) (P.take k)).length := List.length_map ..
      have hA1 := hy _ hp.1
      have hB1 := gy _ hp.2
      have t1 := put_take (fun p => ((p.1 : Nat) : Int)) hk
      have t2 := put_take (fun p => ((p.2 : Nat) : Int)) hk
      have t3 := worseV_succ (wrs A B loss) hk
      conv => whnf
      refine .mk (fun _ => ?_) (fun h => absurd h (by simp; omega))
      conv => whnf
      refine .mk (by omega) ?_
      conv => whnf
      refine row_at k toN hk ?_
      generalize P[k] = p at *
      obtain ⟨i, j⟩ := p
      simp only at hp hA1 hB1 t1 t2 t3
      have gB : B[j]'hp.2 = B.getD j (0, 0) := by simp [hp.2]
      have gA : A[i]'hp.1 = A.getD i (0, 0) := by simp [hp.1]
      have ws : IntKind.i64.wrap ((B[j]'hp.2).2 - (A[i]'hp.1).2) = lossG B j - lossG A i := by rw [gA, gB]; exact wrap_in (by omega) (by omega)
      conv => whnf
      repeat' (first | ((first | refine Split.mk (fun h => ?_) (fun h => ?_) | refine CondG.mk (fun h => ?_) (fun h => ?_)) <;> (try simp only [decide_eq_true_eq, decide_eq_false_iff_not, Bool.not_eq_true', Bool.not_eq_false', beq_iff_eq, beq_eq_false_iff_ne, bne_iff_ne, bne_eq_false_iff_eq] at h) <;> (first | (exfalso; first | omega | exact h trivial) | (conv => whnf))) | (refine Ask.mk (by first | omega | (unfold roomOK; simp [cutRows]; done) | (unfold roomOK; simp [cutRows]; omega) | (simp [cutRows]; done) | (simp [cutRows]; omega)) ?_; conv => whnf) | (refine AppG.mk (by first | omega | (unfold roomOK; simp [cutRows]; done) | (unfold roomOK; simp [cutRows]; omega) | (simp [cutRows]; done) | (simp [cutRows]; omega)) ?_; conv => whnf) | (refine SliceG.fr ?_; conv => whnf) | (refine BuildG.fr ?_; conv => whnf) | (refine idx_at _ (by with_reducible rfl) (by first | assumption | omega) ?_; conv => whnf) | ((with_reducible refine row_map (by first | assumption | omega) ?_); conv => whnf) | ((with_reducible refine row_set (by first | assumption | omega | (simp only [List.length_set]; omega) | (simp; omega)) ?_); conv => whnf) | ((refine idx_map j hp.2 rfl ?_); conv => whnf) | ((refine idx_map i hp.1 rfl ?_); conv => whnf) | ((with_reducible refine sm_look (ek := ekR) (ev := evT) (keyInt .i64) _ _ (false) ?_ ?_); exact rfl; conv => whnf) | ((with_reducible refine sm_upd (ek := ekR) (ev := evT) (keyInt .i64) _ _ true ?_); conv => whnf) | ((with_reducible refine sm_del (ek := ekR) (ev := evT) (keyInt .i64) _ _ ?_); conv => whnf) | ((with_reducible refine sm_entry (ek := ekR) (ev := evT) (keyInt .i64) _ _ (false) ?_ ?_); exact rfl; conv => whnf) | fail)
      all_goals rw [ws] at h
      · have q : wrs A B loss (i, j) = true := decide_eq_true h
        exact count_next () hk (by rw [wrap_succ hk (by omega), t1, t2, t3, if_pos q, List.map_append]; rfl) trivial
      · have q : ¬ wrs A B loss (i, j) = true := fun q => h (of_decide_eq_true q)
        exact count_next () hk (by rw [wrap_succ hk (by omega), t1, t2, t3, if_neg q, List.append_nil]; rfl) trivial
    · intro _ _
      rw [List.take_length]
      have f1 : putAll SM.nil (P.map fun p => ((p.1 : Nat) : Int)) true = fsM P := rfl
      have f2 : putAll SM.nil (P.map fun p => ((p.2 : Nat) : Int)) true = ssM P := rfl
      rw [f1, f2]
      have g1 := fsM_get P
      have g2 := ssM_get P
      generalize fsM P = m1 at *
      generalize ssM P = m2 at *
      generalize worseV (wrs A B loss) P = wo at *
      conv => whnf
      repeat' (first | ((first | refine Split.mk (fun h => ?_) (fun h => ?_) | refine CondG.mk (fun h => ?_) (fun h => ?_)) <;> (try simp only [decide_eq_true_eq, decide_eq_false_iff_not, Bool.not_eq_true', Bool.not_eq_false', beq_iff_eq, beq_eq_false_iff_ne, bne_iff_ne, bne_eq_false_iff_eq] at h) <;> (first | (exfalso; first | omega | exact h trivial) | (conv => whnf))) | (refine Ask.mk (by first | omega | (unfold roomOK; simp [cutRows]; done) | (unfold roomOK; simp [cutRows]; omega) | (simp [cutRows]; done) | (simp [cutRows]; omega)) ?_; conv => whnf) | (refine AppG.mk (by first | omega | (unfold roomOK; simp [cutRows]; done) | (unfold roomOK; simp [cutRows]; omega) | (simp [cutRows]; done) | (simp [cutRows]; omega)) ?_; conv => whnf) | (refine SliceG.fr ?_; conv => whnf) | (refine BuildG.fr ?_; conv => whnf) | (refine idx_at _ (by with_reducible rfl) (by first | assumption | omega) ?_; conv => whnf) | ((with_reducible refine row_map (by first | assumption | omega) ?_); conv => whnf) | ((with_reducible refine row_set (by first | assumption | omega | (simp only [List.length_set]; omega) | (simp; omega)) ?_); conv => whnf) | fail)
      refine loop_for (A.length) [.sl 17 3 1] [1, 15, 16, 17, 18, 19, 80, 81] (fun k (_ : Unit) => [(81, .c (.int .i64 (k : Int)))]) (fun k (_ : Unit) => [(2, .row 3 1 ((missV P k).map encN))]) (fun k (_ : Unit) => True) (()) ?_
      conv => whnf
      refine ⟨(by first | rfl | (simp; done) | (simp; rfl)), (by trivial), ?_, ?_⟩
      · intro k _ hk _
        have t1 := missV_succ P k
        have tl := missV_len P k
        have tm : ((missV P k).map encN).length = (missV P k).length := List.length_map ..
        have gk := g1 k
        cases hq : m1.get ((k : Nat) : Int) with
        | some y =>
          rw [hq] at gk
          rw [← gk] at t1
          conv => whnf
          repeat' (first | ((first | refine Split.mk (fun h => ?_) (fun h => ?_) | refine CondG.mk (fun h => ?_) (fun h => ?_)) <;> (try simp only [decide_eq_true_eq, decide_eq_false_iff_not, Bool.not_eq_true', Bool.not_eq_false', beq_iff_eq, beq_eq_false_iff_ne, bne_iff_ne, bne_eq_false_iff_eq] at h) <;> (first | (exfalso; first | omega | exact h trivial) | (conv => whnf))) | (refine Ask.mk (by first | omega | (unfold roomOK; simp [cutRows]; done) | (unfold roomOK; simp [cutRows]; omega) | (simp [cutRows]; done) | (simp [cutRows]; omega)) ?_; conv => whnf) | (refine AppG.mk (by first | omega | (unfold roomOK; simp [cutRows]; done) | (unfold roomOK; simp [cutRows]; omega) | (simp [cutRows]; done) | (simp [cutRows]; omega)) ?_; conv => whnf) | (refine SliceG.fr ?_; conv => whnf) | (refine BuildG.fr ?_; conv => whnf) | (refine idx_at _ (by with_reducible rfl) (by first | assumption | omega) ?_; conv => whnf) | ((with_reducible refine row_map (by first | assumption | omega) ?_); conv => whnf) | ((with_reducible refine row_set (by first | assumption | omega | (simp only [List.length_set]; omega) | (simp; omega)) ?_); conv => whnf) | ((refine sm_hitR (ek := ekR) (ev := evT) (keyInt .i64) _ _ y hq ?_); conv => whnf) | fail)
          · have hy : y = false := by simpa using h
            subst hy
            exact count_next () hk (by rw [wrap_succ hk (by omega), t1, List.map_append]; rfl) trivial
          · have hy : y = true := by simpa using h
            subst hy
            exact count_next () hk (by rw [wrap_succ hk (by omega), t1, List.map_append]; simp; rfl) trivial
        | none =>
          rw [hq] at gk
          rw [← gk] at t1
          conv => whnf
          repeat' (first | ((first | refine Split.mk (fun h => ?_) (fun h => ?_) | refine CondG.mk (fun h => ?_) (fun h => ?_)) <;> (try simp only [decide_eq_true_eq, decide_eq_false_iff_not, Bool.not_eq_true', Bool.not_eq_false', beq_iff_eq, beq_eq_false_iff_ne, bne_iff_ne, bne_eq_false_iff_eq] at h) <;> (first | (exfalso; first | omega | exact h trivial) | (conv => whnf))) | (refine Ask.mk (by first | omega | (unfold roomOK; simp [cutRows]; done) | (unfold roomOK; simp [cutRows]; omega) | (simp [cutRows]; done) | (simp [cutRows]; omega)) ?_; conv => whnf) | (refine AppG.mk (by first | omega | (unfold roomOK; simp [cutRows]; done) | (unfold roomOK; simp [cutRows]; omega) | (simp [cutRows]; done) | (simp [cutRows]; omega)) ?_; conv => whnf) | (refine SliceG.fr ?_; conv => whnf) | (refine BuildG.fr ?_; conv => whnf) | (refine idx_at _ (by with_reducible rfl) (by first | assumption | omega) ?_; conv => whnf) | ((with_reducible refine row_map (by first | assumption | omega) ?_); conv => whnf) | ((with_reducible refine row_set (by first | assumption | omega | (simp only [List.length_set]; omega) | (simp; omega)) ?_); conv => whnf) | ((refine sm_missR (ek := ekR) (ev := evT) (keyInt .i64) _ _ hq ?_); conv => whnf) | fail)
          exact count_next () hk (by rw [wrap_succ hk (by omega), t1, List.map_append]; rfl) trivial
      · intro _ _
        generalize missV P A.length = mi at *
        conv => whnf
        repeat' (first | ((first | refine Split.mk (fun h => ?_) (fun h => ?_) | refine CondG.mk (fun h => ?_) (fun h => ?_)) <;> (try simp only [decide_eq_true_eq, decide_eq_false_iff_not, Bool.not_eq_true', Bool.not_eq_false', beq_iff_eq, beq_eq_false_iff_ne, bne_iff_ne, bne_eq_false_iff_eq] at h) <;> (first | (exfalso; first | omega | exact h trivial) | (conv => whnf))) | (refine Ask.mk (by first | omega | (unfold roomOK; simp [cutRows]; done) | (unfold roomOK; simp [cutRows]; omega) | (simp [cutRows]; done) | (simp [cutRows]; omega)) ?_; conv => whnf) | (refine AppG.mk (by first | omega | (unfold roomOK; simp [cutRows]; done) | (unfold roomOK; simp [cutRows]; omega) | (simp [cutRows]; done) | (simp [cutRows]; omega)) ?_; conv => whnf) | (refine SliceG.fr ?_; conv => whnf) | (refine BuildG.fr ?_; conv => whnf) | (refine idx_at _ (by with_reducible rfl) (by first | assumption | omega) ?_; conv => whnf) | ((with_reducible refine row_map (by first | assumption | omega) ?_); conv => whnf) | ((with_reducible refine row_set (by first | assumption | omega | (simp only [List.length_set]; omega) | (simp; omega)) ?_); conv => whnf) | fail)
        refine loop_for (B.length) [.sl 18 3 1] [16, 17, 18, 19, 94, 95] (fun k (_ : Unit) => [(95, .c (.int .i64 (k : Int)))]) (fun k (_ : Unit) => [(2, .row 3 1 ((freshV P k).map encN))]) (fun k (_ : Unit) => True) (()) ?_
        conv => whnf
        refine ⟨(by first | rfl | (simp; done) | (simp; rfl)), (by trivial), ?_, ?_⟩
        · intro k _ hk _
          have t1 := freshV_succ P k
          have tl := freshV_len P k
          have tm : ((freshV P k).map encN).length = (freshV P k).length := List.length_map ..
          have gk := g2 k
          cases hq : m2.get ((k : Nat) : Int) with
          | some y =>
            rw [hq] at gk
            rw [← gk] at t1
            conv => whnf
            repeat' (first | ((first | refine Split.mk (fun h => ?_) (fun h => ?_) | refine CondG.mk (fun h => ?_) (fun h => ?_)) <;> (try simp only [decide_eq_true_eq, decide_eq_false_iff_not, Bool.not_eq_true', Bool.not_eq_false', beq_iff_eq, beq_eq_false_iff_ne, bne_iff_ne, bne_eq_false_iff_eq] at h) <;> (first | (exfalso; first | omega | exact h trivial) | (conv => whnf))) | (refine Ask.mk (by first | omega | (unfold roomOK; simp [cutRows]; done) | (unfold roomOK; simp [cutRows]; omega) | (simp [cutRows]; done) | (simp [cutRows]; omega)) ?_; conv => whnf) | (refine AppG.mk (by first | omega | (unfold roomOK; simp [cutRows]; done) | (unfold roomOK; simp [cutRows]; omega) | (simp [cutRows]; done) | (simp [cutRows]; omega)) ?_; conv => whnf) | (refine SliceG.fr ?_; conv => whnf) | (refine BuildG.fr ?_; conv => whnf) | (refine idx_at _ (by with_reducible rfl) (by first | assumption | omega) ?_; conv => whnf) | ((with_reducible refine row_map (by first | assumption | omega) ?_); conv => whnf) | ((with_reducible refine row_set (by first | assumption | omega | (simp only [List.length_set]; omega) | (simp; omega)) ?_); conv => whnf) | ((refine sm_hitR (ek := ekR) (ev := evT) (keyInt .i64) _ _ y hq ?_); conv => whnf) | fail)
            · have hy : y = false := by simpa using h
              subst hy
              exact count_next () hk (by rw [wrap_succ hk (by omega), t1, List.map_append]; rfl) trivial
            · have hy : y = true := by simpa using h
              subst hy
              exact count_next () hk (by rw [wrap_succ hk (by omega), t1, List.map_append]; simp; rfl) trivial
          | none =>
            rw [hq] at gk
            rw [← gk] at t1
            conv => whnf
            repeat' (first | ((first | refine Split.mk (fun h => ?_) (fun h => ?_) | refine CondG.mk (fun h => ?_) (fun h => ?_)) <;> (try simp only [decide_eq_true_eq, decide_eq_false_iff_not, Bool.not_eq_true', Bool.not_eq_false', beq_iff_eq, beq_eq_false_iff_ne, bne_iff_ne, bne_eq_false_iff_eq] at h) <;> (first | (exfalso; first | omega | exact h trivial) | (conv => whnf))) | (refine Ask.mk (by first | omega | (unfold roomOK; simp [cutRows]; done) | (unfold roomOK; simp [cutRows]; omega) | (simp [cutRows]; done) | (simp [cutRows]; omega)) ?_; conv => whnf) | (refine AppG.mk (by first | omega | (unfold roomOK; simp [cutRows]; done) | (unfold roomOK; simp [cutRows]; omega) | (simp [cutRows]; done) | (simp [cutRows]; omega)) ?_; conv => whnf) | (refine SliceG.fr ?_; conv => whnf) | (refine BuildG.fr ?_; conv => whnf) | (refine idx_at _ (by with_reducible rfl) (by first | assumption | omega) ?_; conv => whnf) | ((with_reducible refine row_map (by first | assumption | omega) ?_); conv => whnf) | ((with_reducible refine row_set (by first | assumption | omega | (simp only [List.length_set]; omega) | (simp; omega)) ?_); conv => whnf) | ((refine sm_missR (ek := ekR) (ev := evT) (keyInt .i64) _ _ hq ?_); conv => whnf) | fail)
            exact count_next () hk (by rw [wrap_succ hk (by omega), t1, List.map_append]; rfl) trivial
        · intro _ _
          conv => whnf
          repeat' (first | ((first | refine Split.mk (fun h => ?_) (fun h => ?_) | refine CondG.mk (fun h => ?_) (fun h => ?_)) <;> (try simp only [decide_eq_true_eq, decide_eq_false_iff_not, Bool.not_eq_true', Bool.not_eq_false', beq_iff_eq, beq_eq_false_iff_ne, bne_iff_ne, bne_eq_false_iff_eq] at h) <;> (first | (exfalso; first | omega | exact h trivial) | (conv => whnf))) | (refine Ask.mk (by first | omega | (unfold roomOK; simp [cutRows]; done) | (unfold roomOK; simp [cutRows]; omega) | (simp [cutRows]; done) | (simp [cutRows]; omega)) ?_; conv => whnf) | (refine AppG.mk (by first | omega | (unfold roomOK; simp [cutRows]; done) | (unfold roomOK; simp [cutRows]; omega) | (simp [cutRows]; done) | (simp [cutRows]; omega)) ?_; conv => whnf) | (refine SliceG.fr ?_; conv => whnf) | (refine BuildG.fr ?_; conv => whnf) | (refine idx_at _ (by with_reducible rfl) (by first | assumption | omega) ?_; conv => whnf) | ((with_reducible refine row_map (by first | assumption | omega) ?_); conv => whnf) | ((with_reducible refine row_set (by first | assumption | omega | (simp only [List.length_set]; omega) | (simp; omega)) ?_); conv => whnf) | fail)
          refine .frz 0 _ _ _ rfl (.frz 1 _ _ _ rfl (.frz 2 _ _ _ rfl (.weak [_, _, _] (.tup _ _ rfl ?_) rfl (Nat.le_refl _))))
          intro i a b ha hb
          match i with
          | 0 => cases ha; cases hb; exact .fro 0 _ _ rfl
          | 1 => cases ha; cases hb; exact .fro 1 _ _ rfl
          | 2 => cases ha; cases hb; exact .fro 2 _ _ rfl
          | 3 => cases ha; cases hb; exact .refl _
end Go.Proofs.Ytjflmenfinohcaa

/- The document's best matching: a table of rows, each made by the call. -/
namespace Go.Proofs.Ytjflmenfinohcaa
set_option linter.unusedVariables false
set_option linter.unusedSimpArgs false
open Abs

def encP (x : Hd.Mat.Pr) : List V := [.lst 2 (x.1.map encM), .int .i64 x.2]
set_option maxRecDepth 100000 in
set_option maxHeartbeats 4000000 in
theorem rFar_pc (x y : Int × Int) (hx : 0 ≤ x.1 ∧ x.1 ≤ 1000000) (hy : 0 ≤ y.1 ∧ y.1 ≤ 1000000) : PCp 25 [.agg (encQ x), .agg (encQ y)] [] (.c (.int .i64 (Hd.dist x.1 y.1))) [] := by
  have w1 : IntKind.i64.wrap (x.1 - y.1) = x.1 - y.1 := wrap_in (by omega) (by omega)
  have w2 : IntKind.i64.wrap (y.1 - x.1) = y.1 - x.1 := wrap_in (by omega) (by omega)
  refine fn_sound (mt := mts) tab_fits tab_mixed Try.func25 (by rfl) (by kernel_rfl) (by kernel_rfl) Try.results25 (Nat.le_of_ble_eq_true (by kernel_rfl)) ?_
  conv => whnf
  rw [w1, w2]
  refine fini ?_
  unfold Hd.dist
  split <;> omega
theorem Hd.dist_bdR {x y : Int} (h0 : 0 ≤ x ∧ x ≤ 1000000) (h2 : 0 ≤ y ∧ y ≤ 1000000) : 0 ≤ Hd.dist x y ∧ Hd.dist x y ≤ 1000000 := by unfold Hd.dist; omega
/-- a row of the table -/
def RowD (A B : List (Int × Int)) (near : Int) (i k : Nat) (rows : List (List V)) : Prop := rows.length = B.length + 1 ∧ (∀ j, k ≤ j → j ≤ B.length → rows[j]? = some (encP (Hd.bestM A B near i j))) ∧ ∀ j, j < k → j ≤ B.length → rows[j]? = some [.nils, .int .i64 0]
def GrdD (A B : List (Int × Int)) (near : Int) (i : Nat) (ins : List (Value × List (List V))) : Prop := ins.length = A.length + 1 ∧ ∀ j, i ≤ j → j ≤ A.length → ∃ c rows, ins[j]? = some (c, rows) ∧ RowD A B near j 0 rows
theorem prOk_best {A B : List (Int × Int)} (hA : A.length ≤ 100) (hB : B.length ≤ 100) (near : Int) (i k : Nat) : PrOk (Hd.bestM A B near i k) := by
  have h := Hd.bestM_rise A B near i k
  have h2 : (Hd.bestM A B near i k).1.length ≤ A.length - i := h.len
  exact ⟨by omega, fun p hp => by have := h.1 p hp; omega⟩
def Inv2 (A B : List (Int × Int)) (near : Int) (i k : Nat) (ins : List (Value × List (List V))) : Prop := ins.length = A.length + 1 ∧ (∀ j, i + 1 ≤ j → j ≤ A.length → ∃ c rows, ins[j]? = some (c, rows) ∧ RowD A B near j 0 rows) ∧ ∃ c rows, ins[i]? = some (c, rows) ∧ RowD A B near i k rows
theorem inv2_step {A B : List (Int × Int)} {near : Int} {i kk : Nat} {ins : List (Value × List (List V))} {c : Value} {rows : List (List V)} {v : Hd.Mat.Pr} (h : Inv2 A B near i (kk + 1) ins) (h0 : ins[i]? = some (c, rows)) (hl : rows.length = B.length + 1)
    (hr : ∀ j, kk + 1 ≤ j → j ≤ B.length → rows[j]? = some (encP (Hd.bestM A B near i j))) (hq : ∀ j, j < kk + 1 → j ≤ B.length → rows[j]? = some [.nils, .int .i64 0]) (hk : kk ≤ B.length) (hv : v = Hd.bestM A B near i kk) : Inv2 A B near i kk (ins.set i (c, rows.set kk (encP v))) := by
  subst hv
  have hil := (List.getElem?_eq_some_iff.1 h0).1
  refine ⟨by rw [List.length_set]; exact h.1, fun j h1 h2 => ?_, c, _, List.getElem?_set_self hil, by rw [List.length_set]; exact hl, fun j h1 h2 => ?_, fun j h1 h2 => ?_⟩
  · rw [List.getElem?_set_ne (by omega)]
    exact h.2.1 j h1 h2
  · by_cases e : j = kk
    · subst e; rw [List.getElem?_set_self (by omega)]
    · rw [List.getElem?_set_ne (Ne.symm e)]
      exact hr j (by omega) h2
  · rw [List.getElem?_set_ne (by omega)]
    exact hq j (by omega) h2
theorem best_eq (A B : List (Int × Int)) (near : Int) (i k : Nat) : Hd.bestM A B near i k =
    (if i < A.length ∧ k < B.length ∧ Hd.nearB A B near i k = true then Hd.Mat.pick ((i, k) :: (Hd.bestM A B near (i + 1) (k + 1)).1, (Hd.bestM A B near (i + 1) (k + 1)).2 + Hd.farI A B i k)
      (if k < B.length then Hd.Mat.pick (Hd.bestM A B near i (k + 1)) (if i < A.length then Hd.bestM A B near (i + 1) k else ([], 0)) else (if i < A.length then Hd.bestM A B near (i + 1) k else ([], 0)))
      else (if k < B.length then Hd.Mat.pick (Hd.bestM A B near i (k + 1)) (if i < A.length then Hd.bestM A B near (i + 1) k else ([], 0)) else (if i < A.length then Hd.bestM A B near (i + 1) k else ([], 0)))) := by
  unfold Hd.bestM
  rw [Hd.Mat.best]
set_option maxRecDepth 100000 in
set_option maxHeartbeats 4000000 in
theorem rMatchOf_pc (A B : List (Int × Int)) (near : Int) (hA : Hd.evFault A = 0) (hB : Hd.evFault B = 0) :
    PCp 13 [.c (.lst 2 (A.map encQ)), .c (.lst 2 (B.map encQ)), .c (.int .i64 near)] [] (.tup [.c (.lst 2 ((Hd.bestM A B near 0 0).1.map encM)), .c (.int .i64 (Hd.bestM A B near 0 0).2)]) [] := by
  obtain ⟨hl, hx, _⟩ := Hd.evFault_ok hA
  obtain ⟨gl, gx, _⟩ := Hd.evFault_ok hB
  have hAm : (A.map encQ).length = A.length := List.length_map ..
  have hBm : (B.map encQ).length = B.length := List.length_map ..
  have wA : IntKind.i64.wrap ((A.length : Int) + 1) = ((A.length + 1 : Nat) : Int) := by rw [wrap_in (by omega) (by omega)]; omega
  have wB : IntKind.i64.wrap ((B.length : Int) + 1) = ((B.length + 1 : Nat) : Int) := by rw [wrap_in (by omega) (by omega)]; omega
  have hok := prOk_best (A := A) (B := B) hl gl near
  refine fn_sound (mt := mts) tab_fits tab_mixed Try.func13 (by rfl) (by kernel_rfl) (by kernel_rfl) Try.results13 (Nat.le_of_ble_eq_true (by kernel_rfl)) ?_
  conv => whnf
  rw [hAm, wA]
  conv => whnf
  refine .gr ⟨rfl, ?_⟩
  conv => whnf
  refine .mk ⟨rfl, by omega, by unfold roomOK; simp; omega⟩ ?_
  refine ⟨by omega, ?_⟩
  conv => whnf
  refine loop_for (A.length + 1) [] [0, 1, 2, 8, 9] (fun k (ins : List (Value × List (List V))) => [(9, .c (.int .i64 ((A.length : Int) - (k : Int))))]) (fun k (ins : List (Value × List (List V))) => [(0, .grid 59 61 2 ins)]) (fun k (ins : List (Value × List (List V))) => GrdD A B near (A.length + 1 - k) ins) ((List.replicate (A.length + 1) (.slice none 0 0, []))) ?_
  conv => whnf
  refine ⟨?_, ?_, ?_, ?_⟩
  · rw [hAm, show ((A.length : Int) - ((0 : Nat) : Int)) = A.length by omega]; rfl
  · exact ⟨by simp, fun j h1 h2 => by omega⟩
  · intro k ins hk ⟨g1, g2⟩
    obtain ⟨i, hi⟩ : ∃ i : Nat, (A.length : Int) - (k : Int) = (i : Int) := ⟨A.length - k, by omega⟩
    rw [hi]
    conv => whnf
    refine .mk (fun _ => ?_) (fun h => absurd h (by simp))
    conv => whnf
    rw [hBm, wB]
    refine .mk ⟨rfl, by omega, by unfold roomOK; simp; omega⟩ ?_
    conv => whnf
    refine .mk (by omega) ?_
    conv => whnf
    refine .mk (by omega) ?_
    intro c0
    conv => whnf
    refine loop_for (B.length + 1) [] [0, 1, 2, 8, 9, 10] (fun j (ins' : List (Value × List (List V))) => [(10, .c (.int .i64 ((B.length : Int) - (j : Int))))]) (fun j (ins' : List (Value × List (List V))) => [(0, .grid 59 61 2 ins')]) (fun j (ins' : List (Value × List (List V))) => Inv2 A B near i (B.length + 1 - j) ins') (ins.set i (c0, List.replicate (B.length + 1) [.nils, .int .i64 0])) ?_
    conv => whnf
    refine ⟨?_, ?_, ?_, ?_⟩
    · rw [hBm, show ((B.length : Int) - ((0 : Nat) : Int)) = B.length by omega]; rfl
    · refine ⟨by simp [g1], fun j h1 h2 => ?_, c0, _, List.getElem?_set_self (by omega), by simp, fun j h1 h2 => by omega, fun j h1 h2 => by rw [List.getElem?_replicate, if_pos (by omega)]⟩
      rw [List.getElem?_set_ne (by omega)]
      exact g2 j (by omega) h2
    · intro j ins' hj ⟨g3, g4, c1, rows0, h0, hR0⟩
      obtain ⟨kk, hkk⟩ : ∃ kk : Nat, (B.length : Int) - (j : Int) = (kk : Int) := ⟨B.length - j, by omega⟩
      rw [hkk]
      have ek : B.length + 1 - j = kk + 1 := by omega
      have ek2 : B.length + 1 - (j + 1) = kk := by omega
      have wj : IntKind.i64.wrap (((kk : Nat) : Int) - 1) = (B.length : Int) - ((j + 1 : Nat) : Int) := by rw [wrap_in (by omega) (by omega)]; omega
      rw [ek] at hR0
      have wi : IntKind.i64.wrap (((i : Nat) : Int) + 1) = ((i + 1 : Nat) : Int) := by rw [wrap_in (by omega) (by omega)]; omega
      have wk : IntKind.i64.wrap (((kk : Nat) : Int) + 1) = ((kk + 1 : Nat) : Int) := by rw [wrap_in (by omega) (by omega)]; omega
      obtain ⟨hR0l, hR0v, hR0z⟩ := hR0
      have hz := hR0z kk (by omega) (by omega)
      have hbe := best_eq A B near i kk
      have step := fun v hv => inv2_step (v := v) ⟨g3, g4, c1, rows0, h0, hR0l, hR0v, hR0z⟩ h0 hR0l hR0v hR0z (show kk ≤ B.length by omega) hv
      have q0 := hR0v (kk + 1) (by omega)
      have h1x : i < A.length → ∃ c2 rows1, ins'[i + 1]? = some (c2, rows1) ∧ rows1.length = B.length + 1 ∧ ∀ j, j ≤ B.length → rows1[j]? = some (encP (Hd.bestM A B near (i + 1) j)) := by
        intro hi3
        obtain ⟨c2, rows1, h1, hR1l, hR1v, -⟩ := g4 (i + 1) (by omega) (by omega)
        exact ⟨c2, rows1, h1, hR1l, fun j hj => hR1v j (by omega) hj⟩
      obtain ⟨x0, hx0⟩ : ∃ x0, x0 = if i < A.length then Hd.bestM A B near (i + 1) kk else ([], 0) := ⟨_, rfl⟩
      obtain ⟨x1, hx1⟩ : ∃ x1, x1 = if kk < B.length then Hd.Mat.pick (Hd.bestM A B near i (kk + 1)) x0 else x0 := ⟨_, rfl⟩
      have o0 : PrOk x0 := by
        rw [hx0]
        split
        · exact hok _ _
        · exact ⟨by simp, by simp⟩
      have o2 := hok i (kk + 1)
      have o1 : PrOk x1 := by
        rw [hx1]
        unfold Hd.Mat.pick
        (repeat' split) <;> assumption
      rw [← hx0, ← hx1] at hbe
      have b1 := rBetter_pc (Hd.bestM A B near i (kk + 1)) x0 o2 o0
      conv => whnf
      refine .mk (fun _ => ?_) (fun h => absurd h (by simp))
      conv => whnf
      refine .join [.wx 11 0 2] [0, 1, 2, 8, 9, 10, 11] (fun σ => σ = ⟨[(0, .c (.lst 2 (A.map encQ))), (1, .c (.lst 2 (B.map encQ))), (2, .c (.int .i64 near)), (8, .c (.row 0)), (9, .c (.int .i64 (i : Nat))), (10, .c (.int .i64 (kk : Nat))), (11, .c (.ptr 1 0))], [(0, .grid 59 61 2 ins'), (1, .box (encP x0))], 2⟩) (fun h => ?_) (fun h => ?_) ?_
      · have hi3 : i < A.length := by simpa using h
        obtain ⟨c2, rows1, h1, hR1l, hR1v⟩ := h1x hi3
        have q1 := hR1v kk (by omega)
        rw [if_pos hi3] at hx0
        rw [← hx0] at q1
        conv => whnf
        repeat' (first | ((first | refine Split.mk (fun h => ?_) (fun h => ?_) | refine CondG.mk (fun h => ?_) (fun h => ?_)) <;> (try simp only [decide_eq_true_eq, decide_eq_false_iff_not, Bool.not_eq_true', Bool.not_eq_false', beq_iff_eq, beq_eq_false_iff_ne, bne_iff_ne, bne_eq_false_iff_eq] at h) <;> (first | (exfalso; first | omega | exact h trivial) | (conv => whnf))) | (refine Ask.mk (by first | omega | (unfold roomOK; simp [cutRows]; done) | (unfold roomOK; simp [cutRows]; omega) | (simp [cutRows]; done) | (simp [cutRows]; omega)) ?_; conv => whnf) | (refine AppG.mk (by first | omega | (unfold roomOK; simp [cutRows]; done) | (unfold roomOK; simp [cutRows]; omega) | (simp [cutRows]; done) | (simp [cutRows]; omega)) ?_; conv => whnf) | (refine SliceG.fr ?_; conv => whnf) | (refine BuildG.fr ?_; conv => whnf) | (refine idx_at _ (by with_reducible rfl) (by first | assumption | omega) ?_; conv => whnf) | ((with_reducible refine row_map (by first | assumption | omega) ?_); conv => whnf) | ((with_reducible refine row_set (by first | assumption | omega | (simp only [List.length_set]; omega) | (simp; omega)) ?_); conv => whnf) | ((refine GridL.mk _ _ (by first | exact h1 | (rw [wi]; exact h1)) ?_); conv => whnf) | ((refine GridG.mk _ (by first | exact h1 | (rw [wi]; exact h1)) ?_); conv => whnf) | ((refine RowG.mk _ (by exact q1) ?_); conv => whnf) | fail)
        rfl
      · have hi3 : ¬ i < A.length := by simpa using h
        rw [if_neg hi3] at hx0
        subst hx0
        conv => whnf
        rfl
      · rintro _ rfl
        by_cases hk3 : kk < B.length
        · replace q0 := q0 (by omega)
          rw [if_pos hk3] at hx1
          conv => whnf
          refine .mk (fun _ => ?_) (fun h => absurd h (by simp; omega))
          conv => whnf
          repeat' (first | (refine Ask.mk (by first | omega | (rw [wk]; omega)) ?_; conv => whnf) | (refine GridL.mk _ _ (by exact h0) ?_; conv => whnf) | (refine GridG.mk _ (by exact h0) ?_; conv => whnf) | (refine RowG.mk _ (by rw [wk]; exact q0) ?_; conv => whnf) | (refine CallG.mk _ _ (by exact b1) ?_; conv => whnf) | fail)
          refine .join [] [0, 1, 2, 8, 9, 10, 11] (fun σ => σ = ⟨[(0, .c (.lst 2 (A.map encQ))), (1, .c (.lst 2 (B.map encQ))), (2, .c (.int .i64 near)), (8, .c (.row 0)), (9, .c (.int .i64 (i : Nat))), (10, .c (.int .i64 (kk : Nat))), (11, .c (.ptr 1 0))], [(0, .grid 59 61 2 ins'), (1, .box (encP x1))], 2⟩) (fun h => ?_) (fun h => ?_) ?_
          · unfold Hd.Mat.pick at hx1
            rw [if_pos h] at hx1
            rw [← hx1] at q0
            conv => whnf
            repeat' (first | (refine Ask.mk (by first | omega | (rw [wk]; omega)) ?_; conv => whnf) | (refine GridL.mk _ _ (by exact h0) ?_; conv => whnf) | (refine GridG.mk _ (by exact h0) ?_; conv => whnf) | (refine RowG.mk _ (by rw [wk]; exact q0) ?_; conv => whnf) | fail)
            rfl
          · unfold Hd.Mat.pick at hx1
            rw [if_neg (by rw [h]; decide)] at hx1
            subst hx1
            conv => whnf
            rfl
          · rintro _ rfl
            by_cases hi3 : i < A.length
            · obtain ⟨c2, rows1, h1, hR1l, hR1v⟩ := h1x hi3
              have q2 := hR1v (kk + 1) (by omega)
              have o3 := hok (i + 1) (kk + 1)
              have o3l : (Hd.bestM A B near (i + 1) (kk + 1)).1.length ≤ A.length - (i + 1) := (Hd.bestM_rise A B near (i + 1) (kk + 1)).len
              have hs4 : 0 ≤ (Hd.bestM A B near (i + 1) (kk + 1)).2 ∧ (Hd.bestM A B near (i + 1) (kk + 1)).2 ≤ 1000000000 := (Hd.scI_bd A B near hl hx gx (i + 1) (kk + 1)).2.2
              have ha := hx i hi3
              have hb := gx kk hk3
              have hd := Hd.dist_bdR ha hb
              have eA : (A[i]'hi3).1 = Hd.atI A i := by unfold Hd.atI; simp [hi3]
              have eB : (B[kk]'hk3).1 = Hd.atI B kk := by unfold Hd.atI; simp [hk3]
              have cF := rFar_pc (A[i]'hi3) (B[kk]'hk3) (by rw [eA]; exact ha) (by rw [eB]; exact hb)
              rw [eA, eB] at cF
              have hn : Hd.nearB A B near i kk = decide (Hd.dist (Hd.atI A i) (Hd.atI B kk) ≤ near) := rfl
              have hf : Hd.farI A B i kk = Hd.dist (Hd.atI A i) (Hd.atI B kk) := rfl
              rw [hn, hf] at hbe
              have wS : IntKind.i64.wrap ((Hd.bestM A B near (i + 1) (kk + 1)).2 + Hd.dist (Hd.atI A i) (Hd.atI B kk)) = (Hd.bestM A B near (i + 1) (kk + 1)).2 + Hd.dist (Hd.atI A i) (Hd.atI B kk) := wrap_in (by omega) (by omega)
              generalize Hd.dist (Hd.atI A i) (Hd.atI B kk) = ds at *
              generalize Hd.bestM A B near (i + 1) (kk + 1) = z3 at *
              have oy : PrOk ((i, kk) :: z3.1, z3.2 + ds) := by
                refine ⟨by simp only [List.length_cons]; omega, fun p hp => ?_⟩
                rcases List.mem_cons.1 hp with e | e
                · subst e; exact ⟨by simp only; omega, by simp only; omega⟩
                · exact o3.2 p e
              have b2 := rBetter_pc ((i, kk) :: z3.1, z3.2 + ds) x1 oy o1
              simp only at b2
              have b2' : PCp 24 [.agg [.lst 2 (((i, kk) :: z3.1).map encM), .int .i64 (IntKind.i64.wrap (z3.2 + ds))], .agg [.lst 2 (x1.1.map encM), .int .i64 x1.2]] [] (.c (.bool (Hd.Mat.bet ((i, kk) :: z3.1, z3.2 + ds) x1))) [] := by rw [wS]; exact b2
              conv => whnf
              refine .mk (fun _ => ?_) (fun h => absurd h (by simp; omega))
              conv => whnf
              refine .mk (fun _ => ?_) (fun h => absurd h (by simp; omega))
              conv => whnf
              repeat' (first | ((first | refine Split.mk (fun h => ?_) (fun h => ?_) | refine CondG.mk (fun h => ?_) (fun h => ?_)) <;> (try simp only [decide_eq_true_eq, decide_eq_false_iff_not, Bool.not_eq_true', Bool.not_eq_false', beq_iff_eq, beq_eq_false_iff_ne, bne_iff_ne, bne_eq_false_iff_eq] at h) <;> (first | (exfalso; first | omega | exact h trivial) | (conv => whnf))) | (refine CallX.mk _ _ (by first | exact cF | exact b2') ?_; conv => whnf) | (refine CallG.mk _ _ (by first | exact cF | exact b2') ?_; conv => whnf) | (refine Ask.mk (by first | omega | (unfold roomOK; simp [cutRows]; done) | (unfold roomOK; simp [cutRows]; omega) | (simp [cutRows]; done) | (simp [cutRows]; omega)) ?_; conv => whnf) | (refine AppG.mk (by first | omega | (unfold roomOK; simp [cutRows]; done) | (unfold roomOK; simp [cutRows]; omega) | (simp [cutRows]; done) | (simp [cutRows]; omega)) ?_; conv => whnf) | (refine SliceG.fr ?_; conv => whnf) | (refine BuildG.fr ?_; conv => whnf) | (refine idx_at _ (by with_reducible rfl) (by first | assumption | omega) ?_; conv => whnf) | ((with_reducible refine row_map (by first | assumption | omega) ?_); conv => whnf) | ((with_reducible refine row_set (by first | assumption | omega | (simp only [List.length_set]; omega) | (simp; omega)) ?_); conv => whnf) | ((refine idx_map i hi3 rfl ?_); conv => whnf) | ((refine idx_map kk hk3 rfl ?_); conv => whnf) | ((refine GridL.mk _ _ (by first | exact h0 | exact h1 | (rw [wi]; exact h1)) ?_); conv => whnf) | ((refine GridG.mk _ (by first | exact h0 | exact h1 | (rw [wi]; exact h1)) ?_); conv => whnf) | ((refine RowG.mk _ (by first | exact hz | (rw [wk]; exact q2)) ?_); conv => whnf) | fail)
              all_goals first | (exfalso; omega) | skip
              · rw [if_pos ⟨hi3, hk3, decide_eq_true (by assumption)⟩] at hbe
                unfold Hd.Mat.pick at hbe
                rw [if_pos (by assumption)] at hbe
                exact count_next (ins'.set i (c1, rows0.set kk (encP ((i, kk) :: z3.1, z3.2 + ds)))) hj (by rw [wj, wS]; rfl) (by rw [ek2]; exact step _ hbe.symm)
              · rw [if_pos ⟨hi3, hk3, decide_eq_true (by assumption)⟩] at hbe
                unfold Hd.Mat.pick at hbe
                have hbb : Hd.Mat.bet ((i, kk) :: z3.1, z3.2 + ds) x1 = false := by assumption
                rw [if_neg (by rw [hbb]; decide)] at hbe
                exact count_next (ins'.set i (c1, rows0.set kk (encP x1))) hj (by rw [wj]; rfl) (by rw [ek2]; exact step x1 hbe.symm)
              · rw [if_neg (fun q => absurd (of_decide_eq_true q.2.2) (by assumption))] at hbe
                exact count_next (ins'.set i (c1, rows0.set kk (encP x1))) hj (by rw [wj]; rfl) (by rw [ek2]; exact step x1 hbe.symm)
            · rw [if_neg (by omega)] at hbe
              conv => whnf
              repeat' (first | ((first | refine Split.mk (fun h => ?_) (fun h => ?_) | refine CondG.mk (fun h => ?_) (fun h => ?_)) <;> (try simp only [decide_eq_true_eq, decide_eq_false_iff_not, Bool.not_eq_true', Bool.not_eq_false', beq_iff_eq, beq_eq_false_iff_ne, bne_iff_ne, bne_eq_false_iff_eq] at h) <;> (first | (exfalso; first | omega | exact h trivial) | (conv => whnf))) | (refine Ask.mk (by first | omega | (unfold roomOK; simp [cutRows]; done) | (unfold roomOK; simp [cutRows]; omega) | (simp [cutRows]; done) | (simp [cutRows]; omega)) ?_; conv => whnf) | (refine AppG.mk (by first | omega | (unfold roomOK; simp [cutRows]; done) | (unfold roomOK; simp [cutRows]; omega) | (simp [cutRows]; done) | (simp [cutRows]; omega)) ?_; conv => whnf) | (refine SliceG.fr ?_; conv => whnf) | (refine BuildG.fr ?_; conv => whnf) | (refine idx_at _ (by with_reducible rfl) (by first | assumption | omega) ?_; conv => whnf) | ((with_reducible refine row_map (by first | assumption | omega) ?_); conv => whnf) | ((with_reducible refine row_set (by first | assumption | omega | (simp only [List.length_set]; omega) | (simp; omega)) ?_); conv => whnf) | ((refine GridL.mk _ _ (by exact h0) ?_); conv => whnf) | ((refine GridG.mk _ (by exact h0) ?_); conv => whnf) | ((refine RowG.mk _ (by exact hz) ?_); conv => whnf) | fail)
              all_goals first | (exfalso; omega) | exact count_next (ins'.set i (c1, rows0.set kk (encP x1))) hj (by rw [wj]; rfl) (by rw [ek2]; exact step x1 hbe.symm) | trace_state
        · rw [if_neg hk3] at hx1
          subst hx1
          rw [if_neg (by omega)] at hbe
          conv => whnf
          repeat' (first | ((first | refine Split.mk (fun h => ?_) (fun h => ?_) | refine CondG.mk (fun h => ?_) (fun h => ?_)) <;> (try simp only [decide_eq_true_eq, decide_eq_false_iff_not, Bool.not_eq_true', Bool.not_eq_false', beq_iff_eq, beq_eq_false_iff_ne, bne_iff_ne, bne_eq_false_iff_eq] at h) <;> (first | (exfalso; first | omega | exact h trivial) | (conv => whnf))) | (refine Ask.mk (by first | omega | (unfold roomOK; simp [cutRows]; done) | (unfold roomOK; simp [cutRows]; omega) | (simp [cutRows]; done) | (simp [cutRows]; omega)) ?_; conv => whnf) | (refine AppG.mk (by first | omega | (unfold roomOK; simp [cutRows]; done) | (unfold roomOK; simp [cutRows]; omega) | (simp [cutRows]; done) | (simp [cutRows]; omega)) ?_; conv => whnf) | (refine SliceG.fr ?_; conv => whnf) | (refine BuildG.fr ?_; conv => whnf) | (refine idx_at _ (by with_reducible rfl) (by first | assumption | omega) ?_; conv => whnf) | ((with_reducible refine row_map (by first | assumption | omega) ?_); conv => whnf) | ((with_reducible refine row_set (by first | assumption | omega | (simp only [List.length_set]; omega) | (simp; omega)) ?_); conv => whnf) | ((refine GridL.mk _ _ (by exact h0) ?_); conv => whnf) | ((refine GridG.mk _ (by exact h0) ?_); conv => whnf) | ((refine RowG.mk _ (by exact hz) ?_); conv => whnf) | fail)
          all_goals first | (exfalso; omega) | exact count_next (ins'.set i (c1, rows0.set kk (encP x1))) hj (by rw [wj]; rfl) (by rw [ek2]; exact step x1 hbe.symm) | trace_state
    · intro ins' ⟨g3, g4, c1, rows0, h0, hR0⟩
      have wj : IntKind.i64.wrap (((i : Nat) : Int) - 1) = (A.length : Int) - ((k + 1 : Nat) : Int) := by rw [wrap_in (by omega) (by omega)]; omega
      rw [Nat.sub_self] at hR0
      conv => whnf
      repeat' (first | ((first | refine Split.mk (fun h => ?_) (fun h => ?_) | refine CondG.mk (fun h => ?_) (fun h => ?_)) <;> (try simp only [decide_eq_true_eq, decide_eq_false_iff_not, Bool.not_eq_true', Bool.not_eq_false', beq_iff_eq, beq_eq_false_iff_ne, bne_iff_ne, bne_eq_false_iff_eq] at h) <;> (first | (exfalso; first | omega | exact h trivial) | (conv => whnf))) | (refine Ask.mk (by first | omega | (unfold roomOK; simp [cutRows]; done) | (unfold roomOK; simp [cutRows]; omega) | (simp [cutRows]; done) | (simp [cutRows]; omega)) ?_; conv => whnf) | (refine AppG.mk (by first | omega | (unfold roomOK; simp [cutRows]; done) | (unfold roomOK; simp [cutRows]; omega) | (simp [cutRows]; done) | (simp [cutRows]; omega)) ?_; conv => whnf) | (refine SliceG.fr ?_; conv => whnf) | (refine BuildG.fr ?_; conv => whnf) | (refine idx_at _ (by with_reducible rfl) (by first | assumption | omega) ?_; conv => whnf) | ((with_reducible refine row_map (by first | assumption | omega) ?_); conv => whnf) | ((with_reducible refine row_set (by first | assumption | omega | (simp only [List.length_set]; omega) | (simp; omega)) ?_); conv => whnf) | fail)
      all_goals first | (exfalso; omega) | skip
      refine count_next ins' hk (by rw [wj]; rfl) ⟨g3, fun j h1 h2 => ?_⟩
      by_cases e : j = i
      · subst e; exact ⟨c1, rows0, h0, hR0⟩
      · exact g4 j (by omega) h2
  · intro ins ⟨g1, g2⟩
    obtain ⟨c, rows, h0, hR, hRv, -⟩ := g2 0 (by omega) (by omega)
    have q := hRv 0 (by omega) (by omega)
    conv => whnf
    repeat' (first | ((first | refine Split.mk (fun h => ?_) (fun h => ?_) | refine CondG.mk (fun h => ?_) (fun h => ?_)) <;> (try simp only [decide_eq_true_eq, decide_eq_false_iff_not, Bool.not_eq_true', Bool.not_eq_false', beq_iff_eq, beq_eq_false_iff_ne, bne_iff_ne, bne_eq_false_iff_eq] at h) <;> (first | (exfalso; first | omega | exact h trivial) | (conv => whnf))) | (refine Ask.mk (by first | omega | (unfold roomOK; simp [cutRows]; done) | (unfold roomOK; simp [cutRows]; omega) | (simp [cutRows]; done) | (simp [cutRows]; omega)) ?_; conv => whnf) | (refine AppG.mk (by first | omega | (unfold roomOK; simp [cutRows]; done) | (unfold roomOK; simp [cutRows]; omega) | (simp [cutRows]; done) | (simp [cutRows]; omega)) ?_; conv => whnf) | (refine SliceG.fr ?_; conv => whnf) | (refine BuildG.fr ?_; conv => whnf) | (refine idx_at _ (by with_reducible rfl) (by first | assumption | omega) ?_; conv => whnf) | ((with_reducible refine row_map (by first | assumption | omega) ?_); conv => whnf) | ((with_reducible refine row_set (by first | assumption | omega | (simp only [List.length_set]; omega) | (simp; omega)) ?_); conv => whnf) | ((refine GridL.mk _ _ (by exact h0) ?_); conv => whnf) | ((refine GridG.mk _ (by exact h0) ?_); conv => whnf) | ((refine RowG.mk _ (by exact q) ?_); conv => whnf) | fail)
    all_goals first | (exfalso; omega) | exact .mk ⟨rfl, rfl⟩ | trace_state
end Go.Proofs.Ytjflmenfinohcaa

/- The document's Explained. -/
namespace Go.Proofs.Ytjflmenfinohcaa
set_option linter.unusedVariables false
set_option linter.unusedSimpArgs false
open Abs

set_option maxRecDepth 100000 in
set_option maxHeartbeats 4000000 in
theorem ixM_pc (key : Int) (g : Nat) (p : (Nat × Nat) → Bool) (l : List (Nat × Nat)) (hl : l.length ≤ 1000000) (hg : ∀ x ∈ l, PCp g [.agg (encM x), .c (.ptr 0 0)] [.box [.int .i64 key]] (.c (.bool (p x))) [.box [.int .i64 key]]) : PCp 28 [.c (.lst 2 (l.map encM)), .c (.fn g [.ptr 0 0])] [.box [.int .i64 key]] (.c (.int .i64 (idxP p l))) [.box [.int .i64 key]] := by
  have hlm : (l.map encM).length = l.length := List.length_map ..
  refine fn_sound (mt := mts) tab_fits tab_mixed Try.func28 (by rfl) (by kernel_rfl) (by kernel_rfl) Try.results28 (Nat.le_of_ble_eq_true (by kernel_rfl)) ?_
  conv => whnf
  refine loop_count (l.length) [] [0, 1, 7, 8] (fun k (_ : Unit) => ⟨[(0, .c (.lst 2 (l.map encM))), (1, .c (.fn g [.ptr 0 0])), (7, .c (.int .i64 (l.map encM).length)), (8, .c (.int .i64 k))], [(0, .box [.int .i64 key])], 1⟩) (fun k (_ : Unit) => ∀ i (hi : i < l.length), i < k → p l[i] = false) (()) ?_ ?_ ?_
  · conv => whnf
    exact ⟨rfl, by intro i hi h; omega⟩
  · intro k _ hk hi
    conv => whnf
    repeat' (first | ((first | refine Split.mk (fun h => ?_) (fun h => ?_) | refine CondG.mk (fun h => ?_) (fun h => ?_)) <;> (try simp only [decide_eq_true_eq, decide_eq_false_iff_not, Bool.not_eq_true', Bool.not_eq_false', beq_iff_eq, beq_eq_false_iff_ne, bne_iff_ne, bne_eq_false_iff_eq] at h) <;> (first | (exfalso; first | omega | exact h trivial) | (conv => whnf))) | (refine CallX.mk _ _ (by first | exact hg l[k] (List.getElem_mem hk)) ?_; conv => whnf) | (refine CallG.mk _ _ (by first | exact hg l[k] (List.getElem_mem hk)) ?_; conv => whnf) | (refine Ask.mk (by first | omega | (unfold roomOK; simp [cutRows]; done) | (unfold roomOK; simp [cutRows]; omega) | (simp [cutRows]; done) | (simp [cutRows]; omega)) ?_; conv => whnf) | (refine AppG.mk (by first | omega | (unfold roomOK; simp [cutRows]; done) | (unfold roomOK; simp [cutRows]; omega) | (simp [cutRows]; done) | (simp [cutRows]; omega)) ?_; conv => whnf) | (refine SliceG.fr ?_; conv => whnf) | (refine BuildG.fr ?_; conv => whnf) | (refine idx_at _ (by with_reducible rfl) (by first | assumption | omega) ?_; conv => whnf) | ((with_reducible refine row_map (by first | assumption | omega) ?_); conv => whnf) | ((with_reducible refine row_set (by first | assumption | omega | (simp only [List.length_set]; omega) | (simp; omega)) ?_); conv => whnf) | fail)
    · exact .mk ⟨by rw [idxP_hit hk (fun i hi' => hi i (by omega) hi') h]; rfl, rfl⟩
    · refine count_next () hk (by rw [wrap_succ hk (by omega)]; rfl) ?_
      exact all_succ' hi h
  · intro _ hi
    conv => whnf
    repeat' (first | ((first | refine Split.mk (fun h => ?_) (fun h => ?_) | refine CondG.mk (fun h => ?_) (fun h => ?_)) <;> (try simp only [decide_eq_true_eq, decide_eq_false_iff_not, Bool.not_eq_true', Bool.not_eq_false', beq_iff_eq, beq_eq_false_iff_ne] at h) <;> (first | (exfalso; first | omega | exact h trivial) | (conv => whnf))) | (refine Ask.mk (by first | omega | (unfold roomOK; simp [cutRows]; done) | (unfold roomOK; simp [cutRows]; omega)) ?_; conv => whnf) | (refine AppG.mk (by first | omega | (unfold roomOK; simp [cutRows]; done) | (unfold roomOK; simp [cutRows]; omega)) ?_; conv => whnf) | (refine SliceG.fr ?_; conv => whnf) | (refine BuildG.fr ?_; conv => whnf) | fail)
    exact .mk ⟨by rw [idxP_miss (fun i h => hi i h h)]; rfl, rfl⟩
set_option maxRecDepth 100000 in
set_option maxHeartbeats 4000000 in
theorem ixMC_pc (key : Int) (g : Nat) (p : (Nat × Nat) → Bool) (l : List (Nat × Nat)) (hl : l.length ≤ 1000000) (hg : ∀ x ∈ l, PCp g [.agg (encM x), .c (.ptr 0 0)] [.box [.int .i64 key]] (.c (.bool (p x))) [.box [.int .i64 key]]) : PCp 26 [.c (.lst 2 (l.map encM)), .c (.fn g [.ptr 0 0])] [.box [.int .i64 key]] (.c (.bool (l.any p))) [.box [.int .i64 key]] := by
  refine fn_sound (mt := mts) tab_fits tab_mixed Try.func26 (by rfl) (by kernel_rfl) (by kernel_rfl) Try.results26 (Nat.le_of_ble_eq_true (by kernel_rfl)) ?_
  conv => whnf
  repeat' (first | ((first | refine Split.mk (fun h => ?_) (fun h => ?_) | refine CondG.mk (fun h => ?_) (fun h => ?_)) <;> (try simp only [decide_eq_true_eq, decide_eq_false_iff_not, Bool.not_eq_true', Bool.not_eq_false', beq_iff_eq, beq_eq_false_iff_ne] at h) <;> (first | (exfalso; first | omega | exact h trivial) | (conv => whnf))) | (refine CallX.mk _ _ (by first | exact ixM_pc key g p l hl hg) ?_; conv => whnf) | (refine CallG.mk _ _ (by first | exact ixM_pc key g p l hl hg) ?_; conv => whnf) | (refine Ask.mk (by first | omega | (unfold roomOK; simp [cutRows]; done) | (unfold roomOK; simp [cutRows]; omega)) ?_; conv => whnf) | (refine AppG.mk (by first | omega | (unfold roomOK; simp [cutRows]; done) | (unfold roomOK; simp [cutRows]; omega)) ?_; conv => whnf) | (refine SliceG.fr ?_; conv => whnf) | (refine BuildG.fr ?_; conv => whnf) | fail)
  exact .mk ⟨by rw [← idxP_any]; rfl, rfl⟩
set_option maxRecDepth 100000 in
set_option maxHeartbeats 4000000 in
theorem rEx1_pc (p : Nat × Nat) (i : Nat) : PCp 27 [.agg (encM p), .c (.ptr 0 0)] [.box [.int .i64 (i : Nat)]] (.c (.bool (decide (p.1 = i)))) [.box [.int .i64 (i : Nat)]] := by
  refine fn_sound (mt := mts) tab_fits tab_mixed Try.func27 (by rfl) (by kernel_rfl) (by kernel_rfl) Try.results27 (Nat.le_of_ble_eq_true (by kernel_rfl)) ?_
  conv => whnf
  repeat' (first | ((first | refine Split.mk (fun h => ?_) (fun h => ?_) | refine CondG.mk (fun h => ?_) (fun h => ?_)) <;> (try simp only [decide_eq_true_eq, decide_eq_false_iff_not, Bool.not_eq_true', Bool.not_eq_false', beq_iff_eq, beq_eq_false_iff_ne, bne_iff_ne, bne_eq_false_iff_eq] at h) <;> (first | (exfalso; first | omega | exact h trivial) | (conv => whnf))) | (refine Ask.mk (by first | omega | (unfold roomOK; simp [cutRows]; done) | (unfold roomOK; simp [cutRows]; omega) | (simp [cutRows]; done) | (simp [cutRows]; omega)) ?_; conv => whnf) | (refine AppG.mk (by first | omega | (unfold roomOK; simp [cutRows]; done) | (unfold roomOK; simp [cutRows]; omega) | (simp [cutRows]; done) | (simp [cutRows]; omega)) ?_; conv => whnf) | (refine SliceG.fr ?_; conv => whnf) | (refine BuildG.fr ?_; conv => whnf) | (refine idx_at _ (by with_reducible rfl) (by first | assumption | omega) ?_; conv => whnf) | ((with_reducible refine row_map (by first | assumption | omega) ?_); conv => whnf) | ((with_reducible refine row_set (by first | assumption | omega | (simp only [List.length_set]; omega) | (simp; omega)) ?_); conv => whnf) | fail)
  refine .mk ⟨sboolR ?_, rfl⟩
  rw [Bool.eq_iff_iff, beq_iff_eq, decide_eq_true_eq]
  omega
set_option maxRecDepth 100000 in
set_option maxHeartbeats 4000000 in
theorem rEx2_pc (p : Nat × Nat) (i : Nat) : PCp 29 [.agg (encM p), .c (.ptr 0 0)] [.box [.int .i64 (i : Nat)]] (.c (.bool (decide (p.2 = i)))) [.box [.int .i64 (i : Nat)]] := by
  refine fn_sound (mt := mts) tab_fits tab_mixed Try.func29 (by rfl) (by kernel_rfl) (by kernel_rfl) Try.results29 (Nat.le_of_ble_eq_true (by kernel_rfl)) ?_
  conv => whnf
  repeat' (first | ((first | refine Split.mk (fun h => ?_) (fun h => ?_) | refine CondG.mk (fun h => ?_) (fun h => ?_)) <;> (try simp only [decide_eq_true_eq, decide_eq_false_iff_not, Bool.not_eq_true', Bool.not_eq_false', beq_iff_eq, beq_eq_false_iff_ne, bne_iff_ne, bne_eq_false_iff_eq] at h) <;> (first | (exfalso; first | omega | exact h trivial) | (conv => whnf))) | (refine Ask.mk (by first | omega | (unfold roomOK; simp [cutRows]; done) | (unfold roomOK; simp [cutRows]; omega) | (simp [cutRows]; done) | (simp [cutRows]; omega)) ?_; conv => whnf) | (refine AppG.mk (by first | omega | (unfold roomOK; simp [cutRows]; done) | (unfold roomOK; simp [cutRows]; omega) | (simp [cutRows]; done) | (simp [cutRows]; omega)) ?_; conv => whnf) | (refine SliceG.fr ?_; conv => whnf) | (refine BuildG.fr ?_; conv => whnf) | (refine idx_at _ (by with_reducible rfl) (by first | assumption | omega) ?_; conv => whnf) | ((with_reducible refine row_map (by first | assumption | omega) ?_); conv => whnf) | ((with_reducible refine row_set (by first | assumption | omega | (simp only [List.length_set]; omega) | (simp; omega)) ?_); conv => whnf) | fail)
  refine .mk ⟨sboolR ?_, rfl⟩
  rw [Bool.eq_iff_iff, beq_iff_eq, decide_eq_true_eq]
  omega
theorem idxP_orR {α : Type} (p : α → Bool) (l : List α) : (idxP p l = -1 ∧ ∀ x ∈ l, p x = false) ∨ ∃ i0, ∃ h0 : i0 < l.length, idxP p l = ((i0 : Nat) : Int) ∧ p l[i0] = true ∧ ∀ i (hi : i < l.length), i < i0 → p l[i] = false := by
  unfold idxP
  by_cases h : l.any p = true
  · right
    have hlt := List.findIdx_lt_length_of_exists (p := p) (xs := l) (by simpa [List.any_eq_true] using h)
    refine ⟨l.findIdx p, hlt, by rw [if_pos h], List.findIdx_getElem (w := hlt), ?_⟩
    intro i hi hlt
    simpa using List.not_of_lt_findIdx hlt
  · left
    refine ⟨by rw [if_neg h], fun x hx => ?_⟩
    cases hp : p x with
    | false => rfl
    | true => exact absurd (List.any_eq_true.2 ⟨x, hx, hp⟩) h
theorem worseK_succ (w : Nat × Nat → Bool) (P : List (Nat × Nat)) (m : Nat) : worseK w P (m + 1) = worseK w P m ++ (if (match P.find? (fun p => decide (p.2 = m)) with | some p => w p | none => false) = true then [m] else []) := by
  unfold worseK
  rw [List.range_succ, List.filter_append]
  congr 1
  have hf : ∀ f : Nat → Bool, [m].filter f = if f m = true then [m] else [] := by intro f; cases h : f m <;> simp [h]
  exact hf _
theorem worseK_len (w : Nat × Nat → Bool) (P : List (Nat × Nat)) (m : Nat) : (worseK w P m).length ≤ m := by unfold worseK; exact Nat.le_trans (List.length_filter_le _ _) (by simp)
theorem evF_bd {A : List (Int × Int)} (h : Hd.evFault A = 0) {i : Nat} (hi : i < A.length) : -10000 ≤ lossG A i ∧ lossG A i ≤ 10000 := (Hd.evFault_ok h).2.2 i hi
set_option maxRecDepth 100000 in
set_option maxHeartbeats 4000000 in
theorem rExplained_pc (A B : List (Int × Int)) (near loss : Int) (hE : Hd.xErr A B near loss = 0) :
    PCp 14 [.c (.lst 2 (A.map encQ)), .c (.lst 2 (B.map encQ)), .c (.int .i64 near), .c (.int .i64 loss)] [] (.tup [.c (.lst 1 ((missV (bsM A B near) A.length).map encN)), .c (.lst 1 ((freshV (bsM A B near) B.length).map encN)), .c (.lst 1 ((worseK (wrs A B loss) (bsM A B near) B.length).map encN))]) [] := by
  have hX := xErr_split A B near loss
  rw [hE] at hX
  have hm : Hd.mErr A B near = 0 := by
    split at hX
    · assumption
    · exact hX.symm
  rw [if_pos hm] at hX
  have hls : ¬ (loss < 0 ∨ 10000 < loss) := by intro q; rw [if_pos q] at hX; cases hX
  obtain ⟨hA, hB, _⟩ := Hd.mErr_ok hm
  obtain ⟨hl, hx, hy⟩ := Hd.evFault_ok hA
  obtain ⟨gl, gx, gy⟩ := Hd.evFault_ok hB
  have cM := rMatchOf_pc A B near hA hB
  have hAm : (A.map encQ).length = A.length := List.length_map ..
  have hBm : (B.map encQ).length = B.length := List.length_map ..
  have hin : ∀ k (hk : k < (bsM A B near).length), (bsM A B near)[k].1 < A.length ∧ (bsM A B near)[k].2 < B.length := fun k hk => bsM_in A B near hk
  have hpl : (bsM A B near).length ≤ 100 := by
    have h2 : (bsM A B near).length ≤ A.length - 0 := (Hd.bestM_rise A B near 0 0).len
    omega
  have cM' : PCp 13 [.c (.lst 2 (A.map encQ)), .c (.lst 2 (B.map encQ)), .c (.int .i64 near)] [] (.tup [.c (.lst 2 ((bsM A B near).map encM)), .c (.int .i64 (Hd.bestM A B near 0 0).2)]) [] := cM
  clear cM
  generalize (Hd.bestM A B near 0 0).2 = sm at cM'
  generalize bsM A B near = P at *
  have hPm : (P.map encM).length = P.length := List.length_map ..
  refine fn_sound (mt := mts) tab_fits tab_mixed Try.func14 (by rfl) (by kernel_rfl) (by kernel_rfl) Try.results14 (Nat.le_of_ble_eq_true (by kernel_rfl)) ?_
  conv => whnf
  repeat' (first | ((first | refine Split.mk (fun h => ?_) (fun h => ?_) | refine CondG.mk (fun h => ?_) (fun h => ?_)) <;> (try simp only [decide_eq_true_eq, decide_eq_false_iff_not, Bool.not_eq_true', Bool.not_eq_false', beq_iff_eq, beq_eq_false_iff_ne, bne_iff_ne, bne_eq_false_iff_eq] at h) <;> (first | (exfalso; first | omega | exact h trivial) | (conv => whnf))) | (refine CallX.mk _ _ (by first | exact cM') ?_; conv => whnf) | (refine CallG.mk _ _ (by first | exact cM') ?_; conv => whnf) | (refine Ask.mk (by first | omega | (unfold roomOK; simp [cutRows]; done) | (unfold roomOK; simp [cutRows]; omega) | (simp [cutRows]; done) | (simp [cutRows]; omega)) ?_; conv => whnf) | (refine AppG.mk (by first | omega | (unfold roomOK; simp [cutRows]; done) | (unfold roomOK; simp [cutRows]; omega) | (simp [cutRows]; done) | (simp [cutRows]; omega)) ?_; conv => whnf) | (refine SliceG.fr ?_; conv => whnf) | (refine BuildG.fr ?_; conv => whnf) | (refine idx_at _ (by with_reducible rfl) (by first | assumption | omega) ?_; conv => whnf) | ((with_reducible refine row_map (by first | assumption | omega) ?_); conv => whnf) | ((with_reducible refine row_set (by first | assumption | omega | (simp only [List.length_set]; omega) | (simp; omega)) ?_); conv => whnf) | fail)
  refine loop_for (A.length) [.sl 13 3 1] [0, 1, 3, 11, 13, 14, 15, 27, 28] (fun k (_ : Unit) => [(28, .c (.int .i64 (k : Int)))]) (fun k (_ : Unit) => [(0, .row 3 1 ((missV P k).map encN))]) (fun k (_ : Unit) => True) (()) ?_
  conv => whnf
  refine ⟨(by first | rfl | (simp; done) | (simp; rfl)), (by trivial), ?_, ?_⟩
  · intro k _ hk _
    have t1 := missV_succ P k
    have tl := missV_len P k
    have tm : ((missV P k).map encN).length = (missV P k).length := List.length_map ..
    have c1 := ixMC_pc ((k : Nat) : Int) 27 (fun p => decide (p.1 = k)) P (by omega) (fun p _ => rEx1_pc p k)
    conv => whnf
    repeat' (first | ((first | refine Split.mk (fun h => ?_) (fun h => ?_) | refine CondG.mk (fun h => ?_) (fun h => ?_)) <;> (try simp only [decide_eq_true_eq, decide_eq_false_iff_not, Bool.not_eq_true', Bool.not_eq_false', beq_iff_eq, beq_eq_false_iff_ne, bne_iff_ne, bne_eq_false_iff_eq] at h) <;> (first | (exfalso; first | omega | exact h trivial) | (conv => whnf))) | (refine CallX.mk _ _ (by first | exact c1) ?_; conv => whnf) | (refine CallG.mk _ _ (by first | exact c1) ?_; conv => whnf) | (refine Ask.mk (by first | omega | (unfold roomOK; simp [cutRows]; done) | (unfold roomOK; simp [cutRows]; omega) | (simp [cutRows]; done) | (simp [cutRows]; omega)) ?_; conv => whnf) | (refine AppG.mk (by first | omega | (unfold roomOK; simp [cutRows]; done) | (unfold roomOK; simp [cutRows]; omega) | (simp [cutRows]; done) | (simp [cutRows]; omega)) ?_; conv => whnf) | (refine SliceG.fr ?_; conv => whnf) | (refine BuildG.fr ?_; conv => whnf) | (refine idx_at _ (by with_reducible rfl) (by first | assumption | omega) ?_; conv => whnf) | ((with_reducible refine row_map (by first | assumption | omega) ?_); conv => whnf) | ((with_reducible refine row_set (by first | assumption | omega | (simp only [List.length_set]; omega) | (simp; omega)) ?_); conv => whnf) | fail)
    all_goals first | (exfalso; omega) | skip
    · have q : ¬ (P.any fun p => decide (p.1 = k)) = true := by simp only [Bool.not_eq_true]; assumption
      exact count_next () hk (by rw [wrap_succ hk (by omega), t1, if_neg q, List.map_append]; rfl) trivial
    · have q : (P.any fun p => decide (p.1 = k)) = true := by assumption
      exact count_next () hk (by rw [wrap_succ hk (by omega), t1, if_pos q, List.append_nil]; rfl) trivial
  · intro _ _
    generalize missV P A.length = mi at *
    conv => whnf
    repeat' (first | ((first | refine Split.mk (fun h => ?_) (fun h => ?_) | refine CondG.mk (fun h => ?_) (fun h => ?_)) <;> (try simp only [decide_eq_true_eq, decide_eq_false_iff_not, Bool.not_eq_true', Bool.not_eq_false', beq_iff_eq, beq_eq_false_iff_ne, bne_iff_ne, bne_eq_false_iff_eq] at h) <;> (first | (exfalso; first | omega | exact h trivial) | (conv => whnf))) | (refine Ask.mk (by first | omega | (unfold roomOK; simp [cutRows]; done) | (unfold roomOK; simp [cutRows]; omega) | (simp [cutRows]; done) | (simp [cutRows]; omega)) ?_; conv => whnf) | (refine AppG.mk (by first | omega | (unfold roomOK; simp [cutRows]; done) | (unfold roomOK; simp [cutRows]; omega) | (simp [cutRows]; done) | (simp [cutRows]; omega)) ?_; conv => whnf) | (refine SliceG.fr ?_; conv => whnf) | (refine BuildG.fr ?_; conv => whnf) | (refine idx_at _ (by with_reducible rfl) (by first | assumption | omega) ?_; conv => whnf) | ((with_reducible refine row_map (by first | assumption | omega) ?_); conv => whnf) | ((with_reducible refine row_set (by first | assumption | omega | (simp only [List.length_set]; omega) | (simp; omega)) ?_); conv => whnf) | fail)
    refine loop_for (B.length) [.sl 14 3 1 , .sl 15 3 1] [0, 1, 3, 11, 13, 14, 15, 41, 42] (fun k (_ : Unit) => [(42, .c (.int .i64 (k : Int)))]) (fun k (_ : Unit) => [(1, .row 3 1 ((freshV P k).map encN)), (2, .row 3 1 ((worseK (wrs A B loss) P k).map encN))]) (fun k (_ : Unit) => True) (()) ?_
    conv => whnf
    refine ⟨(by first | rfl | (simp; done) | (simp; rfl)), (by trivial), ?_, ?_⟩
    · intro k _ hk _
      have t1 := freshV_succ P k
      have tl := freshV_len P k
      have tm : ((freshV P k).map encN).length = (freshV P k).length := List.length_map ..
      have u1 := worseK_succ (wrs A B loss) P k
      have ul := worseK_len (wrs A B loss) P k
      have um : ((worseK (wrs A B loss) P k).map encN).length = (worseK (wrs A B loss) P k).length := List.length_map ..
      have c1 := ixM_pc ((k : Nat) : Int) 29 (fun p => decide (p.2 = k)) P (by omega) (fun p _ => rEx2_pc p k)
      rcases idxP_orR (fun p : Nat × Nat => decide (p.2 = k)) P with ⟨g1, g2⟩ | ⟨i0, hi0, g1, g2, g3⟩
      · rw [g1] at c1
        have q1 : ¬ (P.any fun p => decide (p.2 = k)) = true := by
          intro q
          obtain ⟨p, hp, hq⟩ := List.any_eq_true.1 q
          rw [g2 p hp] at hq; cases hq
        have q2 : P.find? (fun p => decide (p.2 = k)) = none := by
          rw [List.find?_eq_none]
          intro p hp
          rw [g2 p hp]; decide
        have u2 : worseK (wrs A B loss) P (k + 1) = worseK (wrs A B loss) P k := by rw [u1, q2]; exact List.append_nil _
        rw [if_neg q1] at t1
        conv => whnf
        repeat' (first | ((first | refine Split.mk (fun h => ?_) (fun h => ?_) | refine CondG.mk (fun h => ?_) (fun h => ?_)) <;> (try simp only [decide_eq_true_eq, decide_eq_false_iff_not, Bool.not_eq_true', Bool.not_eq_false', beq_iff_eq, beq_eq_false_iff_ne, bne_iff_ne, bne_eq_false_iff_eq] at h) <;> (first | (exfalso; first | omega | exact h trivial) | (conv => whnf))) | (refine CallX.mk _ _ (by first | exact c1) ?_; conv => whnf) | (refine CallG.mk _ _ (by first | exact c1) ?_; conv => whnf) | (refine Ask.mk (by first | omega | (unfold roomOK; simp [cutRows]; done) | (unfold roomOK; simp [cutRows]; omega) | (simp [cutRows]; done) | (simp [cutRows]; omega)) ?_; conv => whnf) | (refine AppG.mk (by first | omega | (unfold roomOK; simp [cutRows]; done) | (unfold roomOK; simp [cutRows]; omega) | (simp [cutRows]; done) | (simp [cutRows]; omega)) ?_; conv => whnf) | (refine SliceG.fr ?_; conv => whnf) | (refine BuildG.fr ?_; conv => whnf) | (refine idx_at _ (by with_reducible rfl) (by first | assumption | omega) ?_; conv => whnf) | ((with_reducible refine row_map (by first | assumption | omega) ?_); conv => whnf) | ((with_reducible refine row_set (by first | assumption | omega | (simp only [List.length_set]; omega) | (simp; omega)) ?_); conv => whnf) | fail)
        all_goals first | (exfalso; omega) | skip
        exact count_next () hk (by rw [wrap_succ hk (by omega), t1, u2, List.map_append]; rfl) trivial
      · rw [g1] at c1
        have q1 : (P.any fun p => decide (p.2 = k)) = true := List.any_eq_true.2 ⟨_, List.getElem_mem hi0, g2⟩
        have q2 : P.find? (fun p => decide (p.2 = k)) = some P[i0] := by
          rw [List.find?_eq_some_iff_getElem]
          exact ⟨g2, i0, hi0, rfl, fun j hj => by simpa using g3 j (by omega) hj⟩
        have e2 : P[i0].2 = k := by simpa using g2
        have hp := hin i0 hi0
        rw [q2] at u1
        rw [if_pos q1, List.append_nil] at t1
        have hA1 := evF_bd hA hp.1
        have hB1 := evF_bd hB hk
        have gB : (B[k]'hk).2 = lossG B k := by unfold lossG; simp [hk]
        have gA : (A[P[i0].1]'hp.1).2 = lossG A P[i0].1 := by unfold lossG; simp [hp.1]
        have ws : IntKind.i64.wrap ((A[P[i0].1]'hp.1).2 + loss) = lossG A P[i0].1 + loss := by rw [gA]; exact wrap_in (by omega) (by omega)
        conv => whnf
        repeat' (first | ((first | refine Split.mk (fun h => ?_) (fun h => ?_) | refine CondG.mk (fun h => ?_) (fun h => ?_)) <;> (try simp only [decide_eq_true_eq, decide_eq_false_iff_not, Bool.not_eq_true', Bool.not_eq_false', beq_iff_eq, beq_eq_false_iff_ne, bne_iff_ne, bne_eq_false_iff_eq] at h) <;> (first | (exfalso; first | omega | exact h trivial) | (conv => whnf))) | (refine CallX.mk _ _ (by first | exact c1) ?_; conv => whnf) | (refine CallG.mk _ _ (by first | exact c1) ?_; conv => whnf) | (refine Ask.mk (by first | omega | (unfold roomOK; simp [cutRows]; done) | (unfold roomOK; simp [cutRows]; omega) | (simp [cutRows]; done) | (simp [cutRows]; omega)) ?_; conv => whnf) | (refine AppG.mk (by first | omega | (unfold roomOK; simp [cutRows]; done) | (unfold roomOK; simp [cutRows]; omega) | (simp [cutRows]; done) | (simp [cutRows]; omega)) ?_; conv => whnf) | (refine SliceG.fr ?_; conv => whnf) | (refine BuildG.fr ?_; conv => whnf) | (refine idx_at _ (by with_reducible rfl) (by first | assumption | omega) ?_; conv => whnf) | ((with_reducible refine row_map (by first | assumption | omega) ?_); conv => whnf) | ((with_reducible refine row_set (by first | assumption | omega | (simp only [List.length_set]; omega) | (simp; omega)) ?_); conv => whnf) | fail)
        all_goals first | (exfalso; omega) | skip
        · have w1 : wrs A B loss P[i0] = true := by
            unfold wrs; rw [e2]; refine decide_eq_true ?_
            omega
          have u2 : worseK (wrs A B loss) P (k + 1) = worseK (wrs A B loss) P k ++ [k] := by rw [u1]; exact congrArg (_ ++ ·) (if_pos w1)
          exact count_next () hk (by rw [wrap_succ hk (by omega), t1, u2, List.map_append]; rfl) trivial
        · have w1 : ¬ wrs A B loss P[i0] = true := by
            unfold wrs; rw [e2]; intro q; have q := of_decide_eq_true q
            omega
          have u2 : worseK (wrs A B loss) P (k + 1) = worseK (wrs A B loss) P k := by rw [u1]; refine Eq.trans (congrArg (_ ++ ·) (if_neg w1)) (List.append_nil _)
          exact count_next () hk (by rw [wrap_succ hk (by omega), t1, u2]; rfl) trivial
    · intro _ _
      conv => whnf
      repeat' (first | ((first | refine Split.mk (fun h => ?_) (fun h => ?_) | refine CondG.mk (fun h => ?_) (fun h => ?_)) <;> (try simp only [decide_eq_true_eq, decide_eq_false_iff_not, Bool.not_eq_true', Bool.not_eq_false', beq_iff_eq, beq_eq_false_iff_ne, bne_iff_ne, bne_eq_false_iff_eq] at h) <;> (first | (exfalso; first | omega | exact h trivial) | (conv => whnf))) | (refine Ask.mk (by first | omega | (unfold roomOK; simp [cutRows]; done) | (unfold roomOK; simp [cutRows]; omega) | (simp [cutRows]; done) | (simp [cutRows]; omega)) ?_; conv => whnf) | (refine AppG.mk (by first | omega | (unfold roomOK; simp [cutRows]; done) | (unfold roomOK; simp [cutRows]; omega) | (simp [cutRows]; done) | (simp [cutRows]; omega)) ?_; conv => whnf) | (refine SliceG.fr ?_; conv => whnf) | (refine BuildG.fr ?_; conv => whnf) | (refine idx_at _ (by with_reducible rfl) (by first | assumption | omega) ?_; conv => whnf) | ((with_reducible refine row_map (by first | assumption | omega) ?_); conv => whnf) | ((with_reducible refine row_set (by first | assumption | omega | (simp only [List.length_set]; omega) | (simp; omega)) ?_); conv => whnf) | fail)
      refine .frz 0 _ _ _ rfl (.frz 1 _ _ _ rfl (.frz 2 _ _ _ rfl (.weak [_, _, _] (.tup _ _ rfl ?_) rfl (Nat.le_refl _))))
      intro i a b ha hb
      match i with
      | 0 => cases ha; cases hb; exact .fro 0 _ _ rfl
      | 1 => cases ha; cases hb; exact .fro 1 _ _ rfl
      | 2 => cases ha; cases hb; exact .fro 2 _ _ rfl
end Go.Proofs.Ytjflmenfinohcaa

/- The law of matching. -/
namespace Go.Proofs.Ytjflmenfinohcaa
set_option linter.unusedVariables false
set_option linter.unusedSimpArgs false
open Abs

set_option maxRecDepth 100000 in
set_option maxHeartbeats 4000000 in
theorem cloneEv_pc (l : List (Int × Int)) (hl : l.length ≤ 1000000) : PCp 7 [.c (.lst 2 (l.map encQ))] [] (.c (.row 0)) [.row 32 2 (l.map encQ)] := by
  have hlm : (l.map encQ).length = l.length := List.length_map ..
  refine fn_sound (mt := mts) tab_fits tab_mixed Try.func7 (by rfl) (by kernel_rfl) (by kernel_rfl) Try.results7 (Nat.le_of_ble_eq_true (by kernel_rfl)) ?_
  conv => whnf
  refine .mk (fun h => ?_) ?_
  · conv => whnf
    exact .own 32 2 rfl rfl (by rw [h]; rfl)
  · conv => whnf
    repeat' (first | ((first | refine Split.mk (fun h => ?_) (fun h => ?_) | refine CondG.mk (fun h => ?_) (fun h => ?_)) <;> (try simp only [decide_eq_true_eq, decide_eq_false_iff_not, Bool.not_eq_true', Bool.not_eq_false', beq_iff_eq, beq_eq_false_iff_ne] at h) <;> (first | (exfalso; first | omega | exact h trivial) | (conv => whnf))) | (refine Ask.mk (by first | omega | (unfold roomOK; simp [cutRows]; done) | (unfold roomOK; simp [cutRows]; omega)) ?_; conv => whnf) | (refine AppG.mk (by first | omega | (unfold roomOK; simp [cutRows]; done) | (unfold roomOK; simp [cutRows]; omega)) ?_; conv => whnf) | (refine SliceG.fr ?_; conv => whnf) | (refine BuildG.fr ?_; conv => whnf) | fail)
    exact .mk ⟨rfl, rfl⟩
set_option maxRecDepth 100000 in
set_option maxHeartbeats 4000000 in
theorem eqMaR_pc (l : List (Nat × Nat)) (hl : l.length ≤ 1000000) : PCp 15 [.c (.lst 2 (l.map encM)), .c (.lst 2 (l.map encM))] [] (.c (.bool true)) [] := by
  have hlm : (l.map encM).length = l.length := List.length_map ..
  refine fn_sound (mt := mts) tab_fits tab_mixed Try.func15 (by rfl) (by kernel_rfl) (by kernel_rfl) Try.results15 (Nat.le_of_ble_eq_true (by kernel_rfl)) ?_
  conv => whnf
  repeat' (first | ((first | refine Split.mk (fun h => ?_) (fun h => ?_) | refine CondG.mk (fun h => ?_) (fun h => ?_)) <;> (try simp only [decide_eq_true_eq, decide_eq_false_iff_not, Bool.not_eq_true', Bool.not_eq_false', beq_iff_eq, beq_eq_false_iff_ne, bne_iff_ne, bne_eq_false_iff_eq] at h) <;> (first | (exfalso; first | omega | exact h trivial | contradiction | (simp_all [eqRes]; done)) | (conv => whnf))) | (refine Ask.mk (by first | omega | (unfold roomOK; simp [cutRows]; done) | (unfold roomOK; simp [cutRows]; omega) | (simp [cutRows]; done) | (simp [cutRows]; omega)) ?_; conv => whnf) | (refine AppG.mk (by first | omega | (unfold roomOK; simp [cutRows]; done) | (unfold roomOK; simp [cutRows]; omega) | (simp [cutRows]; done) | (simp [cutRows]; omega)) ?_; conv => whnf) | (refine SliceG.fr ?_; conv => whnf) | (refine BuildG.fr ?_; conv => whnf) | (refine idx_at _ (by with_reducible rfl) (by first | assumption | omega) ?_; conv => whnf) | ((with_reducible refine row_map (by first | assumption | omega) ?_); conv => whnf) | ((with_reducible refine row_set (by first | assumption | omega | (simp only [List.length_set]; omega) | (simp; omega)) ?_); conv => whnf) | fail)
  refine loop_for (l.length) [] [0, 1, 12, 13] (fun k (_ : Unit) => [(13, .c (.int .i64 (k : Int)))]) (fun k (_ : Unit) => []) (fun k (_ : Unit) => True) (()) ?_
  conv => whnf
  refine ⟨(by first | rfl | (simp; done) | (simp; rfl)), (by trivial), ?_, ?_⟩
  · intro k _ hk _
    conv => whnf
    repeat' (first | ((first | refine Split.mk (fun h => ?_) (fun h => ?_) | refine CondG.mk (fun h => ?_) (fun h => ?_)) <;> (try simp only [decide_eq_true_eq, decide_eq_false_iff_not, Bool.not_eq_true', Bool.not_eq_false', beq_iff_eq, beq_eq_false_iff_ne, bne_iff_ne, bne_eq_false_iff_eq] at h) <;> (first | (exfalso; first | omega | exact h trivial | contradiction | (simp_all [eqRes]; done)) | (conv => whnf))) | (refine Ask.mk (by first | omega | (unfold roomOK; simp [cutRows]; done) | (unfold roomOK; simp [cutRows]; omega) | (simp [cutRows]; done) | (simp [cutRows]; omega)) ?_; conv => whnf) | (refine AppG.mk (by first | omega | (unfold roomOK; simp [cutRows]; done) | (unfold roomOK; simp [cutRows]; omega) | (simp [cutRows]; done) | (simp [cutRows]; omega)) ?_; conv => whnf) | (refine SliceG.fr ?_; conv => whnf) | (refine BuildG.fr ?_; conv => whnf) | (refine idx_at _ (by with_reducible rfl) (by first | assumption | omega) ?_; conv => whnf) | ((with_reducible refine row_map (by first | assumption | omega) ?_); conv => whnf) | ((with_reducible refine row_set (by first | assumption | omega | (simp only [List.length_set]; omega) | (simp; omega)) ?_); conv => whnf) | fail)
    all_goals exact count_next () hk (by rw [wrap_succ hk (by omega)]; rfl) trivial
  · intro _ _
    conv => whnf
    repeat' (first | ((first | refine Split.mk (fun h => ?_) (fun h => ?_) | refine CondG.mk (fun h => ?_) (fun h => ?_)) <;> (try simp only [decide_eq_true_eq, decide_eq_false_iff_not, Bool.not_eq_true', Bool.not_eq_false', beq_iff_eq, beq_eq_false_iff_ne, bne_iff_ne, bne_eq_false_iff_eq] at h) <;> (first | (exfalso; first | omega | exact h trivial | contradiction | (simp_all [eqRes]; done)) | (conv => whnf))) | (refine Ask.mk (by first | omega | (unfold roomOK; simp [cutRows]; done) | (unfold roomOK; simp [cutRows]; omega) | (simp [cutRows]; done) | (simp [cutRows]; omega)) ?_; conv => whnf) | (refine AppG.mk (by first | omega | (unfold roomOK; simp [cutRows]; done) | (unfold roomOK; simp [cutRows]; omega) | (simp [cutRows]; done) | (simp [cutRows]; omega)) ?_; conv => whnf) | (refine SliceG.fr ?_; conv => whnf) | (refine BuildG.fr ?_; conv => whnf) | (refine idx_at _ (by with_reducible rfl) (by first | assumption | omega) ?_; conv => whnf) | ((with_reducible refine row_map (by first | assumption | omega) ?_); conv => whnf) | ((with_reducible refine row_set (by first | assumption | omega | (simp only [List.length_set]; omega) | (simp; omega)) ?_); conv => whnf) | fail)
    all_goals exact .mk ⟨rfl, rfl⟩
set_option maxRecDepth 100000 in
set_option maxHeartbeats 4000000 in
theorem eqNaR_pc (l : List Nat) (hl : l.length ≤ 1000000) : PCp 16 [.c (.lst 1 (l.map encN)), .c (.lst 1 (l.map encN))] [] (.c (.bool true)) [] := by
  have hlm : (l.map encN).length = l.length := List.length_map ..
  refine fn_sound (mt := mts) tab_fits tab_mixed Try.func16 (by rfl) (by kernel_rfl) (by kernel_rfl) Try.results16 (Nat.le_of_ble_eq_true (by kernel_rfl)) ?_
  conv => whnf
  repeat' (first | ((first | refine Split.mk (fun h => ?_) (fun h => ?_) | refine CondG.mk (fun h => ?_) (fun h => ?_)) <;> (try simp only [decide_eq_true_eq, decide_eq_false_iff_not, Bool.not_eq_true', Bool.not_eq_false', beq_iff_eq, beq_eq_false_iff_ne, bne_iff_ne, bne_eq_false_iff_eq] at h) <;> (first | (exfalso; first | omega | exact h trivial | contradiction | (simp_all [eqRes]; done)) | (conv => whnf))) | (refine Ask.mk (by first | omega | (unfold roomOK; simp [cutRows]; done) | (unfold roomOK; simp [cutRows]; omega) | (simp [cutRows]; done) | (simp [cutRows]; omega)) ?_; conv => whnf) | (refine AppG.mk (by first | omega | (unfold roomOK; simp [cutRows]; done) | (unfold roomOK; simp [cutRows]; omega) | (simp [cutRows]; done) | (simp [cutRows]; omega)) ?_; conv => whnf) | (refine SliceG.fr ?_; conv => whnf) | (refine BuildG.fr ?_; conv => whnf) | (refine idx_at _ (by with_reducible rfl) (by first | assumption | omega) ?_; conv => whnf) | ((with_reducible refine row_map (by first | assumption | omega) ?_); conv => whnf) | ((with_reducible refine row_set (by first | assumption | omega | (simp only [List.length_set]; omega) | (simp; omega)) ?_); conv => whnf) | fail)
  refine loop_for (l.length) [] [0, 1, 12, 13] (fun k (_ : Unit) => [(13, .c (.int .i64 (k : Int)))]) (fun k (_ : Unit) => []) (fun k (_ : Unit) => True) (()) ?_
  conv => whnf
  refine ⟨(by first | rfl | (simp; done) | (simp; rfl)), (by trivial), ?_, ?_⟩
  · intro k _ hk _
    conv => whnf
    repeat' (first | ((first | refine Split.mk (fun h => ?_) (fun h => ?_) | refine CondG.mk (fun h => ?_) (fun h => ?_)) <;> (try simp only [decide_eq_true_eq, decide_eq_false_iff_not, Bool.not_eq_true', Bool.not_eq_false', beq_iff_eq, beq_eq_false_iff_ne, bne_iff_ne, bne_eq_false_iff_eq] at h) <;> (first | (exfalso; first | omega | exact h trivial | contradiction | (simp_all [eqRes]; done)) | (conv => whnf))) | (refine Ask.mk (by first | omega | (unfold roomOK; simp [cutRows]; done) | (unfold roomOK; simp [cutRows]; omega) | (simp [cutRows]; done) | (simp [cutRows]; omega)) ?_; conv => whnf) | (refine AppG.mk (by first | omega | (unfold roomOK; simp [cutRows]; done) | (unfold roomOK; simp [cutRows]; omega) | (simp [cutRows]; done) | (simp [cutRows]; omega)) ?_; conv => whnf) | (refine SliceG.fr ?_; conv => whnf) | (refine BuildG.fr ?_; conv => whnf) | (refine idx_at _ (by with_reducible rfl) (by first | assumption | omega) ?_; conv => whnf) | ((with_reducible refine row_map (by first | assumption | omega) ?_); conv => whnf) | ((with_reducible refine row_set (by first | assumption | omega | (simp only [List.length_set]; omega) | (simp; omega)) ?_); conv => whnf) | fail)
    all_goals exact count_next () hk (by rw [wrap_succ hk (by omega)]; rfl) trivial
  · intro _ _
    conv => whnf
    repeat' (first | ((first | refine Split.mk (fun h => ?_) (fun h => ?_) | refine CondG.mk (fun h => ?_) (fun h => ?_)) <;> (try simp only [decide_eq_true_eq, decide_eq_false_iff_not, Bool.not_eq_true', Bool.not_eq_false', beq_iff_eq, beq_eq_false_iff_ne, bne_iff_ne, bne_eq_false_iff_eq] at h) <;> (first | (exfalso; first | omega | exact h trivial | contradiction | (simp_all [eqRes]; done)) | (conv => whnf))) | (refine Ask.mk (by first | omega | (unfold roomOK; simp [cutRows]; done) | (unfold roomOK; simp [cutRows]; omega) | (simp [cutRows]; done) | (simp [cutRows]; omega)) ?_; conv => whnf) | (refine AppG.mk (by first | omega | (unfold roomOK; simp [cutRows]; done) | (unfold roomOK; simp [cutRows]; omega) | (simp [cutRows]; done) | (simp [cutRows]; omega)) ?_; conv => whnf) | (refine SliceG.fr ?_; conv => whnf) | (refine BuildG.fr ?_; conv => whnf) | (refine idx_at _ (by with_reducible rfl) (by first | assumption | omega) ?_; conv => whnf) | ((with_reducible refine row_map (by first | assumption | omega) ?_); conv => whnf) | ((with_reducible refine row_set (by first | assumption | omega | (simp only [List.length_set]; omega) | (simp; omega)) ?_); conv => whnf) | fail)
    all_goals exact .mk ⟨rfl, rfl⟩
set_option maxRecDepth 100000 in
set_option maxHeartbeats 4000000 in
theorem eqMaN_pc : PCp 15 [.c (.lst 2 (([] : List (Nat × Nat)).map encM)), .c .nils] [] (.c (.bool true)) [] := by
  refine fn_sound (mt := mts) tab_fits tab_mixed Try.func15 (by rfl) (by kernel_rfl) (by kernel_rfl) Try.results15 (Nat.le_of_ble_eq_true (by kernel_rfl)) ?_
  conv => whnf
  repeat' (first | ((first | refine Split.mk (fun h => ?_) (fun h => ?_) | refine CondG.mk (fun h => ?_) (fun h => ?_)) <;> (try simp only [decide_eq_true_eq, decide_eq_false_iff_not, Bool.not_eq_true', Bool.not_eq_false', beq_iff_eq, beq_eq_false_iff_ne, bne_iff_ne, bne_eq_false_iff_eq] at h) <;> (first | (exfalso; first | omega | exact h trivial | contradiction | (simp_all [eqRes]; done)) | (conv => whnf))) | (refine Ask.mk (by first | omega | (unfold roomOK; simp [cutRows]; done) | (unfold roomOK; simp [cutRows]; omega) | (simp [cutRows]; done) | (simp [cutRows]; omega)) ?_; conv => whnf) | (refine AppG.mk (by first | omega | (unfold roomOK; simp [cutRows]; done) | (unfold roomOK; simp [cutRows]; omega) | (simp [cutRows]; done) | (simp [cutRows]; omega)) ?_; conv => whnf) | (refine SliceG.fr ?_; conv => whnf) | (refine BuildG.fr ?_; conv => whnf) | (refine idx_at _ (by with_reducible rfl) (by first | assumption | omega) ?_; conv => whnf) | ((with_reducible refine row_map (by first | assumption | omega) ?_); conv => whnf) | ((with_reducible refine row_set (by first | assumption | omega | (simp only [List.length_set]; omega) | (simp; omega)) ?_); conv => whnf) | fail)
  refine loop_for (0) [] [0, 1, 12, 13] (fun k (_ : Unit) => [(13, .c (.int .i64 (k : Int)))]) (fun k (_ : Unit) => []) (fun k (_ : Unit) => True) (()) ?_
  conv => whnf
  refine ⟨(by first | rfl | (simp; done) | (simp; rfl)), (by trivial), ?_, ?_⟩
  · intro k _ hk _
    exact absurd hk (by omega)
  · intro _ _
    conv => whnf
    repeat' (first | ((first | refine Split.mk (fun h => ?_) (fun h => ?_) | refine CondG.mk (fun h => ?_) (fun h => ?_)) <;> (try simp only [decide_eq_true_eq, decide_eq_false_iff_not, Bool.not_eq_true', Bool.not_eq_false', beq_iff_eq, beq_eq_false_iff_ne, bne_iff_ne, bne_eq_false_iff_eq] at h) <;> (first | (exfalso; first | omega | exact h trivial | contradiction | (simp_all [eqRes]; done)) | (conv => whnf))) | (refine Ask.mk (by first | omega | (unfold roomOK; simp [cutRows]; done) | (unfold roomOK; simp [cutRows]; omega) | (simp [cutRows]; done) | (simp [cutRows]; omega)) ?_; conv => whnf) | (refine AppG.mk (by first | omega | (unfold roomOK; simp [cutRows]; done) | (unfold roomOK; simp [cutRows]; omega) | (simp [cutRows]; done) | (simp [cutRows]; omega)) ?_; conv => whnf) | (refine SliceG.fr ?_; conv => whnf) | (refine BuildG.fr ?_; conv => whnf) | (refine idx_at _ (by with_reducible rfl) (by first | assumption | omega) ?_; conv => whnf) | ((with_reducible refine row_map (by first | assumption | omega) ?_); conv => whnf) | ((with_reducible refine row_set (by first | assumption | omega | (simp only [List.length_set]; omega) | (simp; omega)) ?_); conv => whnf) | fail)
    all_goals exact .mk ⟨rfl, rfl⟩
set_option maxRecDepth 100000 in
set_option maxHeartbeats 4000000 in
theorem eqNaN_pc : PCp 16 [.c (.lst 1 (([] : List (Nat)).map encN)), .c .nils] [] (.c (.bool true)) [] := by
  refine fn_sound (mt := mts) tab_fits tab_mixed Try.func16 (by rfl) (by kernel_rfl) (by kernel_rfl) Try.results16 (Nat.le_of_ble_eq_true (by kernel_rfl)) ?_
  conv => whnf
  repeat' (first | ((first | refine Split.mk (fun h => ?_) (fun h => ?_) | refine CondG.mk (fun h => ?_) (fun h => ?_)) <;> (try simp only [decide_eq_true_eq, decide_eq_false_iff_not, Bool.not_eq_true', Bool.not_eq_false', beq_iff_eq, beq_eq_false_iff_ne, bne_iff_ne, bne_eq_false_iff_eq] at h) <;> (first | (exfalso; first | omega | exact h trivial | contradiction | (simp_all [eqRes]; done)) | (conv => whnf))) | (refine Ask.mk (by first | omega | (unfold roomOK; simp [cutRows]; done) | (unfold roomOK; simp [cutRows]; omega) | (simp [cutRows]; done) | (simp [cutRows]; omega)) ?_; conv => whnf) | (refine AppG.mk (by first | omega | (unfold roomOK; simp [cutRows]; done) | (unfold roomOK; simp [cutRows]; omega) | (simp [cutRows]; done) | (simp [cutRows]; omega)) ?_; conv => whnf) | (refine SliceG.fr ?_; conv => whnf) | (refine BuildG.fr ?_; conv => whnf) | (refine idx_at _ (by with_reducible rfl) (by first | assumption | omega) ?_; conv => whnf) | ((with_reducible refine row_map (by first | assumption | omega) ?_); conv => whnf) | ((with_reducible refine row_set (by first | assumption | omega | (simp only [List.length_set]; omega) | (simp; omega)) ?_); conv => whnf) | fail)
  refine loop_for (0) [] [0, 1, 12, 13] (fun k (_ : Unit) => [(13, .c (.int .i64 (k : Int)))]) (fun k (_ : Unit) => []) (fun k (_ : Unit) => True) (()) ?_
  conv => whnf
  refine ⟨(by first | rfl | (simp; done) | (simp; rfl)), (by trivial), ?_, ?_⟩
  · intro k _ hk _
    exact absurd hk (by omega)
  · intro _ _
    conv => whnf
    repeat' (first | ((first | refine Split.mk (fun h => ?_) (fun h => ?_) | refine CondG.mk (fun h => ?_) (fun h => ?_)) <;> (try simp only [decide_eq_true_eq, decide_eq_false_iff_not, Bool.not_eq_true', Bool.not_eq_false', beq_iff_eq, beq_eq_false_iff_ne, bne_iff_ne, bne_eq_false_iff_eq] at h) <;> (first | (exfalso; first | omega | exact h trivial | contradiction | (simp_all [eqRes]; done)) | (conv => whnf))) | (refine Ask.mk (by first | omega | (unfold roomOK; simp [cutRows]; done) | (unfold roomOK; simp [cutRows]; omega) | (simp [cutRows]; done) | (simp [cutRows]; omega)) ?_; conv => whnf) | (refine AppG.mk (by first | omega | (unfold roomOK; simp [cutRows]; done) | (unfold roomOK; simp [cutRows]; omega) | (simp [cutRows]; done) | (simp [cutRows]; omega)) ?_; conv => whnf) | (refine SliceG.fr ?_; conv => whnf) | (refine BuildG.fr ?_; conv => whnf) | (refine idx_at _ (by with_reducible rfl) (by first | assumption | omega) ?_; conv => whnf) | ((with_reducible refine row_map (by first | assumption | omega) ?_); conv => whnf) | ((with_reducible refine row_set (by first | assumption | omega | (simp only [List.length_set]; omega) | (simp; omega)) ?_); conv => whnf) | fail)
    all_goals exact .mk ⟨rfl, rfl⟩
theorem of_plainR {P : Program} {f : Nat} {args : List S} {r : S} {cargs : Array Value} {c : Value} (hfn : ∃ fn, P.funcs[f]? = some fn ∧ (fn.name == "runtime.NumGoroutine") = false ∧ fn.body.isNone = false)
    (ha : ∀ (F : Nat → Prop) (φ : Nat → Option Value) (w : World) (cs : Array Value), P2 (RS F φ w) cs.toList args → cs = cargs) (hr : ∀ (F : Nat → Prop) (φ : Nat → Option Value) (w : World), RS F φ w c r)
    (h : ∀ w, Calls P f cargs w fun e w' => e = .returned c ∧ w.grownBy w' none ∧ (dm → w.drawn ≤ w'.drawn)) : PCs P f args [] r [] := by
  refine ⟨hfn, fun F φ w cs hp hrp hφ => ?_⟩
  have := ha F φ w cs hp
  subst this
  refine (h w).mono ?_
  rintro e w' ⟨rfl, hg, hd⟩
  refine ⟨c, F, φ, r, [], ⟨rfl, rfl⟩, rfl, hr F φ _, ⟨fun _ h => h, fun _ _ h => h, fun _ _ h => .inl h, hg.os, hg.tape, hg.output, hd, hg.size, fun b hb hne => (hne (hg.block b hb (by simp))).elim, fun b h => .inl h, ?_, ?_, ?_⟩⟩
  · intro l o h; simp [chOf, chGet] at h
  · intro l o b h; simp [chOf, chGet] at h
  · intro l l' o o' b h; simp [chOf, chGet] at h
theorem tracedR_pc : PCp 17 [] [] (.c (.bool true)) [] :=
  of_plainR ⟨_, Try.func17, by kernel_rfl, by kernel_rfl⟩ (fun F φ w cs hp => Array.ext' (by have := hp.nil_inv; rw [this])) (fun F φ w => .c (.tree (.bool _)))
    (fun w => (Hd.traced_any w).mono fun e w' ⟨h1, h2⟩ => ⟨h1, h2, fun d => absurd d id⟩)
theorem nearF_pc (near loss : Int) : PCp 12 [.c (.int .i64 near), .c (.int .i64 loss)] [] (.c (.int .i64 (Hd.nearE near loss))) [] := by
  refine pc_int ⟨_, Try.func12, by kernel_rfl, by kernel_rfl⟩ fun F φ w cs hp => ?_
  obtain ⟨x, xs, e1, r1, hp⟩ := hp.cons_inv
  obtain ⟨y, ys, e2, r2, hp⟩ := hp.cons_inv
  have e3 := hp.nil_inv
  subst e3 e2
  have := r1.int_inv
  subst this
  have := r2.int_inv
  subst this
  rw [show cs = #[.int .i64 near, .int .i64 loss] from Array.ext' e1]
  exact (Hd.nearfault_any near loss w).mono fun e w' ⟨h1, h2⟩ => ⟨h1, h2 ▸ World.grownBy.refl _ _⟩
def bumpS (L : List Int) (p : Int) (k : Nat) (l : List (Int × Int)) : List (Int × Int) := l.set k (IntKind.i64.wrap ((l.getD k (0, 0)).1 + pickV L (p + k) [0, 1]), (l.getD k (0, 0)).2)
def bumpI (L : List Int) (p : Int) (A : List (Int × Int)) (k : Nat) : List (Int × Int) := iterN (bumpS L p) k A
theorem bumpI_len (L : List Int) (p : Int) (A : List (Int × Int)) : ∀ k, (bumpI L p A k).length = A.length
  | 0 => rfl
  | k + 1 => by
    have e : bumpI L p A (k + 1) = bumpS L p k (bumpI L p A k) := rfl
    rw [e]; unfold bumpS; rw [List.length_set]; exact bumpI_len L p A k
theorem bumpI_map (L : List Int) (p : Int) (A : List (Int × Int)) {k : Nat} (hk : k < A.length) (hk2 : k < (bumpI L p A k).length) : (bumpI L p A (k + 1)).map encQ = ((bumpI L p A k).map encQ).set k (encQ (IntKind.i64.wrap ((bumpI L p A k)[k].1 + pickV L (p + k) [0, 1]), (bumpI L p A k)[k].2)) := by
  have e : bumpI L p A (k + 1) = bumpS L p k (bumpI L p A k) := rfl
  rw [e]; unfold bumpS
  rw [List.map_set]
  have : (bumpI L p A k).getD k (0, 0) = (bumpI L p A k)[k] := by simp [hk2]
  rw [this]
set_option maxRecDepth 100000 in
set_option maxHeartbeats 4000000 in
theorem eventsMatched_pc (L : List Int) (hL : L.length ≤ 9223372036854775807) : PCp 3 [.c (.lst 1 (L.map encI))] [] (.c (.bool true)) [] := by
  have st0 : StOk L 0 := ⟨hL, by omega, by omega⟩
  have b1 := evListV_bd L 0 7 (by omega)
  have c1 := rEvList_pc st0 (by omega) 7 (by omega)
  generalize evListV L 0 7 = R at *
  obtain ⟨A, p⟩ := R
  simp only at b1 c1
  have hp : StOk L p := ⟨hL, by omega, by omega⟩
  have b2 := evListV_bd L p 7 (by omega)
  have c2 := rEvList_pc hp (by omega) 7 (by omega)
  generalize evListV L p 7 = R at *
  obtain ⟨B, q⟩ := R
  simp only at b2 c2
  have hQ : ∀ x : Int, q ≤ x → x ≤ q + 5 → StOk L x := fun x g1 g2 => ⟨hL, by omega, by omega⟩
  have hAm : (A.map encQ).length = A.length := List.length_map ..
  refine fn_sound (mt := mts) tab_fits tab_mixed Try.func3 (by rfl) (by kernel_rfl) (by kernel_rfl) Try.results3 (Nat.le_of_ble_eq_true (by kernel_rfl)) ?_
  conv => whnf
  repeat' (first | ((first | refine Split.mk (fun h => ?_) (fun h => ?_) | refine CondG.mk (fun h => ?_) (fun h => ?_)) <;> (try simp only [decide_eq_true_eq, decide_eq_false_iff_not, Bool.not_eq_true', Bool.not_eq_false', beq_iff_eq, beq_eq_false_iff_ne, bne_iff_ne, bne_eq_false_iff_eq] at h) <;> (first | (exfalso; first | omega | exact h trivial | (simp [cutRows] at h; done) | (simp [cutRows] at h; omega)) | (conv => whnf))) | (refine CallX.mk _ _ (by first | exact c1 | exact c2 | exact flip_ok (hQ _ (by omega) (by omega)) _ (by omega) | exact next_ok (hQ _ (by omega) (by omega)) _ (by omega) | exact range_ok (hQ _ (by omega) (by omega)) _ _ (by omega) (small_lit (by omega)) (small_lit (by omega)) | exact odd_ok (hQ _ (by omega) (by omega)) (hQ _ (by omega) (by omega)) _ _ (small_lit (by omega)) (small_lit (by omega)) (by omega) | exact pick_ok (hQ _ (by omega) (by omega)) [_] (by simp) (by simp) | exact pick_ok (hQ _ (by omega) (by omega)) [_, _] (by simp) (by simp) | exact pick_ok (hQ _ (by omega) (by omega)) [_, _, _] (by simp) (by simp) | exact pick_ok (hQ _ (by omega) (by omega)) [_, _, _, _] (by simp) (by simp) | exact pick_ok (hQ _ (by omega) (by omega)) [_, _, _, _, _] (by simp) (by simp) | exact pick_ok (hQ _ (by omega) (by omega)) [_, _, _, _, _, _] (by simp) (by simp) | exact pick_ok (hQ _ (by omega) (by omega)) [_, _, _, _, _, _, _] (by simp) (by simp) | exact pick_ok (hQ _ (by omega) (by omega)) [_, _, _, _, _, _, _, _] (by simp) (by simp) | exact pick_ok (hQ _ (by omega) (by omega)) [_, _, _, _, _, _, _, _, _] (by simp) (by simp) | exact pick_ok (hQ _ (by omega) (by omega)) [_, _, _, _, _, _, _, _, _, _] (by simp) (by simp) | exact some_ok (hQ _ (by omega) (by omega)) [_] (by simp) (by simp) | exact some_ok (hQ _ (by omega) (by omega)) [_, _] (by simp) (by simp) | exact some_ok (hQ _ (by omega) (by omega)) [_, _, _] (by simp) (by simp) | exact some_ok (hQ _ (by omega) (by omega)) [_, _, _, _] (by simp) (by simp) | exact some_ok (hQ _ (by omega) (by omega)) [_, _, _, _, _] (by simp) (by simp) | exact some_ok (hQ _ (by omega) (by omega)) [_, _, _, _, _, _] (by simp) (by simp) | exact some_ok (hQ _ (by omega) (by omega)) [_, _, _, _, _, _, _] (by simp) (by simp) | exact some_ok (hQ _ (by omega) (by omega)) [_, _, _, _, _, _, _, _] (by simp) (by simp) | exact cloneEv_pc A (by omega)) ?_; conv => whnf) | (refine CallG.mk _ _ (by first | exact c1 | exact c2 | exact flip_ok (hQ _ (by omega) (by omega)) _ (by omega) | exact next_ok (hQ _ (by omega) (by omega)) _ (by omega) | exact range_ok (hQ _ (by omega) (by omega)) _ _ (by omega) (small_lit (by omega)) (small_lit (by omega)) | exact odd_ok (hQ _ (by omega) (by omega)) (hQ _ (by omega) (by omega)) _ _ (small_lit (by omega)) (small_lit (by omega)) (by omega) | exact pick_ok (hQ _ (by omega) (by omega)) [_] (by simp) (by simp) | exact pick_ok (hQ _ (by omega) (by omega)) [_, _] (by simp) (by simp) | exact pick_ok (hQ _ (by omega) (by omega)) [_, _, _] (by simp) (by simp) | exact pick_ok (hQ _ (by omega) (by omega)) [_, _, _, _] (by simp) (by simp) | exact pick_ok (hQ _ (by omega) (by omega)) [_, _, _, _, _] (by simp) (by simp) | exact pick_ok (hQ _ (by omega) (by omega)) [_, _, _, _, _, _] (by simp) (by simp) | exact pick_ok (hQ _ (by omega) (by omega)) [_, _, _, _, _, _, _] (by simp) (by simp) | exact pick_ok (hQ _ (by omega) (by omega)) [_, _, _, _, _, _, _, _] (by simp) (by simp) | exact pick_ok (hQ _ (by omega) (by omega)) [_, _, _, _, _, _, _, _, _] (by simp) (by simp) | exact pick_ok (hQ _ (by omega) (by omega)) [_, _, _, _, _, _, _, _, _, _] (by simp) (by simp) | exact some_ok (hQ _ (by omega) (by omega)) [_] (by simp) (by simp) | exact some_ok (hQ _ (by omega) (by omega)) [_, _] (by simp) (by simp) | exact some_ok (hQ _ (by omega) (by omega)) [_, _, _] (by simp) (by simp) | exact some_ok (hQ _ (by omega) (by omega)) [_, _, _, _] (by simp) (by simp) | exact some_ok (hQ _ (by omega) (by omega)) [_, _, _, _, _] (by simp) (by simp) | exact some_ok (hQ _ (by omega) (by omega)) [_, _, _, _, _, _] (by simp) (by simp) | exact some_ok (hQ _ (by omega) (by omega)) [_, _, _, _, _, _, _] (by simp) (by simp) | exact some_ok (hQ _ (by omega) (by omega)) [_, _, _, _, _, _, _, _] (by simp) (by simp) | exact cloneEv_pc A (by omega)) ?_; conv => whnf) | (refine Ask.mk (by first | omega | (unfold roomOK; simp [cutRows]; done) | (unfold roomOK; simp [cutRows]; omega) | (simp [cutRows]; done) | (simp [cutRows]; omega)) ?_; conv => whnf) | (refine AppG.mk (by first | omega | (unfold roomOK; simp [cutRows]; done) | (unfold roomOK; simp [cutRows]; omega) | (simp [cutRows]; done) | (simp [cutRows]; omega)) ?_; conv => whnf) | (refine SliceG.fr ?_; conv => whnf) | (refine BuildG.fr ?_; conv => whnf) | (refine idx_at _ (by with_reducible rfl) (by first | assumption | omega) ?_; conv => whnf) | ((with_reducible refine row_map (by first | assumption | omega) ?_); conv => whnf) | (refine row_str (by rfl) (by first | (simp [cutRows]; done) | (simp [cutRows]; omega)) ?_; intro str; conv => whnf) | ((with_reducible refine row_set (by first | assumption | omega | (simp only [List.length_set]; omega) | (simp; omega)) ?_); conv => whnf) | fail)
  all_goals generalize pickV L q [0, 1, 5, 20, 1000000, -1] = near at *
  all_goals generalize pickV L (q + 1) [0, 2, 10, -1, 10001] = loss at *
  · clear c1 c2
    refine loop_for (A.length) [] [3, 4, 5, 6, 7, 41, 42] (fun k (_ : Unit) => [(42, .c (.int .i64 (k : Int)))]) (fun k (_ : Unit) => [(0, stO L (q + 1 + 1 + 1 + k)), (1, .row 32 2 ((bumpI L (q + 1 + 1 + 1) A k).map encQ))]) (fun k (_ : Unit) => True) (()) ?_
    conv => whnf
    refine ⟨?_, (by trivial), ?_, ?_⟩
    · rw [show q + 1 + 1 + 1 + ((0 : Nat) : Int) = q + 1 + 1 + 1 by omega]; rfl
    · intro k _ hk _
      have hbl := bumpI_len L (q + 1 + 1 + 1) A k
      have hk2 : k < (bumpI L (q + 1 + 1 + 1) A k).length := by omega
      have e := bumpI_map L (q + 1 + 1 + 1) A hk hk2
      generalize bumpI L (q + 1 + 1 + 1) A k = C at *
      have hCm : (C.map encQ).length = C.length := List.length_map ..
      have c3 := pick_ok (L := L) (p := q + 1 + 1 + 1 + k) ⟨hL, by omega, by omega⟩ [0, 1] (by decide) (by decide)
      conv => whnf
      repeat' (first | ((first | refine Split.mk (fun h => ?_) (fun h => ?_) | refine CondG.mk (fun h => ?_) (fun h => ?_)) <;> (try simp only [decide_eq_true_eq, decide_eq_false_iff_not, Bool.not_eq_true', Bool.not_eq_false', beq_iff_eq, beq_eq_false_iff_ne, bne_iff_ne, bne_eq_false_iff_eq] at h) <;> (first | (exfalso; first | omega | exact h trivial) | (conv => whnf))) | (refine CallX.mk _ _ (by first | exact c3) ?_; conv => whnf) | (refine CallG.mk _ _ (by first | exact c3) ?_; conv => whnf) | (refine Ask.mk (by first | omega | (unfold roomOK; simp [cutRows]; done) | (unfold roomOK; simp [cutRows]; omega) | (simp [cutRows]; done) | (simp [cutRows]; omega)) ?_; conv => whnf) | (refine AppG.mk (by first | omega | (unfold roomOK; simp [cutRows]; done) | (unfold roomOK; simp [cutRows]; omega) | (simp [cutRows]; done) | (simp [cutRows]; omega)) ?_; conv => whnf) | (refine SliceG.fr ?_; conv => whnf) | (refine BuildG.fr ?_; conv => whnf) | (refine idx_at _ (by with_reducible rfl) (by first | assumption | omega) ?_; conv => whnf) | ((with_reducible refine row_map (by first | assumption | omega) ?_); conv => whnf) | ((with_reducible refine row_set (by first | assumption | omega | (simp only [List.length_set]; omega) | (simp; omega)) ?_); conv => whnf) | fail)
      exact count_next () hk (by rw [wrap_succ hk (by omega), e, show q + 1 + 1 + 1 + ((k + 1 : Nat) : Int) = q + 1 + 1 + 1 + (k : Int) + 1 by omega]; rfl) trivial
    · intro _ _
      have hbl := bumpI_len L (q + 1 + 1 + 1) A A.length
      generalize bumpI L (q + 1 + 1 + 1) A A.length = C at *
      have hCm : (C.map encQ).length = C.length := List.length_map ..
      have cM := match_pc A C near
      have cX := explained_pc A C near loss
      have cF1 := evs_fault_pc A (by omega)
      have cF2 := evs_fault_pc C (by omega)
      have cN1 := nearF_pc near 0
      have cN2 := nearF_pc near loss
      have cE1 := errs_pc [Hd.evFault A, Hd.evFault C, Hd.nearE near 0] (by simp)
      have cE2 := errs_pc [Hd.evFault A, Hd.evFault C, Hd.nearE near loss] (by simp)
      rw [show firstErr [Hd.evFault A, Hd.evFault C, Hd.nearE near 0] = Hd.mErr A C near from rfl] at cE1
      rw [show firstErr [Hd.evFault A, Hd.evFault C, Hd.nearE near loss] = Hd.xErr A C near loss from rfl] at cE2
      rw [mpI_enc] at cM
      have hX := xErr_split A C near loss
      by_cases hm : Hd.mErr A C near = 0
      · obtain ⟨hfA, hfB, _⟩ := Hd.mErr_ok hm
        have cR := rMatchOf_pc A C near hfA hfB
        have q1 : Hd.mL A C near = bsM A C near := if_pos hm
        have q2 : Hd.mS A C near = (Hd.bestM A C near 0 0).2 := if_pos hm
        have hpl : (bsM A C near).length ≤ A.length - 0 := (Hd.bestM_rise A C near 0 0).len
        have k1 := eqMaR_pc (bsM A C near) (by omega)
        rw [q1, q2, hm] at cM
        rw [hm] at cE1
        by_cases hx : Hd.xErr A C near loss = 0
        · have cY := rExplained_pc A C near loss hx
          have hri := Hd.bestM_rise A C near 0 0
          rw [worse_eq (wrs A C loss) (P := bsM A C near) (m := C.length) (hri.2.imp fun h => h.2) (fun p hp => (hri.1 p hp).2.2.2)] at cY
          have q3 : xMi A C near loss = missV (bsM A C near) A.length := if_pos hx
          have q4 : xFr A C near loss = freshV (bsM A C near) C.length := if_pos hx
          have q5 : xWo A C near loss = worseV (wrs A C loss) (bsM A C near) := if_pos hx
          rw [q3, q4, q5, hx] at cX
          rw [hx] at cE2
          have l1 := missV_len (bsM A C near) A.length
          have l2 := freshV_len (bsM A C near) C.length
          have l3 := worseV_len (wrs A C loss) (bsM A C near)
          have k2 := eqNaR_pc (missV (bsM A C near) A.length) (by omega)
          have k3 := eqNaR_pc (freshV (bsM A C near) C.length) (by omega)
          have k4 := eqNaR_pc (worseV (wrs A C loss) (bsM A C near)) (by omega)
          generalize missV (bsM A C near) A.length = xm at *
          generalize freshV (bsM A C near) C.length = xf at *
          generalize worseV (wrs A C loss) (bsM A C near) = xw at *
          clear hri q1 q2 q3 q4 q5 hX hfA hfB
          have cR' : PCp 13 [.c (.lst 2 (A.map encQ)), .c (.lst 2 (C.map encQ)), .c (.int .i64 near)] [] (.tup [.c (.lst 2 ((bsM A C near).map encM)), .c (.int .i64 (Hd.bestM A C near 0 0).2)]) [] := cR
          clear cR
          generalize (Hd.bestM A C near 0 0).2 = sm at *
          generalize bsM A C near = P at *
          conv => whnf
          repeat' (first | ((first | refine Split.mk (fun h => ?_) (fun h => ?_) | refine CondG.mk (fun h => ?_) (fun h => ?_)) <;> (try simp only [decide_eq_true_eq, decide_eq_false_iff_not, Bool.not_eq_true', Bool.not_eq_false', beq_iff_eq, beq_eq_false_iff_ne, bne_iff_ne, bne_eq_false_iff_eq] at h) <;> (first | (exfalso; first | omega | exact h trivial) | (conv => whnf))) | (refine CallX.mk _ _ (by first | exact cM | exact cX | exact cF1 | exact cF2 | exact cN1 | exact cN2 | exact cE1 | exact cE2 | exact cR' | exact cY | exact k1 | exact k2 | exact k3 | exact k4 | exact tracedR_pc) ?_; conv => whnf) | (refine CallG.mk _ _ (by first | exact cM | exact cX | exact cF1 | exact cF2 | exact cN1 | exact cN2 | exact cE1 | exact cE2 | exact cR' | exact cY | exact k1 | exact k2 | exact k3 | exact k4 | exact tracedR_pc) ?_; conv => whnf) | (refine Ask.mk (by first | omega | (unfold roomOK; simp [cutRows]; done) | (unfold roomOK; simp [cutRows]; omega) | (simp [cutRows]; done) | (simp [cutRows]; omega)) ?_; conv => whnf) | (refine AppG.mk (by first | omega | (unfold roomOK; simp [cutRows]; done) | (unfold roomOK; simp [cutRows]; omega) | (simp [cutRows]; done) | (simp [cutRows]; omega)) ?_; conv => whnf) | (refine SliceG.fr ?_; conv => whnf) | (refine BuildG.fr ?_; conv => whnf) | (refine idx_at _ (by with_reducible rfl) (by first | assumption | omega) ?_; conv => whnf) | ((with_reducible refine row_map (by first | assumption | omega) ?_); conv => whnf) | ((with_reducible refine row_set (by first | assumption | omega | (simp only [List.length_set]; omega) | (simp; omega)) ?_); conv => whnf) | fail)
          all_goals first | exact finb rfl | (exact .mk ⟨rfl, rfl⟩) | (exfalso; exact absurd rfl h) | (exfalso; omega) | (exfalso; simp at h; done) | skip
          all_goals trace_state
        · have q3 : xMi A C near loss = [] := if_neg hx
          have q4 : xFr A C near loss = [] := if_neg hx
          have q5 : xWo A C near loss = [] := if_neg hx
          rw [q3, q4, q5] at cX
          have k2 := eqNaR_pc [] (by simp)
          clear q1 q2 q3 q4 q5 hX hfA hfB
          have cR' : PCp 13 [.c (.lst 2 (A.map encQ)), .c (.lst 2 (C.map encQ)), .c (.int .i64 near)] [] (.tup [.c (.lst 2 ((bsM A C near).map encM)), .c (.int .i64 (Hd.bestM A C near 0 0).2)]) [] := cR
          clear cR
          generalize (Hd.bestM A C near 0 0).2 = sm at *
          generalize bsM A C near = P at *
          generalize Hd.xErr A C near loss = xe at *
          conv => whnf
          repeat' (first | ((first | refine Split.mk (fun h => ?_) (fun h => ?_) | refine CondG.mk (fun h => ?_) (fun h => ?_)) <;> (try simp only [decide_eq_true_eq, decide_eq_false_iff_not, Bool.not_eq_true', Bool.not_eq_false', beq_iff_eq, beq_eq_false_iff_ne, bne_iff_ne, bne_eq_false_iff_eq] at h) <;> (first | (exfalso; first | omega | exact h trivial) | (conv => whnf))) | (refine CallX.mk _ _ (by first | exact cM | exact cX | exact cF1 | exact cF2 | exact cN1 | exact cN2 | exact cE1 | exact cE2 | exact cR' | exact k1 | exact k2 | exact eqMaN_pc | exact eqNaN_pc | exact tracedR_pc) ?_; conv => whnf) | (refine CallG.mk _ _ (by first | exact cM | exact cX | exact cF1 | exact cF2 | exact cN1 | exact cN2 | exact cE1 | exact cE2 | exact cR' | exact k1 | exact k2 | exact eqMaN_pc | exact eqNaN_pc | exact tracedR_pc) ?_; conv => whnf) | (refine Ask.mk (by first | omega | (unfold roomOK; simp [cutRows]; done) | (unfold roomOK; simp [cutRows]; omega) | (simp [cutRows]; done) | (simp [cutRows]; omega)) ?_; conv => whnf) | (refine AppG.mk (by first | omega | (unfold roomOK; simp [cutRows]; done) | (unfold roomOK; simp [cutRows]; omega) | (simp [cutRows]; done) | (simp [cutRows]; omega)) ?_; conv => whnf) | (refine SliceG.fr ?_; conv => whnf) | (refine BuildG.fr ?_; conv => whnf) | (refine idx_at _ (by with_reducible rfl) (by first | assumption | omega) ?_; conv => whnf) | ((with_reducible refine row_map (by first | assumption | omega) ?_); conv => whnf) | ((with_reducible refine row_set (by first | assumption | omega | (simp only [List.length_set]; omega) | (simp; omega)) ?_); conv => whnf) | fail)
          all_goals first | exact finb rfl | (exact .mk ⟨rfl, rfl⟩) | (exfalso; exact absurd rfl h) | (exfalso; omega) | (exfalso; simp at h; done) | skip
          all_goals trace_state
      · rw [if_neg hm] at hX
        have q1 : Hd.mL A C near = [] := if_neg hm
        have q2 : Hd.mS A C near = 0 := if_neg hm
        have hx : Hd.xErr A C near loss ≠ 0 := by rw [hX]; exact hm
        have q3 : xMi A C near loss = [] := if_neg hx
        have q4 : xFr A C near loss = [] := if_neg hx
        have q5 : xWo A C near loss = [] := if_neg hx
        rw [q3, q4, q5] at cX
        rw [q1, q2] at cM
        have k1 := eqMaR_pc [] (by simp)
        have k2 := eqNaR_pc [] (by simp)
        clear q1 q2 q3 q4 q5 hX
        generalize Hd.xErr A C near loss = xe at *
        generalize Hd.mErr A C near = me at *
        conv => whnf
        repeat' (first | ((first | refine Split.mk (fun h => ?_) (fun h => ?_) | refine CondG.mk (fun h => ?_) (fun h => ?_)) <;> (try simp only [decide_eq_true_eq, decide_eq_false_iff_not, Bool.not_eq_true', Bool.not_eq_false', beq_iff_eq, beq_eq_false_iff_ne, bne_iff_ne, bne_eq_false_iff_eq] at h) <;> (first | (exfalso; first | omega | exact h trivial) | (conv => whnf))) | (refine CallX.mk _ _ (by first | exact cM | exact cX | exact cF1 | exact cF2 | exact cN1 | exact cN2 | exact cE1 | exact cE2 | exact k1 | exact k2 | exact eqMaN_pc | exact eqNaN_pc | exact tracedR_pc) ?_; conv => whnf) | (refine CallG.mk _ _ (by first | exact cM | exact cX | exact cF1 | exact cF2 | exact cN1 | exact cN2 | exact cE1 | exact cE2 | exact k1 | exact k2 | exact eqMaN_pc | exact eqNaN_pc | exact tracedR_pc) ?_; conv => whnf) | (refine Ask.mk (by first | omega | (unfold roomOK; simp [cutRows]; done) | (unfold roomOK; simp [cutRows]; omega) | (simp [cutRows]; done) | (simp [cutRows]; omega)) ?_; conv => whnf) | (refine AppG.mk (by first | omega | (unfold roomOK; simp [cutRows]; done) | (unfold roomOK; simp [cutRows]; omega) | (simp [cutRows]; done) | (simp [cutRows]; omega)) ?_; conv => whnf) | (refine SliceG.fr ?_; conv => whnf) | (refine BuildG.fr ?_; conv => whnf) | (refine idx_at _ (by with_reducible rfl) (by first | assumption | omega) ?_; conv => whnf) | ((with_reducible refine row_map (by first | assumption | omega) ?_); conv => whnf) | ((with_reducible refine row_set (by first | assumption | omega | (simp only [List.length_set]; omega) | (simp; omega)) ?_); conv => whnf) | fail)
        all_goals first | exact finb rfl | (exact .mk ⟨rfl, rfl⟩) | (exfalso; exact absurd rfl h) | (exfalso; omega) | (exfalso; simp at h; done) | skip
        all_goals trace_state
  · clear c1 c2
    have hBm : (B.map encQ).length = B.length := List.length_map ..
    have cM := match_pc A B near
    have cX := explained_pc A B near loss
    have cF1 := evs_fault_pc A (by omega)
    have cF2 := evs_fault_pc B (by omega)
    have cN1 := nearF_pc near 0
    have cN2 := nearF_pc near loss
    have cE1 := errs_pc [Hd.evFault A, Hd.evFault B, Hd.nearE near 0] (by simp)
    have cE2 := errs_pc [Hd.evFault A, Hd.evFault B, Hd.nearE near loss] (by simp)
    rw [show firstErr [Hd.evFault A, Hd.evFault B, Hd.nearE near 0] = Hd.mErr A B near from rfl] at cE1
    rw [show firstErr [Hd.evFault A, Hd.evFault B, Hd.nearE near loss] = Hd.xErr A B near loss from rfl] at cE2
    rw [mpI_enc] at cM
    have hX := xErr_split A B near loss
    by_cases hm : Hd.mErr A B near = 0
    · obtain ⟨hfA, hfB, _⟩ := Hd.mErr_ok hm
      have cR := rMatchOf_pc A B near hfA hfB
      have q1 : Hd.mL A B near = bsM A B near := if_pos hm
      have q2 : Hd.mS A B near = (Hd.bestM A B near 0 0).2 := if_pos hm
      have hpl : (bsM A B near).length ≤ A.length - 0 := (Hd.bestM_rise A B near 0 0).len
      have k1 := eqMaR_pc (bsM A B near) (by omega)
      rw [q1, q2, hm] at cM
      rw [hm] at cE1
      by_cases hx : Hd.xErr A B near loss = 0
      · have cY := rExplained_pc A B near loss hx
        have hri := Hd.bestM_rise A B near 0 0
        rw [worse_eq (wrs A B loss) (P := bsM A B near) (m := B.length) (hri.2.imp fun h => h.2) (fun p hp => (hri.1 p hp).2.2.2)] at cY
        have q3 : xMi A B near loss = missV (bsM A B near) A.length := if_pos hx
        have q4 : xFr A B near loss = freshV (bsM A B near) B.length := if_pos hx
        have q5 : xWo A B near loss = worseV (wrs A B loss) (bsM A B near) := if_pos hx
        rw [q3, q4, q5, hx] at cX
        rw [hx] at cE2
        have l1 := missV_len (bsM A B near) A.length
        have l2 := freshV_len (bsM A B near) B.length
        have l3 := worseV_len (wrs A B loss) (bsM A B near)
        have k2 := eqNaR_pc (missV (bsM A B near) A.length) (by omega)
        have k3 := eqNaR_pc (freshV (bsM A B near) B.length) (by omega)
        have k4 := eqNaR_pc (worseV (wrs A B loss) (bsM A B near)) (by omega)
        generalize missV (bsM A B near) A.length = xm at *
        generalize freshV (bsM A B near) B.length = xf at *
        generalize worseV (wrs A B loss) (bsM A B near) = xw at *
        clear hri q1 q2 q3 q4 q5 hX hfA hfB
        have cR' : PCp 13 [.c (.lst 2 (A.map encQ)), .c (.lst 2 (B.map encQ)), .c (.int .i64 near)] [] (.tup [.c (.lst 2 ((bsM A B near).map encM)), .c (.int .i64 (Hd.bestM A B near 0 0).2)]) [] := cR
        clear cR
        generalize (Hd.bestM A B near 0 0).2 = sm at *
        generalize bsM A B near = P at *
        conv => whnf
        repeat' (first | ((first | refine Split.mk (fun h => ?_) (fun h => ?_) | refine CondG.mk (fun h => ?_) (fun h => ?_)) <;> (try simp only [decide_eq_true_eq, decide_eq_false_iff_not, Bool.not_eq_true', Bool.not_eq_false', beq_iff_eq, beq_eq_false_iff_ne, bne_iff_ne, bne_eq_false_iff_eq] at h) <;> (first | (exfalso; first | omega | exact h trivial) | (conv => whnf))) | (refine CallX.mk _ _ (by first | exact cM | exact cX | exact cF1 | exact cF2 | exact cN1 | exact cN2 | exact cE1 | exact cE2 | exact cR' | exact cY | exact k1 | exact k2 | exact k3 | exact k4 | exact tracedR_pc) ?_; conv => whnf) | (refine CallG.mk _ _ (by first | exact cM | exact cX | exact cF1 | exact cF2 | exact cN1 | exact cN2 | exact cE1 | exact cE2 | exact cR' | exact cY | exact k1 | exact k2 | exact k3 | exact k4 | exact tracedR_pc) ?_; conv => whnf) | (refine Ask.mk (by first | omega | (unfold roomOK; simp [cutRows]; done) | (unfold roomOK; simp [cutRows]; omega) | (simp [cutRows]; done) | (simp [cutRows]; omega)) ?_; conv => whnf) | (refine AppG.mk (by first | omega | (unfold roomOK; simp [cutRows]; done) | (unfold roomOK; simp [cutRows]; omega) | (simp [cutRows]; done) | (simp [cutRows]; omega)) ?_; conv => whnf) | (refine SliceG.fr ?_; conv => whnf) | (refine BuildG.fr ?_; conv => whnf) | (refine idx_at _ (by with_reducible rfl) (by first | assumption | omega) ?_; conv => whnf) | ((with_reducible refine row_map (by first | assumption | omega) ?_); conv => whnf) | ((with_reducible refine row_set (by first | assumption | omega | (simp only [List.length_set]; omega) | (simp; omega)) ?_); conv => whnf) | fail)
        all_goals first | exact finb rfl | (exact .mk ⟨rfl, rfl⟩) | (exfalso; exact absurd rfl h) | (exfalso; omega) | (exfalso; simp at h; done) | skip
        all_goals trace_state
      · have q3 : xMi A B near loss = [] := if_neg hx
        have q4 : xFr A B near loss = [] := if_neg hx
        have q5 : xWo A B near loss = [] := if_neg hx
        rw [q3, q4, q5] at cX
        have k2 := eqNaR_pc [] (by simp)
        clear q1 q2 q3 q4 q5 hX hfA hfB
        have cR' : PCp 13 [.c (.lst 2 (A.map encQ)), .c (.lst 2 (B.map encQ)), .c (.int .i64 near)] [] (.tup [.c (.lst 2 ((bsM A B near).map encM)), .c (.int .i64 (Hd.bestM A B near 0 0).2)]) [] := cR
        clear cR
        generalize (Hd.bestM A B near 0 0).2 = sm at *
        generalize bsM A B near = P at *
        generalize Hd.xErr A B near loss = xe at *
        conv => whnf
        repeat' (first | ((first | refine Split.mk (fun h => ?_) (fun h => ?_) | refine CondG.mk (fun h => ?_) (fun h => ?_)) <;> (try simp only [decide_eq_true_eq, decide_eq_false_iff_not, Bool.not_eq_true', Bool.not_eq_false', beq_iff_eq, beq_eq_false_iff_ne, bne_iff_ne, bne_eq_false_iff_eq] at h) <;> (first | (exfalso; first | omega | exact h trivial) | (conv => whnf))) | (refine CallX.mk _ _ (by first | exact cM | exact cX | exact cF1 | exact cF2 | exact cN1 | exact cN2 | exact cE1 | exact cE2 | exact cR' | exact k1 | exact k2 | exact eqMaN_pc | exact eqNaN_pc | exact tracedR_pc) ?_; conv => whnf) | (refine CallG.mk _ _ (by first | exact cM | exact cX | exact cF1 | exact cF2 | exact cN1 | exact cN2 | exact cE1 | exact cE2 | exact cR' | exact k1 | exact k2 | exact eqMaN_pc | exact eqNaN_pc | exact tracedR_pc) ?_; conv => whnf) | (refine Ask.mk (by first | omega | (unfold roomOK; simp [cutRows]; done) | (unfold roomOK; simp [cutRows]; omega) | (simp [cutRows]; done) | (simp [cutRows]; omega)) ?_; conv => whnf) | (refine AppG.mk (by first | omega | (unfold roomOK; simp [cutRows]; done) | (unfold roomOK; simp [cutRows]; omega) | (simp [cutRows]; done) | (simp [cutRows]; omega)) ?_; conv => whnf) | (refine SliceG.fr ?_; conv => whnf) | (refine BuildG.fr ?_; conv => whnf) | (refine idx_at _ (by with_reducible rfl) (by first | assumption | omega) ?_; conv => whnf) | ((with_reducible refine row_map (by first | assumption | omega) ?_); conv => whnf) | ((with_reducible refine row_set (by first | assumption | omega | (simp only [List.length_set]; omega) | (simp; omega)) ?_); conv => whnf) | fail)
        all_goals first | exact finb rfl | (exact .mk ⟨rfl, rfl⟩) | (exfalso; exact absurd rfl h) | (exfalso; omega) | (exfalso; simp at h; done) | skip
        all_goals trace_state
    · rw [if_neg hm] at hX
      have q1 : Hd.mL A B near = [] := if_neg hm
      have q2 : Hd.mS A B near = 0 := if_neg hm
      have hx : Hd.xErr A B near loss ≠ 0 := by rw [hX]; exact hm
      have q3 : xMi A B near loss = [] := if_neg hx
      have q4 : xFr A B near loss = [] := if_neg hx
      have q5 : xWo A B near loss = [] := if_neg hx
      rw [q3, q4, q5] at cX
      rw [q1, q2] at cM
      have k1 := eqMaR_pc [] (by simp)
      have k2 := eqNaR_pc [] (by simp)
      clear q1 q2 q3 q4 q5 hX
      generalize Hd.xErr A B near loss = xe at *
      generalize Hd.mErr A B near = me at *
      conv => whnf
      repeat' (first | ((first | refine Split.mk (fun h => ?_) (fun h => ?_) | refine CondG.mk (fun h => ?_) (fun h => ?_)) <;> (try simp only [decide_eq_true_eq, decide_eq_false_iff_not, Bool.not_eq_true', Bool.not_eq_false', beq_iff_eq, beq_eq_false_iff_ne, bne_iff_ne, bne_eq_false_iff_eq] at h) <;> (first | (exfalso; first | omega | exact h trivial) | (conv => whnf))) | (refine CallX.mk _ _ (by first | exact cM | exact cX | exact cF1 | exact cF2 | exact cN1 | exact cN2 | exact cE1 | exact cE2 | exact k1 | exact k2 | exact eqMaN_pc | exact eqNaN_pc | exact tracedR_pc) ?_; conv => whnf) | (refine CallG.mk _ _ (by first | exact cM | exact cX | exact cF1 | exact cF2 | exact cN1 | exact cN2 | exact cE1 | exact cE2 | exact k1 | exact k2 | exact eqMaN_pc | exact eqNaN_pc | exact tracedR_pc) ?_; conv => whnf) | (refine Ask.mk (by first | omega | (unfold roomOK; simp [cutRows]; done) | (unfold roomOK; simp [cutRows]; omega) | (simp [cutRows]; done) | (simp [cutRows]; omega)) ?_; conv => whnf) | (refine AppG.mk (by first | omega | (unfold roomOK; simp [cutRows]; done) | (unfold roomOK; simp [cutRows]; omega) | (simp [cutRows]; done) | (simp [cutRows]; omega)) ?_; conv => whnf) | (refine SliceG.fr ?_; conv => whnf) | (refine BuildG.fr ?_; conv => whnf) | (refine idx_at _ (by with_reducible rfl) (by first | assumption | omega) ?_; conv => whnf) | ((with_reducible refine row_map (by first | assumption | omega) ?_); conv => whnf) | ((with_reducible refine row_set (by first | assumption | omega | (simp only [List.length_set]; omega) | (simp; omega)) ?_); conv => whnf) | fail)
      all_goals first | exact finb rfl | (exact .mk ⟨rfl, rfl⟩) | (exfalso; exact absurd rfl h) | (exfalso; omega) | (exfalso; simp at h; done) | skip
      all_goals trace_state
end Go.Proofs.Ytjflmenfinohcaa
