/- The generator's stream, by the abstract walk. -/
import Derived.Test.YtjkammhjpjaekaaC1
namespace Go.Proofs.Ytjkammhjpjaekaa
set_option linter.unusedVariables false
set_option linter.unusedSimpArgs false
open Abs

theorem mapAt {α : Type} {enc : α → List V} {l : List α} {k : Nat} (d : α) (h : k < l.length) : 0 ≤ (k : Int) ∧ (l.map enc)[(k : Int).toNat]? = some (enc (l.getD k d)) := ⟨by omega, by simp [h]⟩
theorem mapAtW {α : Type} {enc : α → List V} {l : List α} {e : Int} {j : Nat} (d : α) (he : e = (j : Int)) (h : j < l.length) : 0 ≤ e ∧ (l.map enc)[e.toNat]? = some (enc (l.getD j d)) := by subst he; exact mapAt d h
def encI (n : Int) : List V := [.int .i64 n]
def encS (s : ByteArray) : List V := [.str s]
def firstErr : List Int → Int
  | [] => 0
  | x :: r => if x = 0 then firstErr r else x
theorem firstErr_drop (xs : List Int) (k : Nat) (h : k < xs.length) : firstErr (xs.drop k) = if xs.getD k 0 = 0 then firstErr (xs.drop (k + 1)) else xs.getD k 0 := by
  rw [List.drop_eq_getElem_cons h]; simp [firstErr, h]


def belowV (x n : Int) : Int := if n < 1 then 0 else if x.tmod n < 0 then x.tmod n + n else x.tmod n
theorem belowV_lt (x n : Int) (h : 1 ≤ n) : 0 ≤ belowV x n ∧ belowV x n < n := by
  have h1 := Int.tmod_lt_of_pos x (show 0 < n by omega)
  have h2 : -n < x.tmod n := by
    have := Int.lt_tmod_of_pos x (show 0 < n by omega)
    omega
  unfold belowV
  rw [if_neg (by omega)]
  split <;> omega

set_option maxRecDepth 100000 in
set_option maxHeartbeats 4000000 in
theorem below_pc (x n : Int) (hn : n ≤ 4611686018427387904) : PCp 119 [.c (.int .i64 x), .c (.int .i64 n)] [] (.c (.int .i64 (belowV x n))) [] := by
  refine fn_sound (mt := mts) tab_fits tab_mixed Try.func119 (by rfl) (by kernel_rfl) (by kernel_rfl) Try.results119 (Nat.le_of_ble_eq_true (by kernel_rfl)) ?_
  conv => whnf
  constructor
  · intro h
    conv => whnf
    have h := of_decide_eq_true h
    exact .mk ⟨by simp [oneOf, belowV, h], rfl⟩
  · intro h
    have h := of_decide_eq_false h
    conv => whnf
    refine ⟨by omega, ?_⟩
    conv => whnf
    have h1 := Int.tmod_lt_of_pos x (show 0 < n by omega)
    have h2 : -n < x.tmod n := Int.lt_tmod_of_pos x (show 0 < n by omega)
    constructor
    · intro h3
      have h3 := of_decide_eq_true h3
      conv => whnf
      refine .mk ⟨?_, rfl⟩
      show S.c _ = _
      rw [IntWalk.i64_in _ ⟨by omega, by omega⟩, belowV, if_neg h, if_pos h3]
    · intro h3
      have h3 := of_decide_eq_false h3
      conv => whnf
      refine .mk ⟨?_, rfl⟩
      show S.c _ = _
      rw [belowV, if_neg h, if_neg h3]

def nextV (L : List Int) (p n : Int) : Int :=
  if L.length = 0 then belowV (IntKind.i64.wrap ((p + 1) * 7919)) n
  else belowV (IntKind.i64.wrap (belowV (L.getD (p.tmod L.length).toNat 0) 1073741824 + IntKind.i64.wrap (IntKind.i64.wrap (p.tdiv L.length) * IntKind.i64.wrap (7919 + p.tmod L.length)))) n
theorem nextV_lt (L : List Int) (p n : Int) (h : 1 ≤ n) : 0 ≤ nextV L p n ∧ nextV L p n < n := by
  unfold nextV
  split <;> exact belowV_lt _ _ h

set_option maxRecDepth 100000 in
theorem next_pc (L : List Int) (p n : Int) (hp : 0 ≤ p) (hp2 : p ≤ 1000000000) (hL : L.length ≤ 9223372036854775807) (hn : n ≤ 4611686018427387904) :
    PCp 64 [.c (.ptr 0 0), .c (.int .i64 n)] [.box [.lst 1 (L.map encI), .int .i64 p]] (.c (.int .i64 (nextV L p n))) [.box [.lst 1 (L.map encI), .int .i64 (p + 1)]] := by
  have hw : IntKind.i64.wrap (p + 1) = p + 1 := IntWalk.i64_in _ ⟨by omega, by omega⟩
  have hw2 : IntKind.i64.wrap (p + 1 - 1) = p := by rw [IntWalk.i64_in _ ⟨by omega, by omega⟩]; omega
  refine fn_sound (mt := mts) tab_fits tab_mixed Try.func64 (by rfl) (by kernel_rfl) (by kernel_rfl) Try.results64 (Nat.le_of_ble_eq_true (by kernel_rfl)) ?_
  conv => whnf
  constructor
  · intro h
    have h0 : L.length = 0 := by simpa using h
    conv => whnf
    refine .mk _ _ (below_pc _ _ hn) ?_
    conv => whnf
    refine .mk ⟨?_, ?_⟩
    · show S.c _ = _
      rw [nextV, if_pos h0, hw]
    · show [Ob.box _] = _
      rw [hw]
  · intro h
    have h0 : ¬ L.length = 0 := by
      have := of_decide_eq_false h
      intro e
      simp [e] at this
    conv => whnf
    have hlen : (((L.map encI).length : Nat) : Int) = (L.length : Int) := by simp
    have hne : ¬ (((L.map encI).length : Nat) : Int) = 0 := by rw [hlen]; omega
    refine ⟨hne, ?_⟩
    conv => whnf
    refine ⟨hne, ?_⟩
    conv => whnf
    have hm : IntKind.i64.wrap (IntKind.i64.wrap (p + 1) - 1) = p := by rw [hw, hw2]
    have hi0 : 0 ≤ p.tmod L.length := Int.tmod_nonneg _ hp
    have hi1 : p.tmod L.length < L.length := Int.tmod_lt_of_pos _ (by omega)
    refine ⟨_, mapAtW (j := (p.tmod L.length).toNat) 0 (by rw [hm, hlen]; omega) (by omega), ?_⟩
    conv => whnf
    refine .mk _ _ (below_pc _ _ (by omega)) ?_
    conv => whnf
    refine .mk _ _ (below_pc _ _ hn) ?_
    conv => whnf
    refine .mk ⟨?_, ?_⟩
    · show S.c _ = _
      rw [nextV, if_neg h0, hm, hlen]
    · show [Ob.box _] = _
      rw [hw]

/-- the stream as an object -/
abbrev stO (L : List Int) (p : Int) : Ob := .box [.lst 1 (L.map encI), .int .i64 p]
def pickV (L : List Int) (p : Int) (l : List Int) : Int := l.getD (nextV L p l.length).toNat 0

set_option maxRecDepth 100000 in
theorem pick_pc (L : List Int) (p : Int) (l : List Int) (hp : 0 ≤ p) (hp2 : p ≤ 1000000000) (hL : L.length ≤ 9223372036854775807) (h1 : 1 ≤ l.length) (h2 : l.length ≤ 1000000000) :
    PCp 52 [.c (.ptr 0 0), .c (.lst 1 (l.map encI))] [stO L p] (.c (.int .i64 (pickV L p l))) [stO L (p + 1)] := by
  have hlen : (((l.map encI).length : Nat) : Int) = (l.length : Int) := by simp
  have hb := nextV_lt L p l.length (by omega)
  refine fn_sound (mt := mts) tab_fits tab_mixed Try.func52 (by rfl) (by kernel_rfl) (by kernel_rfl) Try.results52 (Nat.le_of_ble_eq_true (by kernel_rfl)) ?_
  conv => whnf
  refine .mk _ _ (next_pc L p _ hp hp2 hL (by rw [hlen]; omega)) ?_
  conv => whnf
  rw [hlen]
  refine ⟨_, mapAtW (j := (nextV L p l.length).toNat) 0 (by omega) (by omega), ?_⟩
  conv => whnf
  exact .mk ⟨rfl, rfl⟩

def rangeV (L : List Int) (p a b : Int) : Int := if b < a then a else a + nextV L p (b - a + 1)
theorem rangeV_in (L : List Int) (p a b : Int) (h : a ≤ b) : a ≤ rangeV L p a b ∧ rangeV L p a b ≤ b := by
  have := nextV_lt L p (b - a + 1) (by omega)
  unfold rangeV
  rw [if_neg (by omega)]
  omega
def small (x : Int) : Prop := -1000000000000 ≤ x ∧ x ≤ 1000000000000

set_option maxRecDepth 100000 in
theorem range_pc (L : List Int) (p a b : Int) (hp : 0 ≤ p) (hp2 : p ≤ 1000000000) (hL : L.length ≤ 9223372036854775807) (hab : a ≤ b) (ha : small a) (hb : small b) :
    PCp 51 [.c (.ptr 0 0), .c (.int .i64 a), .c (.int .i64 b)] [stO L p] (.c (.int .i64 (rangeV L p a b))) [stO L (p + 1)] := by
  have e1 : IntKind.i64.wrap (b - a) = b - a := IntWalk.i64_in _ (by unfold small at *; omega)
  have e2 : IntKind.i64.wrap (b - a + 1) = b - a + 1 := IntWalk.i64_in _ (by unfold small at *; omega)
  have hn := nextV_lt L p (b - a + 1) (by omega)
  refine fn_sound (mt := mts) tab_fits tab_mixed Try.func51 (by rfl) (by kernel_rfl) (by kernel_rfl) Try.results51 (Nat.le_of_ble_eq_true (by kernel_rfl)) ?_
  conv => whnf
  constructor
  · intro h
    have h := of_decide_eq_true h
    omega
  · intro h
    conv => whnf
    rw [e1, e2]
    refine .mk _ _ (next_pc L p _ hp hp2 hL (by unfold small at *; omega)) ?_
    conv => whnf
    refine .mk ⟨?_, rfl⟩
    show S.c _ = _
    rw [IntWalk.i64_in _ (by unfold small at *; omega), rangeV, if_neg (by omega)]

def someV (L : List Int) (p : Int) (l : List ByteArray) : ByteArray := l.getD (nextV L p l.length).toNat default
theorem someV_in (L : List Int) (p : Int) (l : List ByteArray) (h : 1 ≤ l.length) : someV L p l ∈ l := by
  have := nextV_lt L p l.length (by omega)
  have h2 : (nextV L p l.length).toNat < l.length := by omega
  unfold someV
  have : l.getD (nextV L p l.length).toNat default = l[(nextV L p l.length).toNat] := by simp [h2]
  rw [this]
  exact List.getElem_mem h2

set_option maxRecDepth 100000 in
theorem some_pc (L : List Int) (p : Int) (l : List ByteArray) (hp : 0 ≤ p) (hp2 : p ≤ 1000000000) (hL : L.length ≤ 9223372036854775807) (h1 : 1 ≤ l.length) (h2 : l.length ≤ 1000000000) :
    PCp 7 [.c (.ptr 0 0), .c (.lst 1 (l.map encS))] [stO L p] (.c (.str (someV L p l))) [stO L (p + 1)] := by
  have hlen : (((l.map encS).length : Nat) : Int) = (l.length : Int) := by simp
  have hb := nextV_lt L p l.length (by omega)
  refine fn_sound (mt := mts) tab_fits tab_mixed Try.func7 (by rfl) (by kernel_rfl) (by kernel_rfl) Try.results7 (Nat.le_of_ble_eq_true (by kernel_rfl)) ?_
  conv => whnf
  refine .mk _ _ (next_pc L p _ hp hp2 hL (by rw [hlen]; omega)) ?_
  conv => whnf
  rw [hlen]
  refine ⟨_, mapAtW (j := (nextV L p l.length).toNat) default (by omega) (by omega), ?_⟩
  conv => whnf
  exact .mk ⟨rfl, rfl⟩

set_option maxRecDepth 100000 in
set_option maxHeartbeats 4000000 in
theorem flip_pc (L : List Int) (p n : Int) (hp : 0 ≤ p) (hp2 : p ≤ 1000000000) (hL : L.length ≤ 9223372036854775807) (hn : n ≤ 1000000000) :
    PCp 60 [.c (.ptr 0 0), .c (.int .i64 n)] [stO L p] (.c (.bool (nextV L p n == 0))) [stO L (p + 1)] := by
  refine fn_sound (mt := mts) tab_fits tab_mixed Try.func60 (by rfl) (by kernel_rfl) (by kernel_rfl) Try.results60 (Nat.le_of_ble_eq_true (by kernel_rfl)) ?_
  conv => whnf
  refine .mk _ _ (next_pc L p _ hp hp2 hL (by omega)) ?_
  conv => whnf
  exact .mk ⟨rfl, rfl⟩


/-- a stream that goes on -/
def StOk (L : List Int) (p : Int) : Prop := L.length ≤ 9223372036854775807 ∧ 0 ≤ p ∧ p ≤ 900000000
theorem next_ok {L : List Int} {p : Int} (h : StOk L p) (n : Int) (hn : n ≤ 1000000000) : PCp 64 [.c (.ptr 0 0), .c (.int .i64 n)] [stO L p] (.c (.int .i64 (nextV L p n))) [stO L (p + 1)] :=
  next_pc L p n h.2.1 (by have := h.2.2; omega) h.1 (by omega)
theorem flip_ok {L : List Int} {p : Int} (h : StOk L p) (n : Int) (hn : n ≤ 1000000000) : PCp 60 [.c (.ptr 0 0), .c (.int .i64 n)] [stO L p] (.c (.bool (nextV L p n == 0))) [stO L (p + 1)] :=
  flip_pc L p n h.2.1 (by have := h.2.2; omega) h.1 hn
theorem pick_ok {L : List Int} {p : Int} (h : StOk L p) (l : List Int) (h1 : 1 ≤ l.length) (h2 : l.length ≤ 1000000000) : PCp 52 [.c (.ptr 0 0), .c (.lst 1 (l.map encI))] [stO L p] (.c (.int .i64 (pickV L p l))) [stO L (p + 1)] :=
  pick_pc L p l h.2.1 (by have := h.2.2; omega) h.1 h1 h2
theorem some_ok {L : List Int} {p : Int} (h : StOk L p) (l : List ByteArray) (h1 : 1 ≤ l.length) (h2 : l.length ≤ 1000000000) : PCp 7 [.c (.ptr 0 0), .c (.lst 1 (l.map encS))] [stO L p] (.c (.str (someV L p l))) [stO L (p + 1)] :=
  some_pc L p l h.2.1 (by have := h.2.2; omega) h.1 h1 h2
theorem range_ok {L : List Int} {p : Int} (h : StOk L p) (a b : Int) (hab : a ≤ b) (ha : small a) (hb : small b) : PCp 51 [.c (.ptr 0 0), .c (.int .i64 a), .c (.int .i64 b)] [stO L p] (.c (.int .i64 (rangeV L p a b))) [stO L (p + 1)] :=
  range_pc L p a b h.2.1 (by have := h.2.2; omega) h.1 hab ha hb
end Go.Proofs.Ytjkammhjpjaekaa
